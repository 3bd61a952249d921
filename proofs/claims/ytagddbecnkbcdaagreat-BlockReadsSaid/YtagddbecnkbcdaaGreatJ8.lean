/- Texts of this proof, joined. -/
import Derived.Test.YtagddbecnkbcdaaGreatJ5
import Derived.Test.YtagddbecnkbcdaaGreatJ6
import Derived.Test.YtagddbecnkbcdaaGreatJ7
import Derived.Lib.ItoaNum
import Derived.Lib.Repeat
import Derived.Lib.Join
import Derived.Lib.TrimByte
import Derived.Laws.RangeAny
import Derived.Laws.RangeString
set_option linter.all false
namespace Go.Gm
def cpN:List UInt8->List UInt8->Nat
 | a::l,b::m=>if a=b then cpN l m+1 else 0
 | _,_=>0
theorem SC:∀a b:List UInt8,cpN a b<=a.length/\cpN a b<=b.length
 | [],_=>⟨Ve _,Ve _⟩
 | _::_,[]=>⟨Ve _,Ve _⟩
 | a::l,b::m=>by
  have:=SC l m;unfold cpN;by_cases h:a=b
  ·rw[if_pos h];simp only[zXj];omega
  ·rw[if_neg h];exact⟨Ve _,Ve _⟩
theorem cpN_get:∀(a b:List UInt8) (i:Nat),i<cpN a b->a[i]? = b[i]?
 | [],_,i,h=>by simp[cpN]at h
 | _::_,[],i,h=>by simp[cpN]at h
 | a::l,b::m,i,h=>by
  unfold cpN at h;by_cases e:a=b
  ·rw[if_pos e]at h;cases i with
   | zero=>simp[e]
   | succ i=>simpa using cpN_get l m i (by omega)
  ·rw[if_neg e]at h;omega
theorem SA:∀(a b:List UInt8),cpN a b<a.length->cpN a b<b.length->a[cpN a b]? ≠ b[cpN a b]?
 | [],_,h,_=>by simp[cpN]at h
 | _::_,[],_,h=>by simp[cpN]at h
 | a::l,b::m,h,h2=>by
  by_cases e:a=b
  ·have ec:cpN (a::l) (b::m)=cpN l m+1:=by rw[cpN,if_pos e]
   rw[ec]at h h2 ⊢;simpa using SA l m (by simpa using h) (by simpa using h2)
  ·have ec:cpN (a::l) (b::m)=0:=by rw[cpN,if_neg e]
   rw[ec];simpa using e
theorem q_common (a b:List UInt8)(H:Aa)(ha:a.length<1152921504606846976):Sh.f3v (.str a) (.str b) H=some (.ret (.i6 (cpN a b:Int)),H):=by
 unfold Sh.f3v;have hm:(min (a.length:Int) (b.length:Int))=((min a.length b.length:Nat):Int):=by omega
 have hle:=SC a b;have l1:BM (.str a)=some (.i6 (a.length:Int)):=rfl;have l2:BM (.str b)=some (.i6 (b.length:Int)):=rfl;simp only[GMw,l1,l2,min_int,hm];have key:=AZ (G:=λrec1 vs H1=>Sh.f75 H rec1 (ag vs 0) (ag vs 1) (ag vs 2) (ag vs 3) (ag vs 4) H1) (σ:=Nat) (λi=>i<=cpN a b)
  (λi=>[.str a,.str b,.i6 ((min a.length b.length:Nat):Int),.i6 ((min a.length b.length:Nat):Int),.i6 (i:Int)]) (λ_=>H) (λi=>cpN a b-i)
  (λ_=>some (.ret (.i6 (cpN a b:Int)),H)) (λi rec hi hrec=>?_) 0 (Ve _) (by omega)
 ·exact key
 ·unfold Sh.f75;by_cases hlt:i<min a.length b.length
  ·have hlt':(i:Int)<((min a.length b.length:Nat):Int):=by omega
   have h1:i<a.length:=by omega
   have h2:i<b.length:=by omega
   simp only[GMw,Ai,hlt',B1 h1,B1 h2];by_cases e:i=cpN a b
   ·have hne:=SA a b (by omega) (by omega);rw[<-e,UG h1,UG h2]at hne;have hn:¬((a[i].toNat:Int)=(b[i].toNat:Int)):=λhc=>hne (congrArg some (WB.1 (by omega)));simp only[hn,GMw,not_false_eq_true];rw[e]
   ·have hg:=cpN_get a b i (by omega);rw[UG h1,UG h2]at hg;have hg':=Wc hg;simp only[hg',GMw,not_true_eq_false,As (show i<9223372036854775807 by omega)];exact hrec (i+1) (by omega) (by omega)
  ·have hlt':¬(i:Int)<((min a.length b.length:Nat):Int):=by omega
   simp only[GMw,Ai,hlt'];have:min a.length b.length=cpN a b:=by omega
   rw[this]
def mustO (H:Aa)(p:Nat)(b:List UInt8)(r:List Ab)(a:Nat)(s rest:List UInt8):Out:=
 if cpN (b.drop a) s<s.length then some (.pan (PZ b (a+cpN (b.drop a) s) (s.drop (cpN (b.drop a) s)++rest)),Ct H p b r (a+cpN (b.drop a) s))
 else some (.ret (.tup []),Ct H p b r (a+cpN (b.drop a) s))
theorem lx_must {H:Aa}{p a:Nat}{b:List UInt8}{r:List Ab}(h:Lx H p b a r)(ha:a<=b.length)(hb:b.length<1152921504606846976)(s rest:List UInt8)(hs:s.length<=1000000)(hr:rest.length<=1000000) :
  Sh.fd (.ptr p 0 0) (.str s) (.str rest) H=mustO H p b r a s rest:=by
 unfold Sh.fd mustO;have hle:=SC (b.drop a) s;have hd:(b.drop a).length=b.length-a:=Vc;have hq:=q_common (b.drop a) s H (by omega);have l2:BM (.str s)=some (.i6 (s.length:Int)):=rfl;generalize cpN (b.drop a) s=n at hq hle ⊢;have hw:IntKind.i64.wrap ((a:Int)+(n:Int))=((a+n:Nat):Int):=by rw[Ao] <;> omega
 have hm:=Ks (a':=a) h (a+n);rw[EE h]at hm;have hx:=Gz (a':=a+n) h;simp only[GMw,Aj,Ah,UJ,lx_b h,HF h,EY ha,hq,hw,hm,l2];by_cases hc:n<s.length
 ·have bX:(n:Int)<(s.length:Int):=by omega
  have iE:Af .none .add (.str (s.drop n)) (.str rest)=some (.str (s.drop n++rest)):=Dh (by rw[Vc];omega);simp only[bX,GMw,EY hle.2,iE,MI hx,if_pos hc]
  rfl
 ·have bX:¬(n:Int)<(s.length:Int):=by omega
  simp only[bX,GMw,if_neg hc]
def Cg (b:List UInt8)(a:Nat)(e:Int):List Ab:=[.str b,.i6 (a:Int),.i6 e]
abbrev BE (b:List UInt8)(a:Nat)(e:Int):Ab:=.agg (Cg b a e)
theorem EF (b:List UInt8)(a:Nat)(e:Int)(H:Aa):Sh.fa (BE b a e) H=some (.ret (.bool (decide (b.length<=a))),H):=by
 unfold Sh.fa BE Cg;simp only[GMw,HPw,Nat.reduceAdd,Nat.reduceLT];have:decide ((a:Int)>=(b.length:Int))=decide (b.length<=a):=by rw[Va];simp
 rw[this]
def NO (b:List UInt8)(a:Nat):Int:=if b.length<=a then 3 else 2
theorem IA (b:List UInt8)(a:Nat)(e:Int)(H:Aa):Sh.fb (BE b a e) H=some (.ret (BE b a (NO b a)),H):=by
 unfold Sh.fb BE Cg NO;have he:=λe H=>EF b a e H;unfold BE Cg at he;simp only[GMw,HPw,Nat.reduceAdd,Nat.reduceLT,he];by_cases h:b.length<=a
 ·simp only[h,GMw,HPw,Nat.reduceAdd,Nat.reduceLT]
 ·simp only[h,GMw,HPw,Nat.reduceAdd,Nat.reduceLT]
def isB (b:List UInt8)(a:Nat)(c:UInt8):Bool:=decide (b[a]? = some c)
theorem u8_eq (c d:UInt8):decide ((c.toNat:Int)=(d.toNat:Int))=decide (c=d):=by
 rw[Va];simp only[zXe];constructor
 ·intro h;exact WS (by omega)
 ·intro h;rw[h]
theorem R0 (b:List UInt8)(a:Nat)(e:Int)(c:UInt8)(H:Aa):Sh.fn (BE b a e) (.int .u8 (c.toNat:Int)) H=some (.ret (.bool (decide (e=0)&&isB b a c)),H):=by
 unfold Sh.fn BE Cg isB;have he:=λe H=>EF b a e H;unfold BE Cg at he;simp only[GMw,HPw,Nat.reduceAdd,Nat.reduceLT];by_cases h0:e=0
 ·simp only[h0,GMw,HPw,Nat.reduceAdd,Nat.reduceLT,he];by_cases h:b.length<=a
  ·simp only[h,GMw,HPw,Nat.reduceAdd,Nat.reduceLT,zYb h,reduceCtorEq]
  ·have hlt:a<b.length:=by omega
   simp only[h,GMw,HPw,Nat.reduceAdd,Nat.reduceLT,B1 hlt,UG hlt,u8_eq,UQ]
 ·simp only[h0,GMw,HPw,Nat.reduceAdd,Nat.reduceLT]
theorem r04_common (a b:List UInt8)(H:Aa)(ha:a.length<1152921504606846976):Sh.f6b (.str a) (.str b) H=some (.ret (.i6 (cpN a b:Int)),H):=by
 unfold Sh.f6b;have hle:=SC a b;refine AZ (σ:=Nat) (λi=>i<=cpN a b) (λi=>[.str a,.str b,.i6 (i:Int)]) (λ_=>H) (λi=>cpN a b-i) (λ_=>some (.ret (.i6 (cpN a b:Int)),H)) (λi rec hi hrec=>?_) 0 (Ve _) (by omega);unfold Sh.f8x;have stop:i=cpN a b->(some (Res.ret (.i6 (i:Int)),H):Out)=some (.ret (.i6 (cpN a b:Int)),H):=λh=>by rw[h]
 simp only[GMw,HPw,Nat.reduceAdd,Nat.reduceLT];by_cases h1:i<a.length
 ·have eO:(i:Int)<(a.length:Int):=by omega
  simp only[eO,GMw,HPw,Nat.reduceAdd,Nat.reduceLT];by_cases h2:i<b.length
  ·have kO:(i:Int)<(b.length:Int):=by omega
   simp only[kO,GMw,HPw,Nat.reduceAdd,Nat.reduceLT,B1 h1,B1 h2,u8_eq];by_cases e:i=cpN a b
   ·have hne:=SA a b (by omega) (by omega);rw[<-e,UG h1,UG h2]at hne;have hn:¬a[i]=b[i]:=λhc=>hne (by rw[hc]);simp only[hn,GMw,HPw,Nat.reduceAdd,Nat.reduceLT];exact stop e
   ·have hg:=cpN_get a b i (by omega);rw[UG h1,UG h2]at hg;have hg':=Wc hg;simp only[hg',GMw,HPw,Nat.reduceAdd,Nat.reduceLT,As (show i<9223372036854775807 by omega)];exact hrec (i+1) (by omega) (by omega)
  ·have kO:¬(i:Int)<(b.length:Int):=by omega
   simp only[kO,GMw,HPw,Nat.reduceAdd,Nat.reduceLT];exact stop (by omega)
 ·have eO:¬(i:Int)<(a.length:Int):=by omega
  simp only[eO,GMw,HPw,Nat.reduceAdd,Nat.reduceLT];exact stop (by omega)
theorem wrap_addN {a n:Nat}(h:a+n<9223372036854775807):IntKind.i64.wrap ((a:Int)+(n:Int))=((a+n:Nat):Int):=by rw[Ao] <;> omega
def Te (b:List UInt8)(a:Nat)(s:List UInt8):Nat:=a+cpN (b.drop a) s
def litE (b:List UInt8)(a:Nat)(s:List UInt8):Int:=if cpN (b.drop a) s<s.length then NO b (Te b a s)else 0
theorem litN_le {b:List UInt8}{a:Nat}(ha:a<=b.length)(s:List UInt8):Te b a s<=b.length:=by
 have:=(SC (b.drop a) s).1;rw[Vc]at this;unfold Te;omega
theorem r15_lit {b:List UInt8}{a:Nat}(ha:a<=b.length)(hb:b.length<1152921504606846976)(s:List UInt8)(H:Aa):Sh.fm (BE b a 0) (.str s) H=some (.ret (BE b (Te b a s) (litE b a s)),H):=by
 unfold Sh.fm BE Cg litE;have hn:=litN_le ha s;have hc:=λH=>r04_common (b.drop a) s H (by rw[Vc];omega);have hst:=λe H=>IA b (Te b a s) e H;unfold BE Cg at hst;have hw:IntKind.i64.wrap ((a:Int)+(cpN (b.drop a) s:Int))=((Te b a s:Nat):Int):=by unfold Te at hn ⊢;exact wrap_addN (by omega)
 simp only[GMw,HPw,Nat.reduceAdd,Nat.reduceLT,EY ha,hc,hw,not_true_eq_false];by_cases h:cpN (b.drop a) s<s.length
 ·have h':(cpN (b.drop a) s:Int)<(s.length:Int):=by omega
  simp only[h',h,GMw,HPw,Nat.reduceAdd,Nat.reduceLT,hst]
 ·have h':¬(cpN (b.drop a) s:Int)<(s.length:Int):=by omega
  simp only[h',h,GMw,HPw,Nat.reduceAdd,Nat.reduceLT]
theorem r15_litX (b:List UInt8)(a:Nat){e:Int}(he:e≠0)(s:List UInt8)(H:Aa):Sh.fm (BE b a e) (.str s) H=some (.ret (BE b a e),H):=by
 unfold Sh.fm BE Cg;simp only[GMw,HPw,Nat.reduceAdd,Nat.reduceLT,he,not_false_eq_true]
theorem q_sign (c:UInt8)(H:Aa):Sh.f3x (.int .u8 (c.toNat:Int)) H=some (.ret (.bool (Nm c)),H):=by
 unfold Sh.f3x Nm;by_cases h:(c.toNat:Int)>32
 ·have:33<=c.toNat:=by omega
  simp[h,this];omega
 ·have:¬33<=c.toNat:=by omega
  simp[h,this]
def onB (b:List UInt8)(f a:Nat):Bool:=match b[a]? with
 | none=>false
 | some c=>decide (a-f<40)&&Nm c
def Ei (b:List UInt8)(f:Nat):Nat->Nat->Nat
 | 0,a=>a
 | n+1,a=>if onB b f a then Ei b f n (a+1)else a
def ruleO (H:Aa)(p:Nat)(b:List UInt8)(r:List Ab)(f e:Nat)(rest:List UInt8):Out:=
 if e=f then some (.pan (PZ b e (97::rest)),Ct H p b r e)else some (.ret (.str ((b.take e).drop f)),Ct H p b r e)
theorem lx_rule_end {H:Aa}{p a f:Nat}{b:List UInt8}{r:List Ab}(h:Lx H p b f r)(hf:f<=a)(ha:a<=b.length)(rest:List UInt8)(hr:rest.length<=1000000) :
  (AI (λj2=>
 (Aj (.ptr p 0 0)).bind λx51=>
 (Ac 1 x51).bind λx52=>
 (Ad false 1 x52 (Ct H p b r a)).bind λx53=>
 (Af .none .eql x53 (.i6 (f:Int))).bind λx54=>
 Ak x54 (
 (Af .none .add (.str [97]) (.str rest)).bind λx55=>
 bK H (Sh.f5 (.ptr p 0 0) x55 (Ct H p b r a)) λx56 H57=>
 j2 [.ptr p 0 0,.i6 (f:Int)] H57) (
 j2 [.ptr p 0 0,.i6 (f:Int)] (Ct H p b r a))) (λvs H1=>Sh.f78 H (ag vs 0) (ag vs 1) H1))=ruleO H p b r f a rest:=by
 have hx:=Gz (a':=a) h;unfold ruleO;have iE:Af .none .add (.str [97]) (.str rest)=some (.str (97::rest)):=Dh (by simp only[zXj,zXk];omega);simp only[GMw,Aj,Ah,UJ,HF hx];by_cases e:a=f
 ·simp only[e,GMw,iE,if_pos];subst e;simp only[MI hx]
  rfl
 ·have e':¬(a:Int)=(f:Int):=by omega
  simp only[e',GMw,if_neg e];unfold Sh.f78;simp only[GMw,Aj,Ah,UJ,HF hx,lx_b hx,Iz hf ha]
theorem ME {b:List UInt8}{f a:Nat}(h:onB b f a=false):∀n,Ei b f n a=a
 | 0=>rfl
 | n+1=>by rw[Ei,h];rfl
theorem ruleN_on {b:List UInt8}{f a:Nat}(h:onB b f a=true)(hf:f<=a):Ei b f (40-(a-f)) a=Ei b f (40-(a+1-f)) (a+1):=by
 have:a-f<40:=by
  unfold onB at h;split at h
  ·cases h
  ·simp at h;exact h.1
 have e:40-(a-f)=(40-(a+1-f))+1:=by omega
 rw[e,Ei,h,if_pos rfl]
theorem onB_lt {b:List UInt8}{f a:Nat}(h:onB b f a=true):a<b.length:=by
 rcases Vy a b.length with h' | h'
 ·exact h'
 ·unfold onB at h;rw[zYb h']at h;cases h
theorem lx_rule {H:Aa}{p f:Nat}{b:List UInt8}{r:List Ab}(h:Lx H p b f r)(hf:f<=b.length)(hb:b.length<1152921504606846976)(rest:List UInt8)(hr:rest.length<=1000000) :
  Sh.f1q (.ptr p 0 0) (.str rest) H=ruleO H p b r f (Ei b f 40 f) rest:=by
 unfold Sh.f1q;simp only[GMw,Aj,Ah,UJ,HF h];have key:=AZ (G:=λrec1 vs H1=>Sh.f79 H rec1 (ag vs 0) (ag vs 1) (ag vs 2) H1) (σ:=Nat) (λi=>f<=i/\i<=b.length) (λ_=>[.ptr p 0 0,.str rest,.i6 (f:Int)]) (λi=>Ct H p b r i) (λi=>b.length-i)
  (λi=>ruleO H p b r f (Ei b f (40-(i-f)) i) rest) (λi rec hi hrec=>?_) f ⟨UK _,hf⟩ (by omega)
 ·rw[EE h,Vr,Nat.sub_zero]at key;exact key
 ·unfold Sh.f79;obtain⟨h1,h2⟩:=hi;have hx:=Gz (a':=i) h;have aO:=lx_rule_end h h1 h2 rest hr;simp only[GMw,JD hx];by_cases e:i=b.length
  ·have ho:onB b f i=false:=by unfold onB;rw[e,zYb (UK _)]
   rw[ME ho];simp only[e,GMw]at aO ⊢;exact aO
  ·have hlt:i<b.length:=by omega
   have hw:IntKind.i64.wrap ((i:Int)-(f:Int))=((i-f:Nat):Int):=by rw[Ao] <;> omega
   simp only[e,GMw,Aj,Ah,UJ,HF hx,lx_b hx,hw];by_cases sQ:i-f<40
   ·have gL:((i-f:Nat):Int)<40:=by omega
    simp only[gL,GMw,Ah,UJ,HF hx,lx_b hx,B1 hlt,q_sign];cases hs:Nm b[i]with
    | true=>
     have ho:onB b f i=true:=by unfold onB;rw[UG hlt];simp[sQ,hs]
     rw[ruleN_on ho h1];simp only[GMw,HF hx,As (show i<9223372036854775807 by omega),Ks h];exact hrec (i+1) ⟨by omega,by omega⟩ (by omega)
    | false=>
     have ho:onB b f i=false:=by unfold onB;rw[UG hlt];simp[hs]
     rw[ME ho];simpa only[GMw,Aj,Ah,UJ,HF hx]using aO
   ·have gL:¬((i-f:Nat):Int)<40:=by omega
    have ho:onB b f i=false:=by unfold onB;rw[UG hlt];simp[sQ]
    rw[ME ho];simpa only[gL,GMw,Aj,Ah,UJ,HF hx]using aO
theorem sees_two {b:List UInt8}{i:Nat}(h:i<b.length)(c d:UInt8):Be b i [c,d]=(decide (b[i]=c)||decide (b[i]=d)):=by
 unfold Be;rw[UG h];simp
theorem HC {b:List UInt8}{i:Nat}(h:i<b.length)(c:UInt8):Be b i [c]=decide (b[i]=c):=by
 unfold Be;rw[UG h];simp
theorem u8_lit (c:UInt8)(n:Nat)(h:n<256):decide ((c.toNat:Int)=(n:Int))=decide (c=UInt8.ofNat n):=by
 have:(UInt8.ofNat n).toNat=n:=by simp[UInt8.toNat_ofNat,VE h]
 rw[<-u8_eq,this]
theorem u8_10 (c:UInt8):decide ((c.toNat:Int)=10)=decide (c=10):=u8_lit c 10 (by decide)
theorem u8_13 (c:UInt8):decide ((c.toNat:Int)=13)=decide (c=13):=u8_lit c 13 (by decide)
theorem r15_any {b:List UInt8}{a:Nat}(ha:a<=b.length)(hb:b.length<1152921504606846976)(H:Aa):Sh.f6c (BE b a 0) H=some (.ret (BE b (M7 b a) 0),H):=by
 unfold Sh.f6c BE Cg;simp only[GMw,HPw,Nat.reduceAdd,Nat.reduceLT];have key:=AZ (G:=λrec1 vs H1=>Sh.f83 H rec1 (ag vs 0) (ag vs 1) H1) (σ:=Nat) (λi=>i<=b.length) (λ_=>[.ptr H.length 0 0,.ptr (H.length+1) 0 0]) (λi=>H++[.cel 0 [.str b,.i6 (i:Int),.i6 0],.cel 0 [.str [],.i6 0,.i6 0]]) (λi=>b.length-i)
  (λi=>some (.ret (.agg [.str b,.i6 (M7 b i:Int),.i6 0]),H)) (λi rec hi hrec=>?_) a ha (by omega)
 ·exact key
 ·have he:=λe H=>EF b i e H;unfold BE Cg at he;unfold Sh.f83;simp only[GMw,HPw,Nat.reduceAdd,Nat.reduceLT,he];by_cases h:b.length<=i
  ·have:i=b.length:=by omega
   subst this;simp only[h,GMw,HPw,Nat.reduceAdd,Nat.reduceLT,anyN_end]
  ·have hlt:i<b.length:=by omega
   rw[PU hlt,sees_two hlt];simp only[h,GMw,HPw,Nat.reduceAdd,Nat.reduceLT,B1 hlt,u8_10,u8_13];by_cases h1:b[i]=10
   ·simp only[h1,GMw,HPw,Nat.reduceAdd,Nat.reduceLT,if_true,show (decide ((10:UInt8)=13))=false from rfl]
   ·by_cases h2:b[i]=13
    ·simp only[h1,h2,GMw,HPw,Nat.reduceAdd,Nat.reduceLT,B1 hlt,u8_13,if_true,show decide ((13:UInt8)=10)=false from rfl]
    ·simp only[h1,h2,GMw,HPw,Nat.reduceAdd,Nat.reduceLT,B1 hlt,u8_13,As (show i<9223372036854775807 by omega),UM];exact hrec (i+1) (by omega) (by omega)
def Nb (b:List UInt8)(a:Nat):Nat:=if a=b.length then a else if Be b (crN b a) [10]then crN b a+1 else crN b a
def S5 (b:List UInt8)(a:Nat):Int:=if a=b.length then 0 else if Be b (crN b a) [10]then 0 else NO b (crN b a)
theorem eolN_le {b:List UInt8}{a:Nat}(ha:a<=b.length):Nb b a<=b.length:=by
 unfold Nb;split
 ·exact ha
 ·split
  ·rename_i h;exact CF h
  ·exact crN_le ha
theorem r15_eol {b:List UInt8}{a:Nat}(ha:a<=b.length)(hb:b.length<1152921504606846976)(H:Aa):Sh.ft (BE b a 0) H=some (.ret (BE b (Nb b a) (S5 b a)),H):=by
 unfold Sh.ft BE Cg;have he:=λi e H=>EF b i e H;have hst:=λi e H=>IA b i e H;unfold BE Cg at he hst;simp only[GMw,HPw,Nat.reduceAdd,Nat.reduceLT,he];by_cases h:b.length<=a
 ·have:a=b.length:=by omega
  subst this;have e1:Nb b b.length=b.length:=by simp[Nb]
  have e2:S5 b b.length=0:=by simp[S5]
  rw[e1,e2];simp only[h,GMw,HPw,Nat.reduceAdd,Nat.reduceLT]
 ·have hlt:a<b.length:=by omega
  have hne:¬a=b.length:=by omega
  have tail:∀(i:Nat),i<b.length->crN b a=i->Sh.f82 H (.ptr H.length 0 0) (.ptr (H.length+1) 0 0) (H++[.cel 0 [.str b,.i6 (i:Int),.i6 0],.cel 0 [.str [],.i6 0,.i6 0]])=some (.ret (.agg [.str b,.i6 (Nb b a:Int),.i6 (S5 b a)]),H):=by
   intro i hi hc;unfold Sh.f82 Nb S5;rw[if_neg hne,if_neg hne,hc,HC hi];simp only[GMw,HPw,Nat.reduceAdd,Nat.reduceLT,B1 hi,u8_10];by_cases h1:b[i]=10
   ·simp only[h1,GMw,HPw,Nat.reduceAdd,Nat.reduceLT,if_true,As (show i<9223372036854775807 by omega)]
   ·simp only[h1,GMw,HPw,Nat.reduceAdd,Nat.reduceLT,hst,UM]
  have dI:crN b a=if b[a]=13 then a+1 else a:=by
   unfold crN;rw[HC hlt];simp
  simp only[h,GMw,HPw,Nat.reduceAdd,Nat.reduceLT,B1 hlt,u8_13];by_cases h1:b[a]=13
  ·rw[if_pos h1]at dI;simp only[h1,GMw,HPw,Nat.reduceAdd,Nat.reduceLT,As (show a<9223372036854775807 by omega),he];by_cases h2:b.length<=a+1
   ·have hs:Be b (a+1) [10]=false:=by unfold Be;rw[zYb h2]
    have e1:Nb b a=a+1:=by simp[Nb,hne,dI,hs]
    have e2:S5 b a=NO b (a+1):=by simp[S5,hne,dI,hs]
    simp only[h2,GMw,HPw,Nat.reduceAdd,Nat.reduceLT,hst,e1,e2]
   ·have oB:a+1<b.length:=by omega
    have:=tail (a+1) oB dI;simp only[h2,GMw,HPw,Nat.reduceAdd,Nat.reduceLT,B1 oB,u8_10];by_cases h3:b[a+1]=10
    ·simp only[h3,GMw,HPw,Nat.reduceAdd,Nat.reduceLT];exact this
    ·have hs:Be b (a+1) [10]=false:=by rw[HC oB];simp[h3]
     have e1:Nb b a=a+1:=by simp[Nb,hne,dI,hs]
     have e2:S5 b a=NO b (a+1):=by simp[S5,hne,dI,hs]
     simp only[h3,GMw,HPw,Nat.reduceAdd,Nat.reduceLT,hst,e1,e2]
  ·rw[if_neg h1]at dI;simp only[h1,GMw,HPw,Nat.reduceAdd,Nat.reduceLT];exact tail a hlt dI
theorem r15_eolX (b:List UInt8)(a:Nat){e:Int}(he:e≠0)(H:Aa):Sh.ft (BE b a e) H=some (.ret (BE b a e),H):=by
 unfold Sh.ft BE Cg;simp only[GMw,HPw,Nat.reduceAdd,Nat.reduceLT,he]
theorem ruleN_le {b:List UInt8}{f:Nat}:∀(n a:Nat),a<=b.length->a<=Ei b f n a/\Ei b f n a<=b.length
 | 0,a,h=>⟨UK _,h⟩
 | n+1,a,h=>by
  rw[Ei];cases ho:onB b f a with
  | true=>have:=ruleN_le (b:=b) (f:=f) n (a+1) (onB_lt ho);simp only[if_true];omega
  | false=>simp only[UM,if_false];omega
def ruleS (b:List UInt8)(f:Nat):List UInt8:=(b.take (Ei b f 40 f)).drop f
def ruleE (b:List UInt8)(f:Nat):Int:=if Ei b f 40 f=f then NO b f else 0
theorem r15_rule {b:List UInt8}{f:Nat}(hf:f<=b.length)(hb:b.length<1152921504606846976)(H:Aa):Sh.f1m (BE b f 0) H=some (.ret (.tup [BE b (Ei b f 40 f) (ruleE b f),.str (if Ei b f 40 f=f then []else ruleS b f)]),H):=by
 unfold Sh.f1m BE Cg;simp only[GMw,HPw,Nat.reduceAdd,Nat.reduceLT];have key:=AZ (G:=λrec1 vs H1=>Sh.f84 H rec1 (ag vs 0) (ag vs 1) (ag vs 2) H1) (σ:=Nat) (λi=>f<=i/\i<=b.length) (λ_=>[.ptr H.length 0 0,.ptr (H.length+1) 0 0,.i6 (f:Int)]) (λi=>H++[.cel 0 [.str b,.i6 (i:Int),.i6 0],.cel 0 [.str [],.i6 0,.i6 0]]) (λi=>b.length-i)
  (λi=>some (.ret (.tup [.agg [.str b,.i6 (Ei b f (40-(i-f)) i:Int),.i6 (if Ei b f (40-(i-f)) i=f then NO b f else 0)],.str (if Ei b f (40-(i-f)) i=f then []else (b.take (Ei b f (40-(i-f)) i)).drop f)]),H)) (λi rec hi hrec=>?_) f ⟨UK _,hf⟩ (by omega)
 ·rw[Vr,Nat.sub_zero]at key;exact key
 ·obtain⟨h1,h2⟩:=hi;have he:=λe H=>EF b i e H;have hst:=λe H=>IA b f e H;unfold BE Cg at he hst;have hw:IntKind.i64.wrap ((i:Int)-(f:Int))=((i-f:Nat):Int):=by rw[Ao] <;> omega
  have stop:onB b f i=false->((Ad false 1 (.ptr H.length 0 (0+1)) (H++[.cel 0 [.str b,.i6 (i:Int),.i6 0],.cel 0 [.str [],.i6 0,.i6 0]])).bind λx44=>
 (Af .none .eql x44 (.i6 (f:Int))).bind λx45=>
 Ak x45 (
 (Ad true 3 (.ptr H.length 0 0) (H++[.cel 0 [.str b,.i6 (i:Int),.i6 0],.cel 0 [.str [],.i6 0,.i6 0]])).bind λx46=>
 bP H (Sh.fb x46 (H++[.cel 0 [.str b,.i6 (i:Int),.i6 0],.cel 0 [.str [],.i6 0,.i6 0]])) λx47 H48=>
 bP H (Av (Ae 3 (.ptr (H.length+1) 0 0) x47 H48)) λ_ H50=>
 (Cv [Ad true 3 (.ptr (H.length+1) 0 0) H50,some (.str [])]).bind λx51=>rP H x51 H50) (
 bC (Ad true 3 (.ptr H.length 0 0) (H++[.cel 0 [.str b,.i6 (i:Int),.i6 0],.cel 0 [.str [],.i6 0,.i6 0]])) (λ_=>True) λx52=>
 AN (Av (Ae 3 (.ptr (H.length+1) 0 0) x52 (H++[.cel 0 [.str b,.i6 (i:Int),.i6 0],.cel 0 [.str [],.i6 0,.i6 0]]))) λ_ H54=>
 (Ac 0 (.ptr H.length 0 0)).bind λx55=>
 bC (Ad false 1 x55 H54) (λx56=>Ad false 1 x55 (H++[.cel 0 [.str b,.i6 (i:Int),.i6 0],.cel 0 [.str [],.i6 0,.i6 0]])=some x56/\True) λx56=>
 (Ac 1 (.ptr H.length 0 0)).bind λx57=>
 bC (Ad false 1 x57 H54) (λx58=>Ad false 1 x57 (H++[.cel 0 [.str b,.i6 (i:Int),.i6 0],.cel 0 [.str [],.i6 0,.i6 0]])=some x58/\True) λx58=>
 (BS x56 (some (.i6 (f:Int))) (some x58)).bind λx59=>
 (Cv [Ad true 3 (.ptr (H.length+1) 0 0) H54,some x59]).bind λx60=>rP H x60 H54))=some (.ret (.tup [.agg [.str b,.i6 (Ei b f (40-(i-f)) i:Int),.i6 (if Ei b f (40-(i-f)) i=f then NO b f else 0)],.str (if Ei b f (40-(i-f)) i=f then []else (b.take (Ei b f (40-(i-f)) i)).drop f)]),H):=by
   intro ho;rw[ME ho];by_cases gF:i=f
   ·subst gF;simp only[GMw,HPw,Nat.reduceAdd,Nat.reduceLT,hst,if_true]
   ·have cV:¬(i:Int)=(f:Int):=by omega
    simp only[GMw,HPw,Nat.reduceAdd,Nat.reduceLT,cV,gF,Iz h1 h2]
  unfold Sh.f84;by_cases h:b.length<=i
  ·have ho:onB b f i=false:=by unfold onB;rw[zYb h]
   have:=stop ho;simp only[GMw,HPw,Nat.reduceAdd,Nat.reduceLT,he,h]at this ⊢;exact this
  ·have hlt:i<b.length:=by omega
   by_cases sQ:i-f<40
   ·have gL:((i-f:Nat):Int)<40:=by omega
    cases hs:Nm b[i]with
    | true=>
     have ho:onB b f i=true:=by unfold onB;rw[UG hlt];simp[sQ,hs]
     rw[ruleN_on ho h1];simp only[GMw,HPw,Nat.reduceAdd,Nat.reduceLT,he,h,hw,gL,B1 hlt,R6,hs,As (show i<9223372036854775807 by omega)];exact hrec (i+1) ⟨by omega,by omega⟩ (by omega)
    | false=>
     have ho:onB b f i=false:=by unfold onB;rw[UG hlt];simp[hs]
     have:=stop ho;simp only[GMw,HPw,Nat.reduceAdd,Nat.reduceLT,he,h,hw,gL,B1 hlt,R6,hs]at this ⊢;exact this
   ·have gL:¬((i-f:Nat):Int)<40:=by omega
    have ho:onB b f i=false:=by unfold onB;rw[UG hlt];simp[sQ]
    have:=stop ho;simp only[GMw,HPw,Nat.reduceAdd,Nat.reduceLT,he,h,hw,gL]at this ⊢;exact this
theorem r15_ruleX (b:List UInt8)(a:Nat){e:Int}(he:e≠0)(H:Aa):Sh.f1m (BE b a e) H=some (.ret (.tup [BE b a e,.str []]),H):=by
 unfold Sh.f1m BE Cg;simp only[GMw,HPw,Nat.reduceAdd,Nat.reduceLT,he]
abbrev Er:=Option (Int×List UInt8)
def Cq:Er->Int
 | none=>0
 | some e=>e.1
@[simp] theorem Dd:Cq none=0:=rfl
@[simp] theorem Gi (e:Int×List UInt8):Cq (some e)=e.1:=rfl
def HQ (b:List UInt8)(a:Nat)(s:List UInt8):Int×List UInt8:=if a=b.length then (3,s)else (2,[])
theorem GZ {b:List UInt8}{a:Nat}(ha:a<=b.length)(s:List UInt8):(HQ b a s).1=NO b a:=by
 unfold HQ NO;by_cases h:a=b.length
 ·rw[if_pos h,if_pos (by omega)]
 ·rw[if_neg h,if_neg (by omega)]
def B6 (b:List UInt8)(a:Nat)(s rest:List UInt8):Er×Nat:=(if cpN (b.drop a) s<s.length then some (HQ b (Te b a s) (s.drop (cpN (b.drop a) s)++rest))else none,Te b a s)
def DM (b:List UInt8)(a:Nat)(rest:List UInt8):Er×Nat:=(if a=b.length then none else if Be b (crN b a) [10]then none else some (HQ b (crN b a) (10::rest)),Nb b a)
def HR (b:List UInt8)(f:Nat)(rest:List UInt8):Er×Nat:=(if Ei b f 40 f=f then some (HQ b f (97::rest))else none,Ei b f 40 f)
def JO:List UInt8:=[48,49,50,51,52,53,54,55,56,57]
def FK (b:List UInt8)(f:Nat)(rest:List UInt8):Nat->Nat->Er×Nat
 | 0,a=>(none,a)
 | n+1,a=>
  if Be b a JO then
   if f<a/\b[f]? = some 48 then (some (HQ b a []),a)
   else if a-f=400 then (some (4,[]),a)
   else FK b f rest n (a+1)
  else if a=f then (some (HQ b a (49::rest)),a)else (none,a)
def N7 (b:List UInt8)(a:Nat)(neg:Bool):Nat:=if neg&&Be b a [45]then a+1 else a
def CO (b:List UInt8)(a:Nat)(neg:Bool)(rest:List UInt8):Er×Nat:=
 if neg&&Be b a [45]&&Be b (a+1) [48]then (some (HQ b (a+1) []),a+1)else FK b (N7 b a neg) rest 402 (N7 b a neg)
def Nw:List UInt8:=[66,51,47,83,50,51]
def Ft (er:Er):Prop:=∀e,er=some e->0<e.1/\e.1<=4
theorem Ft.none:Ft none:=λe h=>by cases h
theorem Ft.stp (b:List UInt8)(a:Nat)(s:List UInt8):Ft (some (HQ b a s)):=λe h=>by
 injection h with h;subst h;unfold HQ;split <;> simp
theorem Ft.lim:Ft (some (4,[])):=λe h=>by injection h with h;subst h;simp
theorem HE (b:List UInt8)(a:Nat)(s rest:List UInt8):Ft (B6 b a s rest).1:=by
 unfold B6;split
 ·exact .stp _ _ _
 ·exact .none
theorem endS_er (b:List UInt8)(a:Nat)(rest:List UInt8):Ft (DM b a rest).1:=by
 unfold DM;split
 ·exact .none
 ·split
  ·exact .none
  ·exact .stp _ _ _
theorem rulS_er (b:List UInt8)(f:Nat)(rest:List UInt8):Ft (HR b f rest).1:=by
 unfold HR;split
 ·exact .stp _ _ _
 ·exact .none
theorem numS_er (b:List UInt8)(f:Nat)(rest:List UInt8):∀n a,Ft (FK b f rest n a).1
 | 0,a=>.none
 | n+1,a=>by
  unfold FK;split
  ·split
   ·exact .stp _ _ _
   ·split
    ·exact .lim
    ·exact numS_er b f rest n (a+1)
  ·split
   ·exact .stp _ _ _
   ·exact .none
theorem intS_er (b:List UInt8)(a:Nat)(neg:Bool)(rest:List UInt8):Ft (CO b a neg rest).1:=by
 unfold CO;split
 ·exact .stp _ _ _
 ·exact numS_er _ _ _ _ _
theorem Lx.push {H G:Aa}{p a:Nat}{b:List UInt8}{r:List Ab}(h:Lx H p b a r):Lx (H++G) p b a r:=by
 have:p<H.length:=by
  rcases Vy p H.length with h' | h'
  ·exact h'
  ·unfold Lx at h;rw[zYb h']at h;cases h
 unfold Lx;rw[UL this];exact h

def N3 (b:List UInt8)(f:Nat)(rest:List UInt8):Nat->Nat->Option Ab×Nat
 | 0,a=>(none,a)
 | n+1,a=>
  if Be b a JO then
   if f<a/\b[f]? = some 48 then (some (PZ b a []),a)
   else if a-f=400 then (some (Sq 4 []),a)
   else N3 b f rest n (a+1)
  else if a=f then (some (PZ b a (49::rest)),a)else (none,a)
theorem numR_le (b:List UInt8)(f:Nat)(rest:List UInt8):∀n a,a<=b.length->a<=(N3 b f rest n a).2/\(N3 b f rest n a).2<=b.length
 | 0,a,h=>⟨UK _,h⟩
 | n+1,a,h=>by
  unfold N3;by_cases hs:Be b a JO=true
  ·rw[if_pos hs];by_cases h1:f<a/\b[f]? = some 48
   ·rw[if_pos h1];exact⟨UK _,h⟩
   ·rw[if_neg h1];by_cases h2:a-f=400
    ·rw[if_pos h2];exact⟨UK _,h⟩
    ·rw[if_neg h2];have:=numR_le b f rest n (a+1) (CF hs);exact⟨by omega,this.2⟩
  ·rw[if_neg hs];by_cases h1:a=f
   ·rw[if_pos h1];exact⟨UK _,h⟩
   ·rw[if_neg h1];exact⟨UK _,h⟩
theorem numR_on {b:List UInt8}{f a:Nat}{rest:List UInt8}{n:Nat}(hs:Be b a JO=true)(h1:¬(f<a/\b[f]? = some 48))(h2:¬a-f=400):N3 b f rest (n+1) a=N3 b f rest n (a+1):=by
 rw[N3,if_pos hs,if_neg h1,if_neg h2]
noncomputable def numO (H0 K:Aa)(p:Nat)(b:List UInt8)(r:List Ab)(q from_:Ab):Option Ab×Nat->Out
 | (some v,e)=>some (.pan v,Ct K p b r e)
 | (none,e)=>Sh.f2d H0 (.ptr p 0 0) q from_ (Ct K p b r e)
theorem lx_num_loop {H0 K:Aa}{p f:Nat}{b:List UInt8}{r:List Ab}(h:Lx K p b f r)(hf:f<=b.length)(hb:b.length<1152921504606846976)(rest:List UInt8)(hr:rest.length<=1000000)(q from_:Ab) :
  Am (λaA vs H=>Sh.f45 H0 aA (ag vs 0) (ag vs 1) (ag vs 2) (ag vs 3) (ag vs 4) H) AM [.ptr p 0 0,.str rest,q,from_,.i6 (f:Int)] K=numO H0 K p b r q from_ (N3 b f rest 402 f):=by
 have key:=AZ (G:=λaA vs H=>Sh.f45 H0 aA (ag vs 0) (ag vs 1) (ag vs 2) (ag vs 3) (ag vs 4) H) (σ:=Nat) (λi=>f<=i/\i<=b.length/\i-f<=400) (λ_=>[.ptr p 0 0,.str rest,q,from_,.i6 (f:Int)]) (λi=>Ct K p b r i) (λi=>b.length-i)
  (λi=>numO H0 K p b r q from_ (N3 b f rest (402-(i-f)) i)) (λi rec hi hrec=>?_) f ⟨UK _,hf,by omega⟩ (by omega)
 ·rw[EE h,Vr,Nat.sub_zero]at key;exact key
 ·obtain⟨h1,h2,h3⟩:=hi;have hx:=Gz (a':=i) h;have e:402-(i-f)=(401-(i-f))+1:=by omega
  have iE:Af .none .add (.str [49]) (.str rest)=some (.str (49::rest)):=Dh (by simp only[zXj,zXk];omega);unfold Sh.f45;have eY:=Fy hx h2 JO;unfold JO at eY;rw[e];have nN:Be b i [48,49,50,51,52,53,54,55,56,57]=Be b i JO:=rfl;simp only[GMw,eY,nN];cases hs:Be b i JO with
  | true=>
   have hlt:=CF hs;have dG:f<b.length:=by omega
   have hw:IntKind.i64.wrap ((i:Int)-(f:Int))=((i-f:Nat):Int):=by rw[Ao] <;> omega
   have tail:¬(f<i/\b[f]? = some 48)->((Af .none .sub (.i6 (i:Int)) (.i6 (f:Int))).bind λx56=>
     (Af .none .eql x56 (.i6 400)).bind λx57=>
     Ak x57 (bK H0 (Sh.f2c (.ptr p 0 0) (Ct K p b r i)) λx58 H59=>Sh.f44 H0 rec (.ptr p 0 0) (.str rest) q from_ (.i6 (f:Int)) H59)
      (Sh.f44 H0 rec (.ptr p 0 0) (.str rest) q from_ (.i6 (f:Int)) (Ct K p b r i)))=numO H0 K p b r q from_ (N3 b f rest (401-(i-f)+1) i):=by
    intro hn;simp only[GMw,hw];by_cases h4:i-f=400
    ·have oT:((i-f:Nat):Int)=400:=by omega
     rw[N3,if_pos hs,if_neg hn,if_pos h4];simp only[oT,GMw,RX]
     rfl
    ·have oT:¬((i-f:Nat):Int)=400:=by omega
     rw[numR_on hs hn h4];unfold Sh.f44;simp only[oT,GMw,Aj,Ah,UJ,HF hx,As (show i<9223372036854775807 by omega),Ks h];have:=hrec (i+1) ⟨by omega,by omega,by omega⟩ (by omega);rw[show 402-(i+1-f)=401-(i-f)by omega]at this;exact this
   by_cases dT:f<i
   ·have jZ:(i:Int)>(f:Int):=by omega
    simp only[GMw,Aj,Ah,UJ,HF hx,lx_b hx,jZ,B1 dG,Ai];by_cases h0:b[f]=48
    ·rw[N3,if_pos hs,if_pos ⟨dT,by rw[UG dG,h0]⟩];simp only[h0,GMw,MI hx]
     rfl
    ·have eF:¬((b[f].toNat:Int)=48):=λhc=>h0 (WB.1 (by show b[f].toNat=48;omega));simp only[eF,GMw];exact tail (λhc=>h0 (by have:=hc.2;rw[UG dG]at this;exact Wc this))
   ·have jZ:¬(i:Int)>(f:Int):=by omega
    simp only[GMw,Aj,Ah,UJ,HF hx,jZ,Ai];exact tail (λhc=>dT hc.1)
  | false=>
   rw[N3,if_neg (by rw[hs];exact Bool.false_ne_true)];simp only[GMw,Aj,Ah,UJ,HF hx,Ai];by_cases he:i=f
   ·have eR:(i:Int)=(f:Int):=by omega
    rw[if_pos he];simp only[eR,GMw,iE,MI hx]
    rfl
   ·have eR:¬(i:Int)=(f:Int):=by omega
    rw[if_neg he];simp only[eR,GMw]
    rfl
theorem q01_mul {l:List Nat}{tk:Tok}{m c:Nat}(H:Aa)(hx:Lim l)(hl:l.length<=1099511627775)(hm:m<4294967296)(hc:c<4294967296) :
  Sh.f6f (.sl (enL cU l) tk) (.int .u32 (m:Int)) (.int .u32 (c:Int)) H=some (.ret (.sl (enL cU (A6 (val l*m+c))) .no),H):=by
 unfold Sh.f6f;have hcc:AA .u64 (.int .u32 (c:Int))=some (.int .u64 (c:Int)):=by rw[Bl,BK (by omega) (by omega)]
 have nB:AA .u64 (.int .u32 (m:Int))=some (.int .u64 (m:Int)):=by rw[Bl,BK (by omega) (by omega)]
 simp only[GMw,hcc];refine Cj l.length (λi=>[.sl (enL cU l) tk,.int .u32 (m:Int),DD cU H (Dk l m c i).1,.int .u64 ((Dk l m c i).2:Int),.i6 (i:Int)])
  (λi=>DC cU BA 1 H (Dk l m c i).1) _ (by omega) (λrec i hi=>?_) (λrec=>?_)
 ·obtain⟨h1,h2,h3,h4⟩:=Oc hx hm hc i (by omega);have aF:(i:Int)<(l.length:Int):=by omega
  have aI:=hx _ (UV hi);have hg:l[i]?.getD 0=l[i]:=by rw[UG hi];rfl
  have ht:=RU aI hm h2;obtain⟨t,htt⟩:∃t,t=(Dk l m c i).2+l[i]*m:=⟨_,rfl⟩;have hP:l[i]*m<=4294967295*4294967295:=WK (by omega) (by omega);have w1:AA .u64 (.int .u32 (l[i]:Int))=some (.int .u64 (l[i]:Int)):=by rw[Bl,BK (by omega) (by omega)]
  have w2:IntKind.u64.wrap ((l[i]:Int)*(m:Int))=((l[i]*m:Nat):Int):=by rw[<-Int.natCast_mul,BK (by omega) (by omega)]
  have w3:IntKind.u64.wrap (((l[i]*m:Nat):Int)+((Dk l m c i).2:Int))=(t:Int):=by rw[BK] <;> omega
  have w7:(t:Int).tmod 4294967296=((t%4294967296:Nat):Int):=rfl;have w4:AA .u32 (.int .u64 ((t%4294967296:Nat):Int))=some (.int .u32 ((t%4294967296:Nat):Int)):=by rw[Bl,CP (by omega) (by omega)]
  have w5:IntKind.u64.wrap ((t:Int).tdiv 4294967296)=((t / 4294967296:Nat):Int):=by rw[show (t:Int).tdiv 4294967296=((t / 4294967296:Nat):Int) from rfl,BK (by omega) (by omega)]
  have w6:IntKind.i64.wrap ((i:Int)+1)=((i+1:Nat):Int):=by rw[Ao] <;> omega
  have tR:=Du (f:=cU) (ty:=BA) (sz:=1) (tk:=.ti) (bytes:=4) (B:=H) (l:=(Dk l m c i).1) (m:=[t%4294967296]) (by simp) (by simp;omega) (by simp;omega);unfold Sh.f85;simp only[GMw,Ai,Ay,aF,A4 hi,AF,zXh,w1,nB,w2,w3,Is (show (4294967296:Int)≠0 by decide),OI (show (4294967296:Int)≠0 by decide),w7,w4,build_U,tR,w5,w6];simp only[Dk,hg,<-htt]
 ·obtain⟨h1,h2,h3,h4⟩:=Oc hx hm hc l.length (UK _);have w4:AA .u32 (.int .u64 ((Dk l m c l.length).2:Int))=some (.int .u32 ((Dk l m c l.length).2:Int)):=by rw[Bl,CP (by omega) (by omega)]
  have tR:=Du (f:=cU) (ty:=BA) (sz:=1) (tk:=.ti) (bytes:=4) (B:=H) (l:=(Dk l m c l.length).1) (m:=[(Dk l m c l.length).2]) (by simp) (by simp;omega) (by simp;omega);obtain⟨o,ho⟩:∃o,o=(Dk l m c l.length).1++[(Dk l m c l.length).2]:=⟨_,rfl⟩;have aJ:Lim o:=by
   intro x jI;rw[ho]at jI;rcases Vi.1 jI with h | h
   ·exact h3 x h
   ·rw[Vg.1 h];exact h2
  have nS:val o=val l*m+c:=by
   rw[ho,Cu,h1,I6];rw[Vs]at h4;exact h4
  have hol:o.length<=1099511627776:=by rw[ho];simp;omega
  rw[<-ho]at tR;obtain⟨G,hG⟩:=FV (f:=cU) (ty:=BA) (sz:=1) H o;have hn:=R9 o (outK H o) (H++G) hol aJ;rw[nS]at hn;unfold Sh.f85;simp only[GMw,Ai,V3,Ay,w4,build_U,tR];simp only[EP,hG,hn,GMw,C6,Hx,zXb]
section
variable {H:Aa}{id g i:Nat}{L:List (List UInt8)}
end
theorem pow10_up {a b:Nat}(h:a<=b):10^a<=10^b:=Vv (by omega) h
def GS (c:UInt8):Bool:=decide (48<=c.toNat)&&decide (c.toNat<=57)
def FP (s:List UInt8):Nat:=(s.takeWhile GS).length
theorem QX (s:List UInt8):FP s<=s.length:=(Xp GS).length_le
theorem PC (c:UInt8)(s:List UInt8):FP (c::s)=if GS c then FP s+1 else 0:=by
 unfold FP;rw[WA];split <;> simp
theorem byteAt (s:List UInt8)(pos:Nat)(h:pos<s.length):((⟨s.toArray⟩:ByteArray)[pos]'(by show pos<s.toArray.size;simpa using h))=s[pos]:=by
 show s.toArray[pos]=s[pos];simp
theorem idx_from (s:List UInt8):∀(f pos:Nat),pos<=s.length->s.length-pos<=f->Lib.idxFuncFrom Le true ⟨s.toArray⟩ f pos=if pos+FP (s.drop pos)<s.length then ((pos+FP (s.drop pos):Nat):Int)else -1
 | 0,pos,h1,h2=>by
  have:pos=s.length:=by omega
  subst this;rw[Lib.idxFuncFrom,if_neg (by omega)]
 | f+1,pos,h1,h2=>by
  have hsz:(⟨s.toArray⟩:ByteArray).size=s.length:=by simp[ByteArray.size]
  unfold Lib.idxFuncFrom;rw[hsz];by_cases hp:pos<s.length
  ·rw[if_pos hp,Vh hp,PC];have hb:=byteAt s pos hp;by_cases ha:s[pos].toNat<128
   ·rw[decode_ascii ⟨s.toArray⟩ pos (by omega) (by rw[hb];exact ha),hb];simp only[];by_cases hd:GS s[pos]=true
    ·have lN:Le s[pos].toNat=false:=by
      simp only[GS,UU,zXe]at hd;simp only[Le,Bool.or_eq_false_iff,decide_eq_false_iff_not];omega
     rw[lN,if_neg (by simp),if_pos hd,idx_from s f (pos+1) (by omega) (by omega)];rw[show pos+(FP (s.drop (pos+1))+1)=pos+1+FP (s.drop (pos+1))by omega]
    ·have lN:Le s[pos].toNat=true:=by
      simp only[GS,UU,zXe]at hd;simp only[Le,VT,zXe];omega
     rw[lN,if_pos rfl,if_neg hd,if_pos (by omega)]
     rfl
   ·obtain⟨k1,k2⟩:=decode_high ⟨s.toArray⟩ pos (by omega) (by rw[hb];omega);have hd:¬GS s[pos]=true:=by
     simp only[GS,UU,zXe];omega
    have lN:Le (Utf8.decode ⟨s.toArray⟩ pos).1=true:=by
     simp only[Le,VT,zXe];omega
    rw[lN,if_pos rfl,if_neg hd,if_pos (by omega)]
    rfl
  ·rw[if_neg hp,if_neg (by omega)]
theorem idx_dig (s:List UInt8):Lib.idxFunc Le true ⟨s.toArray⟩=if FP s<s.length then (FP s:Int)else -1:=by
 have hsz:(⟨s.toArray⟩:ByteArray).size=s.length:=by simp[ByteArray.size]
 have:=idx_from s s.length 0 (Ve _) (by omega);rw[UJ,VX]at this;rw[Lib.idxFunc,hsz,this]
def digA (s:List UInt8)(at':Int):Nat:=if at'<0 then 0 else FP (s.drop at'.toNat)
theorem q_digits (s:List UInt8)(at':Int)(H:Aa)(hs:s.length<1152921504606846976):Sh.f40 (.str s) (.i6 at') H=some (.ret (.i6 (digA s at')),H):=by
 unfold Sh.f40 digA;by_cases h0:at'<0
 ·simp only[GMw,h0,if_true]
  rfl
 ·obtain⟨a,rfl⟩:∃a:Nat,at'=(a:Int):=⟨at'.toNat,by omega⟩;simp only[GMw,h0,if_false,Dv,zXl];by_cases h1:a<=s.length
  ·have eO:¬((a:Int)>(s.length:Int)):=by omega
   have hsl:BS (.str s) (some (.i6 (a:Int))) none=some (.str (s.drop a)):=by
    simp[BS,By,h1]
   have hi:Sh.f2a (.str (s.drop a)) (.fn 235 []) H=some (.ret (.i6 (if FP (s.drop a)<(s.drop a).length then (FP (s.drop a):Int)else -1)),H):=by
    unfold Sh.f2a;simp only[idx_dig]
   have hle:=QX (s.drop a);simp only[eO,GMw,hsl];by_cases hd:FP (s.drop a)<(s.drop a).length
   ·have:¬((FP (s.drop a):Int)<0):=by omega
    rw[hi,if_pos hd];simp only[this,GMw]
   ·have e:FP (s.drop a)=(s.drop a).length:=by omega
    rw[hi,if_neg hd];simp only[show ((-1:Int)<0) from by decide,GMw,Dv,<-e]
  ·have eO:(a:Int)>(s.length:Int):=by omega
   rw[VY (by omega)];simp only[eO,GMw]
   rfl
theorem q03_digits (s:List UInt8)(at':Int)(H:Aa)(hs:s.length<1152921504606846976)(nE:-9223372036854775808<=at'/\at'<=9223372036854775807):Sh.f6e (.str s) (.i6 at') H=some (.ret (.i6 (digA s at')),H):=by
 unfold Sh.f6e digA;by_cases h0:at'<0
 ·rw[Dp DZ,if_pos h0];unfold Sh.f6d;have eF:¬at'>=0:=by omega
  simp only[GMw,Ai,eF]
  rfl
 ·obtain⟨a,rfl⟩:∃a:Nat,at'=(a:Int):=⟨at'.toNat,by omega⟩;rw[if_neg h0,zXl];have key:=AZ (G:=λrec1 vs H1=>Sh.f6d H rec1 (ag vs 0) (ag vs 1) (ag vs 2) (ag vs 3) H1) (σ:=Nat) (λk=>k<=FP (s.drop a)/\FP (s.drop a)=k+FP (s.drop (a+k))) (λk=>[.str s,.i6 (a:Int),.i6 (k:Int),.i6 ((a+k:Nat):Int)]) (λ_=>H) (λk=>s.length-k)
   (λ_=>some (.ret (.i6 (FP (s.drop a):Int)),H)) (λk rec hk hrec=>?_) 0 ⟨Ve _,by simp⟩ (by omega)
  ·simpa using key
  ·obtain⟨h1,h2⟩:=hk;have hle:=QX (s.drop a);have hge:(a:Int)>=0:=by omega
   unfold Sh.f6d;by_cases hlt:a+k<s.length
   ·have hlt':((a+k:Nat):Int)<(s.length:Int):=by omega
    rw[Vh hlt,PC]at h2;have w1:IntKind.i64.wrap ((k:Int)+1)=((k+1:Nat):Int):=by rw[Ao] <;> omega
    have w2:IntKind.i64.wrap (((a+k:Nat):Int)+1)=((a+(k+1):Nat):Int):=by rw[Ao] <;> omega
    simp only[GMw,Ai,hge,Dv,hlt',B1 hlt];by_cases hd:GS s[a+k]=true
    ·rw[if_pos hd]at h2;have bQ:=hd;simp only[GS,UU,zXe]at bQ;have c1:((s[a+k].toNat:Int)>=48):=by omega
     have c2:((s[a+k].toNat:Int)<=57):=by omega
     simp only[c1,GMw,B1 hlt,c2,w1,w2];exact hrec (k+1) ⟨by omega,by rw[show a+(k+1)=a+k+1 by omega];omega⟩ (by rw[Vc]at hle;omega)
    ·rw[if_neg hd]at h2;simp only[GS,UU,zXe]at hd;by_cases c1:((s[a+k].toNat:Int)>=48)
     ·have c2:¬((s[a+k].toNat:Int)<=57):=by omega
      simp only[c1,GMw,B1 hlt,c2];rw[h2];rfl
     ·simp only[c1,GMw];rw[h2];rfl
   ·have hlt':¬((a+k:Nat):Int)<(s.length:Int):=by omega
    rw[VY (by omega:s.length<=a+k)]at h2;simp only[GMw,Ai,hge,Dv,hlt'];rw[h2];rfl
def Ex (s:List UInt8):Nat:=s.foldl (λv c=>v*10+(c.toNat-48)) 0
theorem PD (s:List UInt8)(c:UInt8):Ex (s++[c])=Ex s*10+(c.toNat-48):=by simp[Ex]
theorem O9 {s:List UInt8}(h:FP s=s.length):∀c∈s,GS c=true:=by
 induction s with
 | nil=>intro c hc;cases hc
 | cons x s ih=>
  rw[PC]at h;by_cases hx:GS x=true
  ·rw[if_pos hx,zXj]at h;intro c hc;rcases VC.1 hc with e | e
   ·rw[e];exact hx
   ·exact ih (by omega) c e
  ·rw[if_neg hx]at h;simp at h
theorem I5 (c:UInt8):GS c=true↔48<=c.toNat/\c.toNat<=57:=by simp[GS]
theorem QY {s:List UInt8}(h:∀c∈s,GS c=true):∀i,i<=s.length->Ex (s.take i)<10^i
 | 0,_=>by simp[Ex]
 | i+1,hi=>by
  have:=QY h i (by omega);have hc:=(I5 _).1 (h _ (UV (show i<s.length by omega)));rw[UR (by omega),PD,Nat.pow_succ];omega
def Ib (s:List UInt8):Bool:=match s with
 | c::_=>c == 45
 | []=>false
def B9 (s:List UInt8):List UInt8:=if Ib s then s.drop 1 else s
def IU (s:List UInt8):Bool:=B9 s == []||decide (FP (B9 s)<(B9 s).length)||((B9 s)[0]?.getD 0 == 48 && !(s == [48]))
def CY (s:List UInt8):Int:=if IU s then 2 else if (B9 s).length>400 then 4 else 0
def BR (s:List UInt8):Int:=if CY s=0 then (if Ib s then -(Ex (B9 s):Int)else Ex (B9 s))else 0
theorem q_cutprefix (s:List UInt8)(H:Aa)(hs:s.length<1152921504606846976):Sh.f3z (.str s) (.str [45]) H=some (.ret (.tup [.str (B9 s),.bool (Ib s)]),H):=by
 have hp:Sh.f3y (.str s) (.str [45]) H=some (.ret (.bool (Ib s)),H):=by
  unfold Sh.f3y;cases s with
  | nil=>simp[BM,Ib]
  | cons c r=>
   have h1:((c::r).length:Int)>=(([45]:List UInt8).length:Int):=by simp;omega
   have h2:BS (.str (c::r)) none (some (.i6 (([45]:List UInt8).length:Int)))=some (.str [c]):=by
    rw[slice_str_to (by simp)];rfl
   simp only[Dv,GMw,h1,h2,Kd];simp[Ib]
 unfold Sh.f3z Sh.f7a;cases hb:Ib s with
 | false=>simp only[GMw,hp,hb,Bt,Bz,B9,UM,if_false]
 | true=>
  have h2:BS (.str s) (some (.i6 (([45]:List UInt8).length:Int))) none=some (.str (s.drop 1)):=by
   refine EY (l:=1) ?_;cases s with
   | nil=>cases hb
   | cons c r=>simp
  simp only[GMw,hp,hb,Dv,h2,Bt,Bz,B9,if_true]
theorem next_dig {B:Aa}{d:List UInt8}{i:Nat}(h:i<d.length)(hd:d[i].toNat<128):Oa (.ptr B.length 0 0) (B++[.iter d i])=some (.tup [.bool true,.i6 (i:Int),.int .i32 (d[i].toNat:Int)],B++[.iter d (i+1)]):=by
 have hb:=byteAt d i h;have oO:=decode_ascii ⟨d.toArray⟩ i (by show i<d.toArray.size;simpa using h) (by rw[hb];exact hd);simp only[Oa,List.getElem?_concat_length,h,if_true,oO,hb,Ba]
theorem next_end {B:Aa}{d:List UInt8}:Oa (.ptr B.length 0 0) (B++[.iter d d.length])=some (.tup [.bool false],B++[.iter d d.length]):=by
 simp[Oa]
theorem MU {H G:Aa}{zb:List Ab}{neg:Bool}{l:List Nat}{tk:Tok}{e:Int}(hz:zb.length=2) :
  (bP H (Av (Ae 2 (.ptr H.length 0 0) (.agg [.bool neg,.sl (enL cU l) tk]) (H++(.cel 0 zb::G)))) λ_ H40=>(Cv [Ad true 2 (.ptr H.length 0 0) H40,some (.i6 e)]).bind λx=>rPN H x H40)=some (.ret (.tup [.agg [.bool neg,.sl (enL cU l) .no],.i6 e]),H):=by
 have h1:Ae 2 (.ptr H.length 0 0) (.agg [.bool neg,.sl (enL cU l) tk]) (H++(.cel 0 zb::G))=some (H++(.cel 0 [.bool neg,.sl (enL cU l) tk]::G)):=by
  rw[I8,J6 (vs:=[.bool neg,.sl (enL cU l) tk]) rfl hz rfl]
  rfl
 have h2:Ad true 2 (.ptr H.length 0 0) (H++(.cel 0 [.bool neg,.sl (enL cU l) tk]::G))=some (.agg [.bool neg,.sl (enL cU l) tk]):=by
  rw[EH];rfl
 simp only[h1,GMw,h2,FU,D6,E7,zXb,C6,C9,B4,BO,Hj,Fk,Gg,IJ,K3,CT]
theorem M5:Ab.agg [.bool false,.sl (enL cU []) .no]=big 0:=by
 rw[J0,show (0:Int).natAbs=0 from rfl,DX]
 rfl
theorem big_of {neg:Bool}{n:Nat}(h:neg=true->n≠0):Ab.agg [.bool neg,.sl (enL cU (A6 n)) .no]=big (if neg then -(n:Int)else n):=by
 have h1:=big_sgn neg n;have h2:sgn neg n=neg:=by
  unfold sgn;cases neg with
  | false=>rfl
  | true=>simp[h rfl]
 rw[h2]at h1;rw[h1]
 rfl
theorem NE:Az (some [(.bool false),(.sl [] .ti)]) []=some (.agg [.bool false,.sl (enL cU []) .ti]):=rfl
theorem build_both {neg:Bool}{es:List (List Ab)}{tk:Tok}:Az (some [(.bool false),(.sl [] .ti)]) [(0,1,.bool neg),(1,1,.sl es tk)]=some (.agg [.bool neg,.sl es tk]):=by simp[Az,Gp,Dc]
theorem QE {s:List UInt8}(h:IU s=false):B9 s≠[]/\FP (B9 s)=(B9 s).length/\((B9 s)[0]?.getD 0=48->s=[48]):=by
 unfold IU at h;simp only[Bool.or_eq_false_iff,Wn,beq_eq_false_iff_ne,decide_eq_false_iff_not,ne_eq,X4,beq_iff_eq]at h;have:=QX (B9 s);refine⟨h.1.1,by omega,λh0=>?_⟩;rcases h.2 with h3 | h3
 ·exact absurd h0 h3
 ·exact h3
theorem decV_cons (c:UInt8)(s:List UInt8):Ex (c::s)=(c.toNat-48)*10^s.length+Ex s:=by
 have key:∀(s:List UInt8) (v:Nat),s.foldl (λv c=>v*10+(c.toNat-48)) v=v*10^s.length+Ex s:=by
  intro s
  induction s with
  | nil=>intro v;simp[Ex]
  | cons x s ih=>
   intro v;rw[List.foldl_cons,ih,zXj,Nat.pow_succ];have e:Ex (x::s)=(x.toNat-48)*10^s.length+Ex s:=by
    have:=ih (0*10+(x.toNat-48));rw[WW,UJ]at this;unfold Ex;rw[List.foldl_cons,WW,UJ];exact this
   rw[e,V4,Wk v 10,VV 10];omega
 have:=key s (0*10+(c.toNat-48));rw[WW,UJ]at this
 conv=>lhs;unfold Ex
 rw[List.foldl_cons,WW,UJ];exact this
theorem decV_ne {s:List UInt8}(h:IU s=false)(hn:Ib s=true):Ex (B9 s)≠0:=by
 obtain⟨h1,h2,h3⟩:=QE h;cases hd:B9 s with
 | nil=>exact absurd hd h1
 | cons c r=>
  rw[decV_cons];have hc:=O9 h2 c (by rw[hd];simp);rw[I5]at hc;have iH:c.toNat≠48:=λe=>by
   have:c=48:=WS e;have:=h3 (by rw[hd,this];rfl);rw[this]at hn;cases hn
  have:1<=10^r.length:=WE (by omega);have:1<=(c.toNat-48)*10^r.length:=Nat.mul_pos (by omega) this;omega
theorem wrap_i32 {n:Int}(h0:-2147483648<=n)(h:n<=2147483647):IntKind.i32.wrap n=n:=by
 have h1:IntKind.i32.bits=32:=rfl;have h2:IntKind.i32.signed=true:=rfl;unfold IntKind.wrap;simp only[h1,h2,zXn];split <;> rename_i hc <;> simp at hc <;> omega
theorem wrap_dig {c:UInt8}(h:GS c=true):IntKind.i32.wrap ((c.toNat:Int)-48)=((c.toNat-48:Nat):Int):=by
 rw[I5]at h;rw[wrap_i32 (by omega) (by omega)];omega
theorem LR {n m:Nat}(h:n<10^m)(hm:m<=4096):(A6 n).length<=4096:=Sc (n:=n) (VL (m:=10^m) h (pow10_up (a:=m) (b:=4096) hm))
theorem q_parse (s:List UInt8)(H:Aa)(hs:s.length<1152921504606846976):Sh.f43 (.str s) H=some (.ret (.tup [big (BR s),.i6 (CY s)]),H):=by
 unfold Sh.f43;have iT:(B9 s).length<=s.length:=by unfold B9;split <;> simp
 have sH:=q_cutprefix s (H++[Blk.cel 0 [.bool false,.sl [] .ti]]) hs;have jK:=q_digits (B9 s) 0 (H++[Blk.cel 0 [.bool false,.sl [] .ti]]) (by omega);have nA:(digA (B9 s) 0:Int)=(FP (B9 s):Int):=by simp[digA]
 rw[nA]at jK;simp only[alloc_eq (cs:=[.bool false,.sl [] .ti]) rfl,Bj,sH,GMw,Bt,Bz,Kd];have tail:Sh.f7c H (.ptr H.length 0 0) (.str (B9 s)) (.bool (Ib s)) (.bool (IU s)) (H++[Blk.cel 0 [.bool false,.sl [] .ti]])=some (.ret (.tup [big (BR s),.i6 (CY s)]),H):=by
  unfold Sh.f7c;cases bD:IU s with
  | true=>
   have hE:CY s=2:=by simp[CY,bD]
   have hZ:BR s=0:=by simp[BR,hE]
   rw[hE,hZ,<-M5];simp only[GMw,NE];exact MU rfl
  | false=>
   obtain⟨n1,n2,n3⟩:=QE bD;simp only[GMw,Dv];by_cases hl:(B9 s).length>400
   ·have gD:((B9 s).length:Int)>400:=by omega
    have hE:CY s=4:=by simp[CY,bD,hl]
    have hZ:BR s=0:=by simp[BR,hE]
    rw[hE,hZ,<-M5];simp only[gD,GMw,NE];exact MU rfl
   ·have gD:¬((B9 s).length:Int)>400:=by omega
    have hE:CY s=0:=by simp[CY,bD,hl]
    have hZ:BR s=(if Ib s then -(Ex (B9 s):Int)else Ex (B9 s)):=by simp[BR,hE]
    have hne:=decV_ne bD;have aD:=O9 n2;have hlt:=QY aD;rw[hE,hZ,<-big_of (neg:=Ib s) hne];generalize hd:B9 s=d at *;simp only[gD,GMw];have zC:Nz (.str d) (H++[Blk.cel 0 [.bool false,.sl [] .ti]])=some (.ptr (H.length+1) 0 0,H++[.cel 0 [.bool false,.sl [] .ti]]++[.iter d 0]):=by simp[Nz]
    simp only[zC,GMw];have hBl:(H++[Blk.cel 0 [.bool false,.sl [] .ti]]).length=H.length+1:=by simp
    obtain⟨tkf,htk⟩:∃tkf:Nat->Tok,tkf=λi=>if i=0 then .ti else .no:=⟨_,rfl⟩
    have key:=Cj (G:=λaA vs H1=>Sh.f42 H aA (ag vs 0) (ag vs 1) (ag vs 2) (ag vs 3) H1) d.length (λi=>[.ptr H.length 0 0,.bool (Ib s),.sl (enL cU (A6 (Ex (d.take i)))) (tkf i),.ptr (H.length+1) 0 0])
     (λi=>H++[.cel 0 [.bool false,.sl [] .ti]]++[.iter d i]) (some (.ret (.tup [.agg [.bool (Ib s),.sl (enL cU (A6 (Ex d))) .no],.i6 0]),H)) (by omega) (λrec i hi=>?_) (λrec=>?_)
    ·rw[List.take_zero,show Ex []=0 from rfl,DX,htk]at key;exact key
    ·have sF:=aD _ (UV hi);have wA:=(I5 _).1 sF;have hnx:=next_dig (B:=H++[Blk.cel 0 [.bool false,.sl [] .ti]]) hi (by omega);rw[hBl]at hnx;have hw:=wrap_dig sF;have hcv:AA .u32 (.int .i32 ((d[i].toNat-48:Nat):Int))=some (.int .u32 ((d[i].toNat-48:Nat):Int)):=by rw[Bl,CP (by omega) (by omega)]
     have kT:=LR (hlt i (by omega)) (by omega);have hml:=λH=>q_mul (l:=A6 (Ex (d.take i))) (tk:=tkf i) (m:=10) (c:=d[i].toNat-48) H (Br _) (by omega) (by omega) (by omega);simp only[B2,<-PD,<-UR hi,show ((10:Nat):Int)=10 from rfl]at hml;have nI:tkf (i+1)=.no:=by rw[htk];rfl
     unfold Sh.f42;simp only[An,Ai,hnx,GMw,Bt,show ∀(x y z:Ab),Aq 2 (.tup [x,y,z])=some z from λ_ _ _=>rfl,show ∀(x y z:Ab),Aq 0 (.tup [x,y,z])=some x from λ_ _ _=>rfl,hw,hcv,hml,nI]
    ·have hnx:=next_end (B:=H++[Blk.cel 0 [.bool false,.sl [] .ti]]) (d:=d);rw[hBl]at hnx;unfold Sh.f42;simp only[An,Ai,hnx,GMw,show ∀(x:Ab),Aq 0 (.tup [x])=some x from λ_=>rfl,build_both,Vs];rw[UP H];exact MU rfl
 by_cases h0:B9 s=[]
 ·have bD:IU s=true:=by simp[IU,h0]
  rw[bD]at tail;simp only[h0,beq_self_eq_true,GMw,An,Ai]at tail ⊢;exact tail
 ·have hb:(B9 s == [])=false:=by simpa using h0
  simp only[hb,GMw,jK,Dv];by_cases hlt:FP (B9 s)<(B9 s).length
  ·have hlt':(FP (B9 s):Int)<((B9 s).length:Int):=by omega
   have bD:IU s=true:=by simp[IU,hlt]
   rw[bD]at tail;simp only[hlt',GMw,An,Ai];exact tail
  ·have hlt':¬(FP (B9 s):Int)<((B9 s).length:Int):=by omega
   obtain⟨c,r,dI⟩:=List.exists_cons_of_ne_nil h0;have dE:BI (.str (B9 s)) (.i6 0)=some (.int .u8 (c.toNat:Int)):=by rw[dI];exact Sn
   have bD:IU s=((c == 48) && !(s == [48])):=by
    simp only[IU,hb,zXd hlt,zXo];rw[dI]
    rfl
   have hcc:decide ((c.toNat:Int)=48)=(c == 48):=by
    rw[Va];simp only[zXe,beq_iff_eq];constructor
    ·intro h;exact WS (show c.toNat=(48:UInt8).toNat from by have:(48:UInt8).toNat=48:=rfl;omega)
    ·intro h;rw[h];rfl
   rw[bD]at tail;simp only[hlt',GMw,dE,hcc,bin_sneq];cases kH:(c == 48)with
   | false=>
    rw[kH,Wa]at tail;simp only[GMw,An,Ai];exact tail
   | true=>
    rw[kH,zXn]at tail;simp only[GMw,An,Ai];exact tail
def hv (e:Int×List UInt8):Ab:=Sq e.1 e.2
def resE (er:Er)(v:Ab):Res:=match er with
 | none=>.ret v
 | some e=>.pan (hv e)
@[simp] theorem Da (v:Ab):resE none v=.ret v:=(rfl)
@[simp] theorem D7 (e:Int×List UInt8)(v:Ab):resE (some e) v=.pan (hv e):=(rfl)
theorem J7 (b:List UInt8)(a:Nat)(s:List UInt8):PZ b a s=hv (HQ b a s):=by
 unfold PZ hv HQ;split <;> rfl
section
variable {H:Aa}{p a:Nat}{b:List UInt8}{r:List Ab}
theorem RW (h:Lx H p b a r)(s:List UInt8):Sh.f5 (.ptr p 0 0) (.str s) H=some (.pan (hv (HQ b a s)),H):=by
 rw[MI h,<-J7];rfl
theorem lx_endS (h:Lx H p b a r)(ha:a<=b.length)(hb:b.length<1152921504606846976)(rest:List UInt8)(hr:rest.length<=1000000) :
  Sh.f1p (.ptr p 0 0) (.str rest) H=some (resE (DM b a rest).1 (.tup []),Ct H p b r (DM b a rest).2):=by
 rw[lx_end h ha hb rest hr];unfold endO DM Nb;by_cases e:a=b.length
 ·have hs:=EE h;rw[e]at hs;simp only[e,if_true,Da,hs]
 ·simp only[if_neg e];cases hs:Be b (crN b a) [10]with
  | true=>simp only[if_true,Da]
  | false=>simp only[UM,if_false,D7,J7]
theorem Og (h:Lx H p b a r)(ha:a<=b.length)(hb:b.length<1152921504606846976)(s rest:List UInt8)(hs:s.length<=1000000)(hr:rest.length<=1000000) :
  Sh.fd (.ptr p 0 0) (.str s) (.str rest) H=some (resE (B6 b a s rest).1 (.tup []),Ct H p b r (B6 b a s rest).2):=by
 rw[lx_must h ha hb s rest hs hr];unfold mustO B6 Te;by_cases e:cpN (b.drop a) s<s.length
 ·simp only[if_pos e,D7,J7]
 ·simp only[if_neg e,Da]
theorem lx_ruleS (h:Lx H p b a r)(ha:a<=b.length)(hb:b.length<1152921504606846976)(rest:List UInt8)(hr:rest.length<=1000000) :
  Sh.f1q (.ptr p 0 0) (.str rest) H=some (resE (HR b a rest).1 (.str ((b.take (HR b a rest).2).drop a)),Ct H p b r (HR b a rest).2):=by
 rw[lx_rule h ha hb rest hr];unfold ruleO HR;by_cases e:Ei b a 40 a=a
 ·simp only[e,if_true,D7,J7]
 ·simp only[if_neg e,Da]
theorem numR_S (b:List UInt8)(f:Nat)(rest:List UInt8):∀n a,N3 b f rest n a=((FK b f rest n a).1.map hv,(FK b f rest n a).2)
 | 0,a=>rfl
 | n+1,a=>by
  rw[N3,FK];split
  ·split
   ·rw[J7];rfl
   ·split
    ·rfl
    ·exact numR_S b f rest n (a+1)
  ·split
   ·rw[J7];rfl
   ·rfl
theorem lx_lt (h:Lx H p b a r):p<H.length:=by
 rcases Vy p H.length with h' | h'
 ·exact h'
 ·unfold Lx at h;rw[zYb h']at h;cases h
theorem TJ {G:Aa}{e:Nat}(h:p<H.length):Ct (H++G) p b r e=Ct H p b r e++G:=by
 unfold Ct;rw[List.set_append_left _ _ h]
theorem lx_num_end (h:Lx H p b a r){f e:Nat}(sB:f<=e)(he:e<=b.length)(hb:b.length<1152921504606846976)(zb:List Ab)(hz:zb.length=2) :
  ∃G,Sh.f2d H (.ptr p 0 0) (.ptr H.length 0 0) (.i6 (f:Int)) (Ct H p b r e++[.cel 0 zb])=some (.ret (big (BR ((b.take e).drop f))),Ct H p b r e++G):=by
 have hx:=Gz (a':=e) h;have hl:=setL_len H p e b r;have vN:∀G,Ad false 1 (.ptr p 0 0) (Ct H p b r e++G)=some (.str b):=λG=>lx_b (Lx.push hx);have oD:∀G,Ad false 1 (.ptr p 0 1) (Ct H p b r e++G)=some (.i6 (e:Int)):=λG=>HF (Lx.push hx);unfold Sh.f2d;rw[<-hl];generalize Ct H p b r e=K at *;have hq:=λH=>q_parse ((b.take e).drop f) H (by simp only[Vc,UY];omega);obtain⟨sg,es,dP⟩:∃sg es,big (BR ((b.take e).drop f))=.agg [.bool sg,.sl es .no]:=⟨_,_,J0 _⟩;rw[dP]at hq ⊢;refine⟨[.cel 0 [.bool sg,.sl es .no],.cel 0 [.bool sg,.sl es .no]],?_⟩;simp only[GMw,HPw,Nat.reduceAdd,Nat.reduceLT,vN,oD,Iz sB he,hq,hz]
 rfl

end
theorem numS_le (b:List UInt8)(f:Nat)(rest:List UInt8):∀n a,a<=b.length->a<=(FK b f rest n a).2/\(FK b f rest n a).2<=b.length:=λn a h=>by
 have:=numR_le b f rest n a h;rw[numR_S]at this;exact this
theorem intF_le {b:List UInt8}{a:Nat}(ha:a<=b.length)(neg:Bool):a<=N7 b a neg/\N7 b a neg<=b.length:=by
 unfold N7;cases neg with
 | false=>exact⟨UK _,ha⟩
 | true=>
  cases hs:Be b a [45]with
  | true=>have:=CF hs;simp;omega
  | false=>simpa using ha
theorem On {b:List UInt8}{a:Nat}(ha:a<=b.length)(neg:Bool)(rest:List UInt8):a<=(CO b a neg rest).2/\(CO b a neg rest).2<=b.length:=by
 unfold CO;have h1:=intF_le ha neg;have h2:=numS_le b (N7 b a neg) rest 402 (N7 b a neg) h1.2;split
 ·rename_i h;simp only[UU]at h;have:=CF h.2;exact⟨Nat.le_succ _,by omega⟩
 ·omega
section
variable {H:Aa}{p a:Nat}{b:List UInt8}{r:List Ab}
theorem Uc (h:Lx H p b a r){f:Nat}(Yk:a<=f)(hf:f<=b.length)(hb:b.length<1152921504606846976)(rest:List UInt8)(hr:rest.length<=1000000)(zb:List Ab)(hz:zb.length=2) :
  ∃G,Sh.f46 H (.ptr p 0 0) (.str rest) (.ptr H.length 0 0) (.i6 (a:Int)) (Ct H p b r f++[.cel 0 zb])=some (resE (FK b f rest 402 f).1 (big (BR ((b.take (FK b f rest 402 f).2).drop a))),Ct H p b r (FK b f rest 402 f).2++G):=by
 have hp:=lx_lt h;have hx:Lx (Ct H p b r f++[.cel 0 zb]) p b f r:=Lx.push (Gz h);have key:=lx_num_loop (H0:=H) hx hf hb rest hr (.ptr H.length 0 0) (.i6 (a:Int));have hle:=numS_le b f rest 402 f hf;unfold Sh.f46;simp only[GMw,HPw,Nat.reduceAdd,Nat.reduceLT,HF hx];rw[key,numR_S];generalize FK b f rest 402 f=R at *;obtain⟨er,e⟩:=R;have xG:∀G:Aa,Ct (Ct H p b r f++G) p b r e=Ct H p b r e++G:=λG=>by
  rw[TJ (by rw[setL_len];exact hp),TI]
 cases er with
 | some v=>
  refine⟨[.cel 0 zb],?_⟩;show some (Res.pan (hv v),Ct _ p b r e)=_;rw[xG];rfl
 | none=>
  obtain⟨G,hG⟩:=lx_num_end h (f:=a) (e:=e) (by dsimp only at hle;omega) hle.2 hb zb hz;refine⟨G,?_⟩;show Sh.f2d H (.ptr p 0 0) (.ptr H.length 0 0) (.i6 (a:Int)) (Ct _ p b r e)=_;rw[xG,hG];rfl
theorem Ub (h:Lx H p b a r)(ha:a<=b.length)(hb:b.length<1152921504606846976)(neg:Bool)(rest:List UInt8)(hr:rest.length<=1000000) :
  ∃G,Sh.f1b (.ptr p 0 0) (.bool neg) (.str rest) H=some (resE (CO b a neg rest).1 (big (BR ((b.take (CO b a neg rest).2).drop a))),Ct H p b r (CO b a neg rest).2++G):=by
 have hx:Lx (H++[.cel 0 [.bool false,.sl [] .ti]]) p b a r:=Lx.push h;have zA:=EE h;unfold Sh.f1b;have plain:N7 b a neg=a->CO b a neg rest=FK b a rest 402 a->∃G,Sh.f46 H (.ptr p 0 0) (.str rest) (.ptr H.length 0 0) (.i6 (a:Int)) (H++[.cel 0 [.bool false,.sl [] .ti]])=some (resE (CO b a neg rest).1 (big (BR ((b.take (CO b a neg rest).2).drop a))),Ct H p b r (CO b a neg rest).2++G):=by
  intro e1 e2;have:=Uc h (UK a) ha hb rest hr [.bool false,.sl [] .ti] rfl;rw[zA]at this;rw[e2];exact this
 cases neg with
 | false=>
  simp only[GMw,HPw,Nat.reduceAdd,Nat.reduceLT,HF hx];exact plain rfl rfl
 | true=>
  simp only[GMw,HPw,Nat.reduceAdd,Nat.reduceLT,HF hx,Fy hx ha];cases hs:Be b a [45]with
  | false=>
   simp only[GMw,HPw,Nat.reduceAdd,Nat.reduceLT];exact plain (by simp[N7,hs]) (by simp[CO,N7,hs])
  | true=>
   have hlt:=CF hs;have hm:=Ks (a':=a) hx (a+1);rw[EE hx]at hm;have hx1:=Gz (a':=a+1) hx;have xF:=TJ (b:=b) (r:=r) (G:=[.cel 0 [.bool false,.sl [] .ti]]) (e:=a+1) (lx_lt h);simp only[GMw,HPw,Nat.reduceAdd,Nat.reduceLT,HF hx,As (show a<9223372036854775807 by omega),hm,Fy hx1 (show a+1<=b.length by omega)];have e1:N7 b a true=a+1:=by simp[N7,hs]
   cases h0:Be b (a+1) [48]with
   | true=>
    have e2:CO b a true rest=(some (HQ b (a+1) []),a+1):=by simp[CO,hs,h0]
    rw[e2];refine⟨[.cel 0 [.bool false,.sl [] .ti]],?_⟩;simp only[GMw,HPw,Nat.reduceAdd,Nat.reduceLT,RW hx1];rw[xF];rfl
   | false=>
    have e2:CO b a true rest=FK b (a+1) rest 402 (a+1):=by simp[CO,hs,h0,e1]
    rw[e2];have:=Uc h (f:=a+1) (by omega) hlt hb rest hr [.bool false,.sl [] .ti] rfl;simp only[GMw,HPw,Nat.reduceAdd,Nat.reduceLT];rw[xF];exact this

end
section
variable {H:Aa}{b:List UInt8}{a:Nat}
theorem Ext.push (b id:Nat)(hb:b<=H.length)(G:Aa):Ext b id H (H++G):=
 ⟨by simp,λi c hi hc=>A0 hc,λi hi=>UL (by omega)⟩
theorem EC {s rest:List UInt8}(ha:a<=b.length):(B6 b a s rest).2<=b.length:=litN_le ha s
theorem rulS_le {rest:List UInt8}(ha:a<=b.length):a<=(HR b a rest).2/\(HR b a rest).2<=b.length:=ruleN_le 40 a ha
theorem anyN_le (ha:a<=b.length):M7 b a<=b.length:=by
 unfold M7;have:=(Xp (l:=b.drop a) λc=>!([13,10]:List UInt8).contains c).length_le;rw[Vc]at this;omega

end
theorem O4 {b:List UInt8}{a:Nat}(ha:a<=b.length)(rest:List UInt8):a<=(DM b a rest).2/\(DM b a rest).2<=b.length:=by
 refine⟨?_,eolN_le ha⟩;show a<=Nb b a;unfold Nb crN;split
 ·exact UK _
 ·split <;> split <;> omega
theorem syn_ref {s:List UInt8}{c:UInt8}{r:List UInt8}(dI:B9 s=c::r)(hlt:¬FP (B9 s)<(B9 s).length):IU s=((c == 48)&&(decide (1<r.length+1)||Ib s)):=by
 have hb:(B9 s == [])=false:=by rw[dI];rfl
 have bD:IU s=((c == 48) && !(s == [48])):=by
  simp only[IU,hb,zXd hlt,zXo];rw[dI]
  rfl
 rw[bD];by_cases hc:c=48
 ·subst hc;simp only[beq_self_eq_true,zXn];cases hn:Ib s with
  | true=>
   have:s≠[48]:=λe=>by rw[e]at hn;cases hn
   simp[this]
  | false=>
   have hs:s=48::r:=by rw[<-dI];simp[B9,hn]
   rw[hs];cases r <;> simp
 ·have:(c == 48)=false:=by simpa using hc
  simp[this]
theorem wrap_u8d {c:UInt8}(h:GS c=true):IntKind.u8.wrap ((c.toNat:Int)-48)=((c.toNat-48:Nat):Int):=by
 rw[I5]at h;rw[NK (by omega) (by omega)];omega
theorem build_one {es:List (List Ab)}{tk:Tok}:Az (some [(.bool false),(.sl [] .ti)]) [(1,1,.sl es tk)]=some (.agg [.bool false,.sl es tk]):=by simp[Az,Gp,Dc]
theorem OX (s:List UInt8)(H:Aa)(hs:s.length<1152921504606846976):Sh.f6g (.str s) H=some (.ret (.tup [big (BR s),.i6 (CY s)]),H):=by
 unfold Sh.f6g;have iT:(B9 s).length<=s.length:=by unfold B9;split <;> simp
 have jK:=q03_digits (B9 s) 0 (H++[Blk.cel 0 [.bool false,.sl [] .ti]]) (by omega) (by omega);have nA:(digA (B9 s) 0:Int)=(FP (B9 s):Int):=by simp[digA]
 rw[nA]at jK;have tail:Sh.f86 H (.ptr H.length 0 0) (.str (B9 s)) (.bool (Ib s)) (H++[Blk.cel 0 [.bool false,.sl [] .ti]])=some (.ret (.tup [big (BR s),.i6 (CY s)]),H):=by
  unfold Sh.f86;have bad:∀e:Int,CY s=e->e≠0->((Az (some [(.bool false),(.sl [] .ti)]) []).bind λx35=>
 bP H (Av (Ae 2 (.ptr H.length 0 0) x35 (H++[Blk.cel 0 [.bool false,.sl [] .ti]]))) λ_ H37=>
 (Cv [Ad true 2 (.ptr H.length 0 0) H37,some (.i6 e)]).bind λx38=>rPN H x38 H37)=some (.ret (.tup [big (BR s),.i6 (CY s)]),H):=by
   intro e he hne;have hZ:BR s=0:=by simp[BR,he,hne]
   rw[he,hZ,<-M5,NE,BL];exact MU rfl
  cases dI:B9 s with
  | nil=>
   have hE:CY s=2:=by simp[CY,IU,dI]
   simp only[Dv,zXk,GMw,show ((0:Nat):Int)=0 from rfl];exact bad 2 hE (by decide)
  | cons c r=>
   have dE:BI (.str (c::r)) (.i6 0)=some (.int .u8 (c.toNat:Int)):=Sn;have hcc:decide ((c.toNat:Int)=48)=(c == 48):=by
    rw[Va];simp only[zXe,beq_iff_eq];constructor
    ·intro h;exact WS (show c.toNat=(48:UInt8).toNat from by have:(48:UInt8).toNat=48:=rfl;omega)
    ·intro h;rw[h];rfl
   have hl0:¬(((c::r).length:Int)=0):=by simp;omega
   rw[dI]at jK;simp only[Dv,hl0,GMw,jK];by_cases hlt:FP (c::r)<(c::r).length
   ·have bD:IU s=true:=by simp only[IU,dI,zXc hlt,W8,Wi]
    have hne:¬((FP (c::r):Int)=((c::r).length:Int)):=by omega
    have hE:CY s=2:=by simp[CY,bD]
    simp only[hne,GMw];exact bad 2 hE (by decide)
   ·have hle:=QX (c::r);have heq:(FP (c::r):Int)=((c::r).length:Int):=by omega
    have qB:=syn_ref dI (by rw[dI];exact hlt);have hgt:decide (((c::r).length:Int)>1)=decide (1<r.length+1):=by
     rw[Va];simp only[zXe,zXj];omega
    have fin:(∀(K:Ab->Out),True)->(Ak (.bool (IU s)) ((Az (some [(.bool false),(.sl [] .ti)]) []).bind λx35=>
 bP H (Av (Ae 2 (.ptr H.length 0 0) x35 (H++[Blk.cel 0 [.bool false,.sl [] .ti]]))) λ_ H37=>
 (Cv [Ad true 2 (.ptr H.length 0 0) H37,some (.i6 2)]).bind λx38=>rPN H x38 H37) (
 (BM (.str (c::r))).bind λx39=>
 (Af .none .gtr x39 (.i6 400)).bind λx40=>
 Ak x40 (
 (Az (some [(.bool false),(.sl [] .ti)]) []).bind λx41=>
 bP H (Av (Ae 2 (.ptr H.length 0 0) x41 (H++[Blk.cel 0 [.bool false,.sl [] .ti]]))) λ_ H43=>
 (Cv [Ad true 2 (.ptr H.length 0 0) H43,some (.i6 4)]).bind λx44=>rPN H x44 H43) (
 Am (λaA vs H_1=>Sh.f3j H aA (ag vs 0) (ag vs 1) (ag vs 2) (ag vs 3) (ag vs 4) H_1) AM [.ptr H.length 0 0,.str (c::r),.bool (Ib s),(.sl [] .ti),(.i6 0)] (H++[Blk.cel 0 [.bool false,.sl [] .ti]]))))=some (.ret (.tup [big (BR s),.i6 (CY s)]),H):=by
     intro _;cases bD:IU s with
     | true=>
      have hE:CY s=2:=by simp[CY,bD]
      simp only[GMw];exact bad 2 hE (by decide)
     | false=>
      obtain⟨n1,n2,n3⟩:=QE bD;simp only[GMw,Dv];by_cases hl:(B9 s).length>400
      ·have gD:((c::r).length:Int)>400:=by rw[dI]at hl;omega
       have hE:CY s=4:=by simp[CY,bD,hl]
       simp only[gD,GMw];exact bad 4 hE (by decide)
      ·have gD:¬((c::r).length:Int)>400:=by rw[dI]at hl;omega
       have hE:CY s=0:=by simp[CY,bD,hl]
       have hZ:BR s=(if Ib s then -(Ex (B9 s):Int)else Ex (B9 s)):=by simp[BR,hE]
       have aD:=O9 n2;have sD:=QY aD;rw[hE,hZ];rw[<-dI];rw[<-dI]at gD;generalize hd:B9 s=d at *;simp only[gD,GMw];obtain⟨tkf,htk⟩:∃tkf:Nat->Tok,tkf=λi=>if i=0 then .ti else .no:=⟨_,rfl⟩
       have key:=Cj (G:=λaA vs H1=>Sh.f3j H aA (ag vs 0) (ag vs 1) (ag vs 2) (ag vs 3) (ag vs 4) H1) d.length (λi=>[.ptr H.length 0 0,.str d,.bool (Ib s),.sl (enL cU (A6 (Ex (d.take i)))) (tkf i),.i6 (i:Int)])
        (λi=>H++[.cel 0 [.bool false,.sl [] .ti]]) (some (.ret (.tup [big (if Ib s then -(Ex d:Int)else Ex d),.i6 0]),H)) (by omega) (λrec i hi=>?_) (λrec=>?_)
       ·rw[List.take_zero,show Ex []=0 from rfl,DX,htk]at key;exact key
       ·have sF:=aD _ (UV hi);have wA:=(I5 _).1 sF;have aF:(i:Int)<(d.length:Int):=by omega
        have hw:=wrap_u8d sF;have hcv:AA .u32 (.int .u8 ((d[i].toNat-48:Nat):Int))=some (.int .u32 ((d[i].toNat-48:Nat):Int)):=by rw[Bl,CP (by omega) (by omega)]
        have kT:=LR (sD i (by omega)) (by omega);have hml:=λH=>q01_mul (l:=A6 (Ex (d.take i))) (tk:=tkf i) (m:=10) (c:=d[i].toNat-48) H (Br _) (by omega) (by omega) (by omega);simp only[B2,<-PD,<-UR hi,show ((10:Nat):Int)=10 from rfl]at hml;have nI:tkf (i+1)=.no:=by rw[htk];rfl
        have w6:IntKind.i64.wrap ((i:Int)+1)=((i+1:Nat):Int):=by rw[Ao] <;> omega
        unfold Sh.f3j;simp only[GMw,Ai,Dv,aF,B1 hi,hw,hcv,hml,nI,w6]
       ·have kT:=LR (sD d.length (UK _)) (by omega);rw[Vs]at kT;have hst:∀B:Aa,Ae 2 (.ptr B.length 0 0) (.agg [.bool false,.sl (enL cU (A6 (Ex d))) (tkf d.length)]) (B++[.cel 0 [.bool false,.sl [] .ti]])=some (B++[.cel 0 [.bool false,.sl (enL cU (A6 (Ex d))) (tkf d.length)]]):=λB=>by
         rw[I8,J6 (sz:=2) (cs:=[.bool false,.sl [] .ti]) (vs:=[.bool false,.sl (enL cU (A6 (Ex d))) (tkf d.length)]) rfl rfl rfl]
         rfl
        have hld:∀B:Aa,Ad true 2 (.ptr B.length 0 0) (B++[.cel 0 [.bool false,.sl (enL cU (A6 (Ex d))) (tkf d.length)]])=some (.agg [.bool false,.sl (enL cU (A6 (Ex d))) (tkf d.length)]):=λB=>by
         rw[EH];rfl
        have pC:=λH=>OZ false (A6 (Ex d)) (tkf d.length) H (by omega) (Br _);have tQ:Ec false (A6 (Ex d))=(Ex d:Int):=by simp[Ec,B2]
        simp only[tQ]at pC;unfold Sh.f3j;simp only[GMw,Ai,Dv,V3,Vs,build_one,alloc_eq (cs:=[.bool false,.sl [] .ti]) rfl,Bj];rw[hst];simp only[GMw];cases hn:Ib s with
        | true=>
         simp only[GMw,if_true];rw[hld];simp only[GMw,pC];rw[J0,UP H];exact MU rfl
        | false=>
         simp only[GMw,UM,if_false];rw[hld];simp only[GMw];have hbo:Ab.agg [.bool false,.sl (enL cU (A6 (Ex d))) .no]=big (Ex d:Int):=big_of (neg:=false) (λh=>by cases h);rw[UP H,<-hbo];exact MU rfl
    have fin2:=fin (λ_=>trivial);simp only[heq,GMw,dE,hcc];rw[qB]at fin2;cases kH:(c == 48)with
    | false=>
     rw[kH,Wa]at fin2;simp only[GMw];exact fin2
    | true=>
     rw[kH,zXn]at fin2;simp only[GMw,Dv,hgt];cases pJ:decide (1<r.length+1)with
     | true=>
      rw[pJ,Wi]at fin2;simp only[GMw];exact fin2
     | false=>
      rw[pJ,zXo]at fin2;simp only[GMw];exact fin2
 simp only[alloc_eq (cs:=[.bool false,.sl [] .ti]) rfl,Bj,GMw,Dv];cases s with
 | nil=>
  simp only[zXk,show ¬(((0:Nat):Int)>0) from by decide,GMw,An,Ai];exact tail
 | cons c r=>
  have hgt:((c::r).length:Int)>0:=by simp
  have dE:BI (.str (c::r)) (.i6 0)=some (.int .u8 (c.toNat:Int)):=Sn;have hcc:decide ((c.toNat:Int)=45)=Ib (c::r):=by
   rw[Va];simp only[zXe,Ib,beq_iff_eq];constructor
   ·intro h;exact WS (show c.toNat=(45:UInt8).toNat from by have:(45:UInt8).toNat=45:=rfl;omega)
   ·intro h;rw[h];rfl
  simp only[hgt,GMw,dE,hcc];cases hn:Ib (c::r)with
  | true=>
   have h2:BS (.str (c::r)) (some (.i6 1)) none=some (.str ((c::r).drop 1)):=EY (l:=1) (by simp);rw[hn]at tail;have ht:B9 (c::r)=(c::r).drop 1:=by simp[B9,hn]
   rw[ht]at tail;simp only[GMw,h2,An,Ai];exact tail
  | false=>
   rw[hn]at tail;have ht:B9 (c::r)=c::r:=by simp[B9,hn]
   rw[ht]at tail;simp only[GMw,An,Ai];exact tail
theorem parse_ok {s:List UInt8}(h:CY s=0):IU s=false/\(B9 s).length<=400:=by
 unfold CY at h;cases hs:IU s with
 | true=>rw[hs]at h;simp at h
 | false=>
  rw[hs]at h;simp only[UM,if_false]at h;refine⟨rfl,?_⟩;split at h
  ·cases h
  ·omega
theorem pow10_pos (k:Nat):Int.natAbs 0<10^k:=WE (by omega)
theorem I4 (s:List UInt8):(BR s).natAbs<10^400:=by
 unfold BR;split
 ·rename_i h;obtain⟨h1,h2⟩:=parse_ok h;have aD:=O9 (QE h1).2.1;have:=QY aD (B9 s).length (UK _);rw[Vs]at this;have h3:=VL this (pow10_up h2);split
  ·rw[Int.natAbs_neg,Int.natAbs_natCast];exact h3
  ·rw[Int.natAbs_natCast];exact h3
 ·exact pow10_pos 400
theorem RT {b:List UInt8}{a:Nat}(s rest:List UInt8):a<=(B6 b a s rest).2:=Nat.le_add_right a (cpN (b.drop a) s)
structure BSt where
 law:List UInt8
 block:Bool
 x:Int
 y:Int
 rows:Nat
 cells:List Cl
def Fg:List UInt8:=[35,76,105,102,101,32,49,46,48,53]
def NQ (b:List UInt8)(bx:Int):Nat->Nat->Nat->BSt->(Er×Nat)×BSt
 | 0,a,x,st=>((none,a),st)
 | k+1,a,x,st=>
  if Be b a [46,42]then
   if Be b a [42]then
    if decide ((x:Int)>=bx)||decide ((st.rows:Int)>=bx)then ((some (4,[]),a),st)
    else NQ b bx k (a+1) (x+1) { st with cells:=st.cells++[⟨st.x+x,st.y+st.rows,1⟩] }
   else NQ b bx k (a+1) (x+1) st
  else ((none,a),{ st with rows:=st.rows+1 })
def JK (b:List UInt8)(a:Nat)(st:BSt):(Er×Nat)×BSt:=
 match B6 b a [80,32] [49,32,49]with
 | (some e,c)=>((some e,c),st)
 | (none,c)=>match CO b c true [32,49]with
  | (some e,d)=>((some e,d),st)
  | (none,d)=>match B6 b d [32] [49]with
   | (some e,f)=>((some e,f),{ st with x:=BR ((b.take d).drop c) })
   | (none,f)=>match CO b f true []with
    | (some e,g)=>((some e,g),{ st with x:=BR ((b.take d).drop c) })
    | (none,g)=>((none,g),{ st with x:=BR ((b.take d).drop c),y:=BR ((b.take g).drop f),block:=true,rows:=0 })
def Q0 (b:List UInt8)(a:Nat)(st:BSt):(Er×Nat)×BSt:=
 match B6 b a [82,32] [97]with
 | (some e,c)=>((some e,c),st)
 | (none,c)=>match HR b c []with
  | (some e,d)=>((some e,d),st)
  | (none,d)=>((none,d),{ st with law:=(b.take d).drop c })
def G4 (b:List UInt8)(a:Nat)(st:BSt):(Er×Nat)×BSt:=
 if Be b (a+1) [68]then ((none,M7 b (a+1)),st)
 else if Be b (a+1) [78]then ((none,a+2),{ st with law:=Nw })
 else if Be b (a+1) [82]then Q0 b (a+1) st
 else if Be b (a+1) [80]then JK b (a+1) st
 else ((some (HQ b (a+1) [78]),a+1),st)
def G7 (b:List UInt8)(bx:Int)(a:Nat)(st:BSt):(Er×Nat)×BSt:=
 if Be b a [35]then G4 b a st else if st.block then NQ b bx (b.length+1-a) a 0 st else ((some (HQ b a []),a),st)
def Tl (b:List UInt8)(s:(Er×Nat)×BSt):(Er×Nat)×BSt:=match s with
 | ((some e,c),st')=>((some e,c),st')
 | ((none,c),st')=>(DM b c [],st')
def Lp (b:List UInt8)(bx:Int)(a:Nat)(st:BSt):(Er×Nat)×BSt:=Tl b (G7 b bx a st)
def HU (b:List UInt8)(bx:Int):Nat->Nat->BSt->(Er×Nat)×BSt
 | 0,a,st=>((none,a),st)
 | k+1,a,st=>
  if a=b.length then ((none,a),st)
  else match Lp b bx a st with
   | ((some e,c),st')=>((some e,c),st')
   | ((none,c),st')=>HU b bx k c st'
def M9 (b:List UInt8)(bx:Int)(st:BSt):(Er×Nat)×BSt:=
 match B6 b 0 Fg []with
 | (some e,c)=>((some e,c),st)
 | (none,c)=>match DM b c []with
  | (some e,d)=>((some e,d),st)
  | (none,d)=>HU b bx (b.length+1) d st
structure BOk (n:Nat)(st:BSt):Prop where
 x:st.x.natAbs<10^400
 y:st.y.natAbs<10^400
 r:st.rows<=n
 c:st.cells.length<=n
 ok:∀c∈st.cells,c.ok
theorem cell_ok {x y:Int}{u v n:Nat}(hx:x.natAbs<10^400)(hy:y.natAbs<10^400)(hu:u<=n)(hv:v<=n)(hn:n<=1152921504606846976):Cl.ok ⟨x+u,y+v,1⟩:=by
 have h:(10:Nat)^400+1152921504606846976<4294967296^100:=by decide +kernel
 unfold Cl.ok SB;constructor <;> dsimp only <;> omega
structure OM (b:List UInt8)(a:Nat)(st:BSt)(s:(Er×Nat)×BSt):Prop where
 le:s.1.2<=b.length
 ge:a<=s.1.2
 ok:∀n,n+b.length+(b.length-a)<=1152921504606846976->BOk n st->BOk (n+(s.1.2-a)+1) s.2
theorem BOk.mono {n m:Nat}{st:BSt}(h:BOk n st)(hm:n<=m):BOk m st:=⟨h.x,h.y,Vf h.r hm,Vf h.c hm,h.ok⟩
theorem rowB_ok {b:List UInt8}{bx:Int}:∀(k a x:Nat) (st:BSt),a<=b.length->x<=a->OM b a st (NQ b bx k a x st)
 | 0,a,x,st,ha,hx=>⟨ha,UK _,λn _ h=>h.mono (by omega)⟩
 | k+1,a,x,st,ha,hx=>by
  unfold NQ;split
  ·rename_i hs;have hlt:=CF hs;split
   ·split
    ·exact⟨ha,UK _,λn _ h=>h.mono (by omega)⟩
    ·obtain⟨h1,h2,h3⟩:=rowB_ok (b:=b) (bx:=bx) k (a+1) (x+1) { st with cells:=st.cells++[⟨st.x+x,st.y+st.rows,1⟩] } (by omega) (by omega);refine⟨h1,by omega,λn hn h=>?_⟩;refine BOk.mono (h3 (n+1) (by omega) ⟨h.x,h.y,Vf h.r (by omega),by simp;have:=h.c;omega,λc hc=>?_⟩) (by omega);rcases Vi.1 hc with q | q
     ·exact h.ok c q
     ·rw[Vg.1 q];exact cell_ok (n:=n+b.length) h.x h.y (by omega) (by have:=h.r;omega) (by omega)
   ·obtain⟨h1,h2,h3⟩:=rowB_ok (b:=b) (bx:=bx) k (a+1) (x+1) st (by omega) (by omega);exact⟨h1,by omega,λn hn h=>(h3 n (by omega) h).mono (by omega)⟩
  ·exact⟨ha,UK _,λn _ h=>⟨h.x,h.y,by dsimp only;have:=h.r;omega,by dsimp only;have:=h.c;omega,h.ok⟩⟩
theorem lawB_ok {b:List UInt8}{a:Nat}(ha:a<=b.length)(st:BSt):OM b a st (Q0 b a st):=by
 unfold Q0;have h1:=EC (s:=[82,32]) (rest:=[97]) ha;have h2:=RT (b:=b) (a:=a) [82,32] [97];generalize B6 b a [82,32] [97]=M at h1 h2;obtain⟨er,c⟩:=M;dsimp only at h1 h2;cases er with
 | some e=>exact⟨h1,h2,λn _ h=>h.mono (by omega)⟩
 | none=>
  have h3:=rulS_le (rest:=[]) h1;dsimp only;generalize HR b c []=M at h3;obtain⟨er,d⟩:=M;dsimp only at h3;cases er with
  | some e=>exact⟨h3.2,by dsimp only;omega,λn _ h=>h.mono (by omega)⟩
  | none=>exact⟨h3.2,by dsimp only;omega,λn _ h=>⟨h.x,h.y,by dsimp only;have:=h.r;omega,by dsimp only;have:=h.c;omega,h.ok⟩⟩
theorem fromB_ok {b:List UInt8}{a:Nat}(ha:a<=b.length)(st:BSt):OM b a st (JK b a st):=by
 unfold JK;have h1:=EC (s:=[80,32]) (rest:=[49,32,49]) ha;have h2:=RT (b:=b) (a:=a) [80,32] [49,32,49];generalize B6 b a [80,32] [49,32,49]=M at h1 h2;obtain⟨er,c⟩:=M;dsimp only at h1 h2;cases er with
 | some e=>exact⟨h1,h2,λn _ h=>h.mono (by omega)⟩
 | none=>
  have h3:=On h1 true [32,49];dsimp only;generalize CO b c true [32,49]=M at h3;obtain⟨er,d⟩:=M;dsimp only at h3;cases er with
  | some e=>exact⟨h3.2,by dsimp only;omega,λn _ h=>h.mono (by omega)⟩
  | none=>
   have h4:=EC (s:=[32]) (rest:=[49]) h3.2;have h5:=RT (b:=b) (a:=d) [32] [49];dsimp only;generalize B6 b d [32] [49]=M at h4 h5;obtain⟨er,f⟩:=M;dsimp only at h4 h5;cases er with
   | some e=>exact⟨h4,by dsimp only;omega,λn _ h=>⟨I4 _,h.y,by dsimp only;have:=h.r;omega,by dsimp only;have:=h.c;omega,h.ok⟩⟩
   | none=>
    have h6:=On h4 true [];dsimp only;generalize CO b f true []=M at h6;obtain⟨er,g⟩:=M;dsimp only at h6;cases er with
    | some e=>exact⟨h6.2,by dsimp only;omega,λn _ h=>⟨I4 _,h.y,by dsimp only;have:=h.r;omega,by dsimp only;have:=h.c;omega,h.ok⟩⟩
    | none=>exact⟨h6.2,by dsimp only;omega,λn _ h=>⟨I4 _,I4 _,by dsimp only;omega,by dsimp only;have:=h.c;omega,h.ok⟩⟩
theorem OM.back {b:List UInt8}{a:Nat}{st:BSt}{s:(Er×Nat)×BSt}(h:OM b (a+1) st s):OM b a st s:=
 ⟨h.le,by have:=h.ge;omega,λn hn hk=>(h.ok n (by omega) hk).mono (by have:=h.ge;omega)⟩
theorem anyN_ge {b:List UInt8}{a:Nat}:a<=M7 b a:=by unfold M7;omega
theorem markB_ok {b:List UInt8}{a:Nat}(ha:a<b.length)(st:BSt):OM b a st (G4 b a st):=by
 unfold G4;split
 ·exact⟨anyN_le (show a+1<=b.length by omega),by have:=anyN_ge (b:=b) (a:=a+1);dsimp only;omega,λn _ h=>h.mono (by omega)⟩
 ·split
  ·rename_i hs;have:=CF hs;exact⟨by dsimp only;omega,by dsimp only;omega,λn _ h=>⟨h.x,h.y,by dsimp only;have:=h.r;omega,by dsimp only;have:=h.c;omega,h.ok⟩⟩
  ·split
   ·exact (lawB_ok (show a+1<=b.length by omega) st).back
   ·split
    ·exact (fromB_ok (show a+1<=b.length by omega) st).back
    ·exact⟨by dsimp only;omega,by dsimp only;omega,λn _ h=>h.mono (by omega)⟩
theorem Oi {b:List UInt8}{bx:Int}{a:Nat}(ha:a<b.length)(st:BSt):OM b a st (G7 b bx a st):=by
 unfold G7;split
 ·exact markB_ok ha st
 ·split
  ·exact rowB_ok _ _ _ _ (X6 ha) (Ve _)
  ·exact⟨X6 ha,UK _,λn _ h=>h.mono (by omega)⟩
theorem endS_up {b:List UInt8}{a:Nat}(ha:a<b.length)(h:(DM b a []).1=none):a<(DM b a []).2:=by
 have hne:a≠b.length:=by omega
 unfold DM at h ⊢;simp only[if_neg hne]at h;split at h
 ·rename_i hs;unfold Nb;rw[if_neg hne,if_pos hs];have:a<=crN b a:=by unfold crN;split <;> omega
  dsimp only;rw[if_neg hne,if_pos hs];omega
 ·cases h
theorem Pg {b:List UInt8}{bx:Int}{a:Nat}(ha:a<b.length)(st:BSt):(Lp b bx a st).1.1=none->a<(Lp b bx a st).1.2:=by
 unfold Lp Tl;have h:=Oi (bx:=bx) ha st;generalize G7 b bx a st=M at h;obtain⟨⟨er,c⟩,st'⟩:=M;obtain⟨h1,h2,h3⟩:=h;cases er with
 | some e=>intro h;cases h
 | none=>
  dsimp only at h1 h2 ⊢;intro h;by_cases hc:c=b.length
  ·have:=(O4 h1 []).1;omega
  ·have:=endS_up (show c<b.length by omega) h;omega
theorem oneB_ok {b:List UInt8}{bx:Int}{a:Nat}(ha:a<b.length)(st:BSt):OM b a st (Lp b bx a st):=by
 unfold Lp Tl;have h:=Oi (bx:=bx) ha st;generalize G7 b bx a st=M at h;obtain⟨⟨er,c⟩,st'⟩:=M;obtain⟨h1,h2,h3⟩:=h;cases er with
 | some e=>exact⟨h1,h2,h3⟩
 | none=>
  dsimp only at h1 h2 h3 ⊢;have:=O4 h1 [];exact⟨this.2,by dsimp only;omega,λn hn h=>(h3 n hn h).mono (by dsimp only;omega)⟩
theorem Uh {b:List UInt8}{bx:Int}:∀(k a:Nat) (st:BSt) (n:Nat),a<=b.length->n+2*(b.length-a)+1+b.length<=1152921504606846976->BOk n st->BOk (n+2*(b.length-a)+1) (HU b bx k a st).2
 | 0,a,st,n,_,_,h=>h.mono (by omega)
 | k+1,a,st,n,ha,hn,h=>by
  unfold HU;by_cases he:a=b.length
  ·rw[if_pos he];exact h.mono (by omega)
  ·rw[if_neg he];have hok:=oneB_ok (bx:=bx) (show a<b.length by omega) st;have aU:=Pg (bx:=bx) (show a<b.length by omega) st;generalize Lp b bx a st=M at hok aU;obtain⟨⟨er,c⟩,st'⟩:=M;obtain⟨k1,k2,k3⟩:=hok;dsimp only at k1 k2 k3 aU ⊢;have k4:=k3 n (by omega) h;cases er with
   | some e=>exact k4.mono (by omega)
   | none=>
    have:=aU rfl;exact (Uh k c st' _ k1 (by omega) k4).mono (by omega)
theorem allB_ok (b:List UInt8)(bx:Int)(st:BSt)(hb:4*b.length+10<=1152921504606846976)(h:BOk 0 st):BOk (2*b.length+1) (M9 b bx st).2:=by
 unfold M9;have hM:=EC (s:=Fg) (rest:=[]) (Ve b.length);generalize B6 b 0 Fg []=M at hM;obtain⟨er,c⟩:=M;dsimp only at hM;cases er with
 | some e=>exact h.mono (by omega)
 | none=>
  have hle:=O4 hM [];dsimp only;generalize DM b c []=M at hle;obtain⟨er,d⟩:=M;cases er with
  | some e=>exact h.mono (by omega)
  | none=>exact (Uh (b:=b) (bx:=bx) (b.length+1) d st 0 hle.2 (by omega) h).mono (by omega)
theorem rowB_er (b:List UInt8)(bx:Int):∀k a x st,Ft (NQ b bx k a x st).1.1
 | 0,a,x,st=>.none
 | k+1,a,x,st=>by
  unfold NQ;split
  ·split
   ·split
    ·exact .lim
    ·exact rowB_er b bx k _ _ _
   ·exact rowB_er b bx k _ _ _
  ·exact .none
theorem lineB_er (b:List UInt8)(bx:Int)(a:Nat)(st:BSt):Ft (G7 b bx a st).1.1:=by
 unfold G7;split
 ·unfold G4;split
  ·exact .none
  ·split
   ·exact .none
   ·split
    ·unfold Q0;have:=HE b (a+1) [82,32] [97];generalize B6 b (a+1) [82,32] [97]=M at this;obtain⟨er,c⟩:=M;cases er with
     | some e=>exact this
     | none=>
      have:=rulS_er b c [];dsimp only;generalize HR b c []=M at this;obtain⟨er,d⟩:=M;cases er with
      | some e=>exact this
      | none=>exact .none
    ·split
     ·unfold JK;have:=HE b (a+1) [80,32] [49,32,49];generalize B6 b (a+1) [80,32] [49,32,49]=M at this;obtain⟨er,c⟩:=M;cases er with
      | some e=>exact this
      | none=>
       have:=intS_er b c true [32,49];dsimp only;generalize CO b c true [32,49]=M at this;obtain⟨er,d⟩:=M;cases er with
       | some e=>exact this
       | none=>
        have:=HE b d [32] [49];dsimp only;generalize B6 b d [32] [49]=M at this;obtain⟨er,f⟩:=M;cases er with
        | some e=>exact this
        | none=>
         have:=intS_er b f true [];dsimp only;generalize CO b f true []=M at this;obtain⟨er,g⟩:=M;cases er with
         | some e=>exact this
         | none=>exact .none
     ·exact .stp _ _ _
 ·split
  ·exact rowB_er _ _ _ _ _ _
  ·exact .stp _ _ _
theorem oneB_er (b:List UInt8)(bx:Int)(a:Nat)(st:BSt):Ft (Lp b bx a st).1.1:=by
 unfold Lp Tl;have:=lineB_er b bx a st;generalize G7 b bx a st=M at this;obtain⟨⟨er,c⟩,st'⟩:=M;cases er with
 | some e=>exact this
 | none=>exact endS_er _ _ _
theorem Ui (b:List UInt8)(bx:Int):∀k a st,Ft (HU b bx k a st).1.1
 | 0,a,st=>.none
 | k+1,a,st=>by
  unfold HU;split
  ·exact .none
  ·have:=oneB_er b bx a st;generalize Lp b bx a st=M at this;obtain⟨⟨er,c⟩,st'⟩:=M;cases er with
   | some e=>exact this
   | none=>exact Ui b bx k _ _
theorem allB_er (b:List UInt8)(bx:Int)(st:BSt):Ft (M9 b bx st).1.1:=by
 unfold M9;have:=HE b 0 Fg [];generalize B6 b 0 Fg []=M at this;obtain⟨er,c⟩:=M;cases er with
 | some e=>exact this
 | none=>
  dsimp only;have:=endS_er b c [];generalize DM b c []=M at this;obtain⟨er,d⟩:=M;cases er with
  | some e=>exact this
  | none=>exact Ui _ _ _ _ _
def L8:BSt:=⟨Nw,false,0,0,0,[]⟩
def IZ (b:List UInt8)(bx N:Int):(List UInt8×List Nd)×Int×Int:=
 if JL bx N then
  match M9 b bx L8 with
  | ((some e,c),_)=>(([],[]),(c:Int),e.1)
  | ((none,_),st)=>
   if decide ((Ie st.cells).2=0)&&decide (((Ie st.cells).1.length:Int)<=N)then ((st.law,(Ie st.cells).1),0,0)
   else (([],[]),(b.length:Int),4)
 else (([],[]),0,1)
def Ur (b:List UInt8):List UInt8×Bool:=match (M9 b 1000 ⟨[],false,0,0,0,[]⟩).1.1 with
 | none=>([],true)
 | some e=>(e.2,decide (e.1=0)||decide (e.1=3))
set_option exponentiation.threshold 5000
theorem Rx (n:Nat):Gd (A6 n)=true:=(Ny (Br n)).2 (JB n)
theorem cut_lims (n:Nat)(tk:Tok)(H:Aa)(hl:(A6 n).length<=1099511627776):Sh.f2 (.sl (enL cU (A6 n)) tk) H=some (.ret (.sl (enL cU (A6 n)) .no),H):=by
 have hr:=p_right (A6 n) tk H hl;rw[Rx]at hr;unfold Sh.f2;rw[Dp DZ];unfold Sh.f1a;simp only[An,GMw,hr,Vp,Em,forget,Ew,fgt]
theorem w_pow (k:Nat):(4294967296:Nat)^k=2^(32*k):=by
 rw[show (4294967296:Nat)=2^32 from by decide,<-Xg]
theorem bl_snoc {l':List Nat}{x:Nat}(hx:Lim (l'++[x]))(h0:x≠0):blN (val (l'++[x]))=32*l'.length+blN x:=by
 have h1:=Gk (l:=l') λy hy=>hx y (by simp[hy]);rw[Cu,I6];rw[w_pow]at h1 ⊢;have hp:0<2^(32*l'.length):=WE (by decide);have h2:2^(32*l'.length)<=val l'+2^(32*l'.length)*x:=by
  have:2^(32*l'.length)*1<=2^(32*l'.length)*x:=WU _ (by omega);omega
 rw[blN_div h2,Xy _ _ hp,Wg h1,UJ,Xo]
theorem p_len (n:Nat)(tk:Tok)(H:Aa)(hl:(A6 n).length<=1000000):Sh.f4t (.sl (enL cU (A6 n)) tk) H=some (.ret (.i6 (blN n:Int)),H):=by
 have hc:=cut_lims n tk H (by omega);unfold Sh.f4t;simp only[GMw,hc,Ay];have hx:=Br n;have hn:=(JB n).last;have hv:=B2 n;generalize A6 n=l at *;rcases Ha l with rfl | ⟨l',x,rfl⟩
 ·have:n=0:=hv.symm;subst this;simp[blN]
 ·simp only[UO,zXi]at hl;have yO:x≠0:=hn x (by simp);have h1:l'.length<(l'++[x]).length:=by simp
  have h3:IntKind.i64.wrap ((((l'++[x]).length:Nat):Int)-1)=(l'.length:Int):=by rw[Ao] <;> simp <;> omega
  have hne:((((l'++[x]).length:Nat):Int) == 0)=false:=by simp;omega
  have nW:decide ((((l'++[x]).length:Nat):Int)=0)=false:=zXd (by simp;omega);have h4:IntKind.i64.wrap ((l'.length:Int)*32)=((32*l'.length:Nat):Int):=by rw[Ao] <;> omega
  have jL:=hx x (by simp);have hb:blN x<=32:=Jl.2 (by simpa using jL);have h5:IntKind.i64.wrap (((32*l'.length:Nat):Int)+(blN x:Int))=(blN n:Int):=by
   rw[<-hv,bl_snoc hx yO,Ao] <;> omega
  have vO:=λK=>p_len32 jL K;simp only[hne,nW,AO,h3,A4 h1,AF,zXh,VK (UK _),Vr,List.getElem_cons_zero,GMw,h4,vO,h5]
theorem limb_at {l:List Nat}(hx:Lim l){q:Nat}(hq:q<l.length):l[q]=val l / 2^(32*q)%4294967296:=by
 have e:l=l.take q++(l[q]::l.drop (q+1)):=by rw[<-Vh hq,V7]
 have h1:=Gk (l:=l.take q) λy hy=>hx y (VR hy);have h2:=hx l[q] (UV hq);have hv:val l=val (l.take q)+4294967296^q*(l[q]+4294967296*val (l.drop (q+1))):=by
  conv=>lhs;rw[e]
  rw[Cu,UY,VF (by omega)]
  rfl
 rw[UY,VF (by omega)]at h1;have hp:0<4294967296^q:=WE (by decide);rw[hv,<-w_pow,Xy _ _ hp,Wg h1,UJ,Nat.add_mul_mod_self_left,VE h2]
theorem shr_u32i (x k:Nat)(hk:k<=32):Af .none .shr (.int .u32 (x:Int)) (.i6 (k:Int))=some (.int .u32 ((x / 2^k:Nat):Int)):=shr_u32 x k hk
theorem and_one {x:Nat}(hx:x<4294967296):Af .none .and (.int .u32 (x:Int)) (.int .u32 1)=some (.int .u32 ((x%2:Nat):Int)):=by
 have h:=(Kc (BitVec.ofNat 32 x) (BitVec.ofNat 32 1)).1;rw[BitVec.toNat_and,Wm,Wm,VE hx,VE (by decide),Nat.and_one_is_mod]at h;rw[M0 .and rfl _ _ (λ_ _ _=>rfl)];exact h
theorem p_bit (n i:Nat)(tk:Tok)(H:Aa)(hl:(A6 n).length<=1000000)(hi:i<1000000):Sh.f23 (.sl (enL cU (A6 n)) tk) (.i6 (i:Int)) H=some (.ret (.bool (n.testBit i)),H):=by
 have d0:decide ((i:Int)>=0)=true:=zXc (by omega);have hq:Af .none .quo (.i6 (i:Int)) (.i6 32)=some (.i6 ((i / 32:Nat):Int)):=by
  show some (Ab.i6 (IntKind.i64.wrap (((i / 32:Nat):Int))))=_;rw[Ao (by omega) (by omega)]
 have uI:Af .none .rem (.i6 (i:Int)) (.i6 32)=some (.i6 ((i%32:Nat):Int)):=rfl;unfold Sh.f23;by_cases h:i / 32<(A6 n).length
 ·have d1:decide (((i / 32:Nat):Int)<((A6 n).length:Int))=true:=zXc (by omega);have hx:=Br n _ (UV h);have ha:=limb_at (Br n) h;rw[B2]at ha;have hs:=shr_u32i (A6 n)[i / 32] (i%32) (by omega);have Yi:=and_one (x:=(A6 n)[i / 32] / 2^(i%32)) (V8 (Nat.div_le_self _ _) hx);have ht:((((A6 n)[i / 32] / 2^(i%32)%2:Nat):Int) == 1)=n.testBit i:=by
   have e1:n.testBit i=(A6 n)[i / 32].testBit (i%32):=by
    rw[ha,show (4294967296:Nat)=2^32 from by decide,Nat.testBit_mod_two_pow,Nat.testBit_div_two_pow,zXc (show i%32<32 by omega),zXn,show i%32+32*(i / 32)=i by omega]
   rw[e1,Wq];generalize (A6 n)[i / 32] / 2^(i%32)%2=z;rw[Va];simp;omega
  simp only[GMw,d0,hq,Ay,d1,A4 h,AF,zXh,uI,hs,Yi,ht]
 ·have d1:decide (((i / 32:Nat):Int)<((A6 n).length:Int))=false:=zXd (by omega);have h1:=Gk (Br n);rw[B2,w_pow]at h1;have hf:n.testBit i=false:=Nat.testBit_lt_two_pow (VL h1 (Vv (by decide) (by omega)));simp only[GMw,d0,hq,Ay,d1,hf]
theorem p_need {z:Int}(H:Aa)(hz:LB z)(hl:z.natAbs<4294967296^100):Sh.f2s (big z) H=some (.ret (.i6 ((1+blN (if z<0 then z.natAbs-1 else z.natAbs):Nat):Int)),H):=by
 have key:∀w:Nat,w<=z.natAbs->(A6 w).length<=1000000:=λw hw=>Vf (Fe (V8 hw hl)) (by decide);have hbl:∀w:Nat,w<=z.natAbs->IntKind.i64.wrap (1+(blN w:Int))=((1+blN w:Nat):Int):=λw hw=>by
  have:blN w<=32*100:=Jl.2 (V8 hw (by rw[w_pow]at hl;exact hl));rw[Ao] <;> omega
 have one:∀K,Sh.f1c (.i6 1) K=some (.ret (big 1),K):=λK=>p_of 1 K (by decide) (by decide);have l1:LB 1:=by unfold LB;exact Vf (Fe (k:=1) (by decide)) (by decide)
 unfold Sh.f2s Sh.f8i;by_cases h:z<0
 ·have e:(-z-1).natAbs=z.natAbs-1:=by omega
  have hs:=λK=>p_subB K hz.neg l1;have aZ:=λK=>p_len (z.natAbs-1) .no K (key _ (by omega));have hb:=hbl (z.natAbs-1) (by omega);simp[DO,h,AI,p_minus,one,hs,e,aZ,hb]
 ·have aZ:=λK=>p_len z.natAbs .no K (key _ (by omega));have hb:=hbl z.natAbs (by omega);simp[DO,h,AI,aZ,hb]
def Ob (z:Int):Nat:=1+blN (if z<0 then z.natAbs-1 else z.natAbs)
theorem ipow (w:Nat):(2:Int)^w=((2^w:Nat):Int):=by simp
theorem inZ_need {v:Nat}{z:Int}(h:1<=v):inZ v z=decide (Ob z<=v):=by
 have hp:0<2^(v-1):=WE (by decide);have key:∀u,1+blN u<=v↔u<2^(v-1):=λu=>by rw[<-Jl];omega
 unfold inZ Ob;rw[Va];simp only[UU,zXe,ipow,key];generalize 2^(v-1)=P at *;by_cases hz:z<0
 ·rw[if_pos hz];omega
 ·rw[if_neg hz];omega
def Qe (c:Cl):Nat:=max (Ob c.x) (Ob c.y)
theorem within_need {v:Nat}{c:Cl}(h:1<=v):EN v c=decide (Qe c<=v):=by
 unfold EN Qe;rw[inZ_need h,inZ_need h,Va];simp only[UU,zXe];omega
theorem Ud:∀f v c,1<=v->IW f v c=max v (min (Qe c) (v+f))
 | 0,v,c,h=>by unfold IW;omega
 | f+1,v,c,h=>by
  unfold IW;rw[within_need h];by_cases q:Qe c<=v
  ·rw[if_pos (zXc q)];omega
  ·rw[if_neg (by simpa using q),Ud f (v+1) c (by omega)];omega
def mxN:List Cl->Nat
 | []=>0
 | c::l=>max (Qe c) (mxN l)
theorem fold_lv:∀(l:List Cl) (v:Nat),1<=v->v<=1330->l.foldl (λv c=>IW (1330-v) v c) v=max v (min 1330 (mxN l))
 | [],v,h1,h2=>by simp only[List.foldl_nil,mxN];omega
 | c::l,v,h1,h2=>by
  have h:=Ud (1330-v) v c h1;rw[List.foldl_cons,fold_lv l _ (by omega) (by omega),h];simp only[mxN];omega
def Eo (l:List Cl):Nat->Nat
 | 0=>1
 | i+1=>match l[i]? with | some c=>max (Eo l i) (Qe c) | none=>Eo l i
theorem Pc (l:List Cl):∀i,Eo l i=max 1 (mxN (l.take i))
 | 0=>rfl
 | i+1=>by
  have hs:∀(m:List Cl) (c:Cl),mxN (m++[c])=max (mxN m) (Qe c):=λm c=>by
   induction m with
   | nil=>simp only[List.nil_append,mxN];omega
   | cons d m ih=>simp only[List.cons_append,mxN,ih];omega
  unfold Eo;rw[Pc l i];rcases Vy i l.length with h | h
  ·rw[UG h,UR h,hs];dsimp only;omega
  ·rw[zYb h,US (show l.length<=i+1 by omega),US h]
theorem levelOf_need (l:List Cl):Bh l=min 1330 (Eo l l.length):=by
 unfold Bh;rw[fold_lv l 1 (by omega) (by omega),Pc,Vs];omega
structure Sp where
 a:Nat
 b:Nat
 s:UInt8
def cSp (p:Sp):List Ab:=[.sl (enL cU (A6 p.a)) .no,.sl (enL cU (A6 p.b)) .no,.int .u8 (p.s.toNat:Int)]
instance:Sz cSp 3:=⟨λ_=>rfl⟩
def spot (h:Int)(c:Cl):Sp:=⟨(c.x+h).toNat,(c.y+h).toNat,c.s⟩
def qOf (v:Nat)(p:Sp):Nat:=(if p.a.testBit v then 1 else 0)+(if p.b.testBit v then 2 else 0)
def qSp (v k:Nat)(S:List Sp):List Sp:=S.filter λp=>decide (qOf v p=k)
def headP:List Sp->Int
 | []=>0
 | p::_=>(p.s.toNat:Int)
def lyK (rec:List Nd->List Sp->List Nd×Nat)(v:Nat)(S:List Sp):Nat->List Nd->List Nd×Nd
 | 0,out=>(out,⟨((v+1:Nat):Int),0,0,0,0⟩)
 | k+1,out=>
  if v=0 then ((lyK rec v S k out).1,(lyK rec v S k out).2.setKid k (headP (qSp v k S)))
  else ((rec (lyK rec v S k out).1 (qSp v k S)).1,(lyK rec v S k out).2.setKid k ((rec (lyK rec v S k out).1 (qSp v k S)).2:Int))
def CD:Nat->List Nd->List Sp->List Nd×Nat
 | 0,out,_=>(out,0)
 | v+1,out,S=>if S=[]then (out,0)else ((lyK (CD v) v S 4 out).1++[(lyK (CD v) v S 4 out).2],(lyK (CD v) v S 4 out).1.length+1)
theorem bit_hi {A X v m:Nat}(hX:X=2^(v+1)*m)(h1:X<=A)(h2:A<X+2^(v+1)):A.testBit v=decide (X+2^v<=A):=by
 have hp:0<2^v:=WE (by decide);have e:2^(v+1)=2^v*2:=Nat.pow_succ _ _;obtain⟨r,rfl⟩:∃r,A=X+r:=⟨A-X,by omega⟩;rw[Wq,hX,e,Wk,Nat.mul_add_div hp,Nat.mul_add_mod];have hr:r<2^v*2:=by omega
 by_cases q:2^v<=r
 ·have:r / 2^v=1:=by
   rw[show r=2^v*1+(r-2^v)by omega,Nat.mul_add_div hp,Wg (by omega)]
  rw[this,Va];simp;omega
 ·rw[Wg (by omega),Va];simp;omega
theorem quart_bit {v k:Nat}{x y h:Int}{X Y m n:Nat}{c:Cl}(hk:k<4)(hx:(X:Int)=x+h)(hy:(Y:Int)=y+h)(hX:X=2^(v+1)*m)(hY:Y=2^(v+1)*n)(hc:InSq (v+1) x y c) :
  inQ (v+1) (qa (v+1) x k) (qb (v+1) y k) c=decide (qOf v (spot h c)=k):=by
 obtain⟨c1,c2,c3,c4⟩:=hc;have e:(2:Int)^(v+1)=((2^(v+1):Nat):Int):=ipow _;rw[e]at c2 c4;have b1:=bit_hi (A:=(c.x+h).toNat) hX (by omega) (by omega);have b2:=bit_hi (A:=(c.y+h).toNat) hY (by omega) (by omega);have e2:2^(v+1)=2^v*2:=Nat.pow_succ _ _;rw[e2]at c2 c4;unfold qOf spot;dsimp only;rw[b1,b2];unfold inQ qa qb;rw[Vm,ipow];generalize 2^v=P at *;clear hX hY b1 b2 e e2;have t1:(X+P<=(c.x+h).toNat)↔x+P<=c.x:=by omega
 have t2:(Y+P<=(c.y+h).toNat)↔y+P<=c.y:=by omega
 simp only[t1,t2,zXe];rw[Va];simp only[UU,zXe];by_cases q1:x+P<=c.x
 ·by_cases q2:y+P<=c.y
  ·rw[if_pos q1,if_pos q2]
   match k,hk with
   | 0,_=>simp;omega
   | 1,_=>simp;omega
   | 2,_=>simp;omega
   | 3,_=>simp;omega
  ·rw[if_pos q1,if_neg q2]
   match k,hk with
   | 0,_=>simp;omega
   | 1,_=>simp;omega
   | 2,_=>simp;omega
   | 3,_=>simp;omega
 ·by_cases q2:y+P<=c.y
  ·rw[if_neg q1,if_pos q2]
   match k,hk with
   | 0,_=>simp;omega
   | 1,_=>simp;omega
   | 2,_=>simp;omega
   | 3,_=>simp;omega
  ·rw[if_neg q1,if_neg q2]
   match k,hk with
   | 0,_=>simp;omega
   | 1,_=>simp;omega
   | 2,_=>simp;omega
   | 3,_=>simp;omega
theorem head_spot (h:Int)(l:List Cl):headP (l.map (spot h))=headS l:=by cases l <;> rfl
theorem qSp_spot {v k:Nat}{x y h:Int}{X Y m n:Nat}{l:List Cl}(hk:k<4)(hx:(X:Int)=x+h)(hy:(Y:Int)=y+h)(hX:X=2^(v+1)*m)(hY:Y=2^(v+1)*n)(hc:∀c∈l,InSq (v+1) x y c) :
  qSp v k (l.map (spot h))=(EI (v+1) x y k l).map (spot h):=by
 unfold qSp EI;rw[List.filter_map]
 congr 1
 refine List.filter_congr λc aG=>?_;exact (quart_bit hk hx hy hX hY (hc c aG)).symm
theorem Uk {h:Int}:∀(v:Nat) (out:List Nd) (x y:Int) (l:List Cl) (X Y m n:Nat),(X:Int)=x+h->(Y:Int)=y+h->X=2^v*m->Y=2^v*n->(∀c∈l,InSq v x y c)->CD v out (l.map (spot h))=Bm v out x y l
 | 0,out,x,y,l,X,Y,m,n,_,_,_,_,_=>rfl
 | v+1,out,x,y,l,X,Y,m,n,hx,hy,hX,hY,hc=>by
  have e2:2^(v+1)=2^v*2:=Nat.pow_succ _ _;have key:∀k,k<=4->lyK (CD v) v (l.map (spot h)) k out=plK (Bm v) (v+1) x y l k out:=by
   intro k
   induction k with
   | zero=>intro _;rfl
   | succ k ih=>
    intro hk;have hq:=qSp_spot (k:=k) (by omega) hx hy hX hY hc;unfold lyK plK;rw[ih (by omega),hq,head_spot];by_cases h0:v=0
    ·rw[if_pos h0,if_pos (by omega)]
    ·rw[if_neg h0,if_neg (by omega)];have hrec:=Uk (h:=h) v (plK (Bm v) (v+1) x y l k out).1 (qa (v+1) x k) (qb (v+1) y k) (EI (v+1) x y k l)
      (if k%2=1 then X+2^v else X) (if 1<k then Y+2^v else Y) (if k%2=1 then m*2+1 else m*2) (if 1<k then n*2+1 else n*2)
      (by unfold qa;rw[Vm,ipow];split <;> omega) (by unfold qb;rw[Vm,ipow];split <;> omega)
      (by rw[hX,e2];split <;> (simp only[VO,UW,Wk,VV 2 m])) (by rw[hY,e2];split <;> (simp only[VO,UW,Wk,VV 2 n]))
      (λc hc=>quart_in hc)
     rw[hrec]
  unfold CD Bm;rw[key 4 (by omega)];by_cases h0:l=[]
  ·rw[if_pos (by rw[h0];rfl),if_pos h0]
  ·rw[if_neg (by simpa using h0),if_neg h0]
theorem c05_kid {L:List Nd}{tk:Tok}{i:Nat}(hi:i<L.length)(h1:1<=L[i].lv)(h2:L[i].lv<=1329)(c:Int)(H:Aa)(hL:L.length<1152921504606846976):Sh.f4y (.sl (enL cNd L) tk) (.i6 (i:Int)) (.i6 c) H=some (.ret (.bool (Dl L i L[i] c)),H):=by
 unfold Sh.f4y;simp only[GMw,HPw,Nat.reduceAdd,Nat.reduceLT,A4 hi,Je,Cy,FT,Fq,FM];generalize L[i]=x at h1 h2;by_cases hc:c=0
 ·have:Dl L i x c=true:=by
   unfold Dl;simp only[UU,zXe];exact⟨⟨by omega,λ_=>by omega⟩,λ_ h=>by omega⟩
  rw[this];simp only[hc,GMw,HPw,Nat.reduceAdd,Nat.reduceLT]
 ·simp only[hc,GMw,HPw,Nat.reduceAdd,Nat.reduceLT,Cy];by_cases hl:x.lv=1
  ·have:Dl L i x c=(decide (c>0)&&decide (c<=255)):=by
    unfold Dl;rw[Va];simp only[UU,zXe];exact⟨λh=>⟨by omega,h.1.2 hl⟩,λh=>⟨⟨by omega,λ_=>h.2⟩,λh'=>by omega⟩⟩
   rw[this];by_cases h0:c>0
   ·simp only[hl,h0,GMw,HPw,Nat.reduceAdd,Nat.reduceLT]
   ·simp only[hl,h0,GMw,HPw,Nat.reduceAdd,Nat.reduceLT]
  ·simp only[hl,GMw,HPw,Nat.reduceAdd,Nat.reduceLT];by_cases h0:c>0
   ·by_cases iQ:c<=(i:Int)
    ·obtain⟨m,rfl⟩:∃m:Nat,c=((m+1:Nat):Int):=⟨(c-1).toNat,by omega⟩;have hm:m<L.length:=by omega
     have hw:IntKind.i64.wrap (((m+1:Nat):Int)-1)=(m:Int):=by rw[Ao] <;> omega
     have cA:IntKind.i64.wrap (x.lv-1)=x.lv-1:=Ao (by omega) (by omega);have:Dl L i x ((m+1:Nat):Int)=decide (L[m].lv=x.lv-1):=by
      unfold Dl;rw[Va];simp only[UU,zXe,show (((m+1:Nat):Int)-1).toNat=m by omega,UG hm,UQ];exact⟨λh=>(h.2 (by omega) h0).2 _ rfl,λh=>⟨⟨by omega,λh'=>absurd h' hl⟩,λ_ _=>⟨iQ,λy e=>by rw[<-e];exact h⟩⟩⟩
     rw[this];simp only[h0,iQ,GMw,HPw,Nat.reduceAdd,Nat.reduceLT,hw,cA,A4 hm,Au,AF,Cy]
    ·have:Dl L i x c=false:=by
      unfold Dl;rw[Wn];right;rw[decide_eq_false_iff_not];intro h;exact iQ (h (by omega) h0).1
     rw[this];simp only[h0,iQ,GMw,HPw,Nat.reduceAdd,Nat.reduceLT]
   ·have:Dl L i x c=false:=by
     unfold Dl;rw[Wn,Wn];left;left;rw[decide_eq_false_iff_not];omega
    rw[this];simp only[h0,GMw,HPw,Nat.reduceAdd,Nat.reduceLT]
theorem c05_loose (L:List Nd)(tk:Tok)(H:Aa)(hL:L.length<1152921504606846976):Sh.f2u (.sl (enL cNd L) tk) H=some (.ret (.bool (AV L)),H):=by
 unfold Sh.f2u;rw[show AV L=(List.range L.length).all (Gw L) from rfl];simp only[GMw,HPw,Nat.reduceAdd,Nat.reduceLT,Ay];have key:∀(d i:Nat) (G:Aa),i+d=L.length->(∀j,j<i->Gw L j=true)->∀n,d<n->Am (λrec1 vs H1=>Sh.f1h H rec1 (ag vs 0) (ag vs 1) (ag vs 2) (ag vs 3) H1) n [.sl (enL cNd L) tk,.sl (enL cNd L) tk,.i6 (L.length:Int),.i6 (i:Int)] (H++G)=some (.ret (.bool ((List.range L.length).all (Gw L))),H):=by
  intro d
  induction d with
  | zero=>
   intro i G hi aD n hn;obtain⟨n,rfl⟩:∃k,n=k+1:=⟨n-1,by omega⟩;have:(List.range L.length).all (Gw L)=true:=by
    rw[Vb];intro j hj;exact aD j (by have:=WM.1 hj;omega)
   rw[Ca,this];generalize Am (λrec1 vs H1=>Sh.f1h H rec1 (ag vs 0) (ag vs 1) (ag vs 2) (ag vs 3) H1) n=rec;unfold Sh.f1h;have aF:¬(i:Int)<(L.length:Int):=by omega
   simp only[GMw,HPw,Nat.reduceAdd,Nat.reduceLT,aF]
  | succ d ih=>
   intro i G hi aD n hn;obtain⟨n,rfl⟩:∃k,n=k+1:=⟨n-1,by omega⟩;have hlt:i<L.length:=by omega
   have aF:(i:Int)<(L.length:Int):=by omega
   rw[Ca];have bJ:Gw L i=false->(List.range L.length).all (Gw L)=false:=λh=>by rw[W6];exact⟨i,by simpa using hlt,by simp[h]⟩
   have pR:Gw L i=true->∀G',Am (λrec1 vs H1=>Sh.f1h H rec1 (ag vs 0) (ag vs 1) (ag vs 2) (ag vs 3) H1) n [.sl (enL cNd L) tk,.sl (enL cNd L) tk,.i6 (L.length:Int),.i6 ((i+1:Nat):Int)] (H++G')=some (.ret (.bool ((List.range L.length).all (Gw L))),H):=λh G'=>ih (i+1) G' (by omega) (λj hj=>by
    by_cases e:j=i
    ·rw[e];exact h
    ·exact aD j (by omega)) n (by omega)
   generalize Am (λrec1 vs H1=>Sh.f1h H rec1 (ag vs 0) (ag vs 1) (ag vs 2) (ag vs 3) H1) n=rec at pR;unfold Sh.f1h;have hg:L[i]? = some L[i]:=UG hlt;simp only[GMw,HPw,Nat.reduceAdd,Nat.reduceLT,Ai,aF,A4 hlt,Je,Cy,FT,Fq,FM];by_cases h1:L[i].lv<1
   ·have:Gw L i=false:=by simp only[Gw,hg];simp;intro;omega
    rw[bJ this];simp only[h1,GMw,HPw,Nat.reduceAdd,Nat.reduceLT]
   ·by_cases h2:L[i].lv>1329
    ·have:Gw L i=false:=by simp only[Gw,hg];simp;intro;omega
     rw[bJ this];simp only[h1,h2,GMw,HPw,Nat.reduceAdd,Nat.reduceLT,Cy,FT,Fq,FM]
    ·have hd:Gw L i=(List.range 4).all λk=>Dl L i L[i] (L[i].kid k):=by
      simp only[Gw,hg];rw[zXc (by omega)];rfl
     simp only[h1,h2,GMw,HPw,Nat.reduceAdd,Nat.reduceLT,Cy,FT,Fq,FM];have:=FL 4 (λk=>Dl L i L[i] (L[i].kid k)) (λk=>[.sl (enL cNd L) tk,.i6 (i:Int),.sl (enL cNd L) tk,.i6 (L.length:Int),.i6 (i:Int),.agg (Jf L[i]),.i6 (k:Int)]) (H++(G++[.cel 0 (cNd L[i])])) (rec [.sl (enL cNd L) tk,.sl (enL cNd L) tk,.i6 (L.length:Int),.i6 ((i+1:Nat):Int)] (H++(G++[.cel 0 (cNd L[i])]))) (some (.ret (.bool false),H)) (by decide) (λaA k hk=>?_) (λaA=>?_)
      (G:=λaA vs H1=>Sh.f4z H rec aA (ag vs 0) (ag vs 1) (ag vs 2) (ag vs 3) (ag vs 4) (ag vs 5) (ag vs 6) H1)
     ·refine this.trans ?_;rw[<-hd];cases hb:Gw L i with
      | true=>simp only[if_true];exact pR hb _
      | false=>simp only[UM,if_false];rw[bJ hb]
     ·have hk':(k:Int)<4:=by omega
      unfold Sh.f4z;simp only[GMw,HPw,Nat.reduceAdd,Nat.reduceLT,Ai,hk',ag_kid _ hk,c05_kid hlt (by omega) (by omega) (L[i].kid k) _ hL];cases Dl L i L[i] (L[i].kid k)with
      | true=>simp only[GMw,HPw,Nat.reduceAdd,Nat.reduceLT,As (show k<9223372036854775807 by omega),if_true]
      | false=>simp only[GMw,HPw,Nat.reduceAdd,Nat.reduceLT,UM,if_false]
     ·unfold Sh.f4z;simp only[GMw,HPw,Nat.reduceAdd,Nat.reduceLT,Ai,show ¬(((4:Nat):Int)<4) from by decide,As (show i<9223372036854775807 by omega)]
 have:=key L.length 0 [] (by omega) (λj hj=>by omega) AM (by rw[CQ];exact hL);rw[Vl]at this;exact this
def P4 (F:List Bool)(x:Nd)(k:Nat):Bool:=!decide (x.kid k=0)&&(decide (x.lv=1)||F.getD (x.kid k).toNat false)
def fulS (F:List Bool)(x:Nd):Bool:=(List.range 4).any (P4 F x)
theorem ful_emp {E:List Bool}{x:Nd}(h1:1<=x.lv)(hE:∀k,k<4->1<x.lv->(x.kid k).toNat<E.length):fulS (E.map (!·)) x = !O5 E x:=by
 unfold fulS O5;have each:∀k,k<4->P4 (E.map (!·)) x k = !(decide (x.kid k=0)||(decide (1<x.lv)&&E.getD (x.kid k).toNat true)):=by
  intro k hk;unfold P4;by_cases hl:x.lv=1
  ·have:¬1<x.lv:=by omega
   simp[hl]
  ·have cT:1<x.lv:=by omega
   have:=hE k hk cT;simp[hl,cT,UN,UG this]
 show ((P4 _ x 0||(P4 _ x 1||(P4 _ x 2||(P4 _ x 3||false))))) = !(_&&(_&&(_&&(_&&true))));rw[each 0 (by omega),each 1 (by omega),each 2 (by omega),each 3 (by omega)];simp only[Bool.not_and,Vp]
theorem c05_full1 {H:Aa}{pn po q m:Nat}{x:Nd}{F:List Bool}(hn:H[pn]? = some (.cel 0 (cNd x)))(ho:H[po]? = some (.cel 0 [.ms q 0 0 m m 1 true]))(hq:H[q]? = some (.cel 0 (flat cB F)))(hm:F.length=m){k:Nat}(hk:k<4)(h0:0<=x.kid k)(hb:x.lv≠1->x.kid k≠0->(x.kid k).toNat<m) :
  Sh.f51 (.i6 (x.kid k)) (.ptr pn 0 0) (.ptr po 0 0) H=some (.ret (.bool (P4 F x k)),H):=by
 have l1:=Sb hn;have l2:=BH (o:=0) (sz:=1) ho;unfold Sh.f51 P4;by_cases hc:x.kid k=0
 ·simp only[hc,GMw,HPw,Nat.reduceAdd,Nat.reduceLT]
 ·by_cases hl:x.lv=1
  ·simp only[hc,hl,l1,GMw,HPw,Nat.reduceAdd,Nat.reduceLT]
  ·have hlt:=hb hl hc;obtain⟨c,hcc⟩:∃c:Nat,x.kid k=(c:Int):=⟨(x.kid k).toNat,by omega⟩;rw[hcc,zXl]at hlt;have hi:=CS (sz:=1) (id:=q) (g:=0) (off:=0) (n:=m) (cap:=m) (ex:=true) (K:=.i64) hlt;have hld:=Ih (f:=cB) (l:=F) (A1 hq) (show c<F.length by omega);simp only[UJ,UW]at hi;rw[hcc]at hc ⊢;simp only[hc,hl,l1,l2,GMw,HPw,Nat.reduceAdd,Nat.reduceLT,hi,hld,zXl,UN,UG (show c<F.length by omega),Option.getD_some,zXh]
theorem c05_any {H:Aa}{pn po q m:Nat}{x:Nd}{F:List Bool}(hn:H[pn]? = some (.cel 0 (cNd x)))(ho:H[po]? = some (.cel 0 [.ms q 0 0 m m 1 true]))(hq:H[q]? = some (.cel 0 (flat cB F)))(hm:F.length=m)(h0:∀k,k<4->0<=x.kid k)(hb:∀k,k<4->x.lv≠1->x.kid k≠0->(x.kid k).toNat<m) :
  Sh.f54 (.ms pn 0 1 4 4 1 true) (.fn 238 [.ptr pn 0 0,.ptr po 0 0]) H=some (.ret (.bool (fulS F x)),H):=by
 unfold Sh.f54 Sh.f53;simp only[GMw,len_ms,show ((4:Nat):Int)=4 from rfl];have key:=N5 (G:=λrec1 vs H1=>Sh.f52 H rec1 (ag vs 0) (ag vs 1) (ag vs 2) (ag vs 3) H1) 4 (P4 F x) (λk=>[.ms pn 0 1 4 4 1 true,.fn 238 [.ptr pn 0 0,.ptr po 0 0],.i6 4,.i6 (k:Int)]) H (some (.ret (.i6 (-1)),H)) (λk=>some (.ret (.i6 (k:Int)),H)) (by decide) (λrec k hk=>?_) (λrec=>?_)
 ·rw[show (((0:Nat):Int))=0 from rfl]at key;rw[key];cases hf:(List.range 4).find? (P4 F x)with
  | none=>
   have:fulS F x=false:=by
    unfold fulS;rw[List.any_eq_false];intro k hk;exact WD.1 hf k hk
   simp only[GMw,this,show decide ((-1:Int)>=0)=false from by decide]
  | some k=>
   have:fulS F x=true:=by
    unfold fulS;rw[List.any_eq_true];exact⟨k,List.mem_of_find?_eq_some hf,List.find?_some hf⟩
   simp only[GMw,this,show decide ((k:Int)>=0)=true from by simp]
 ·have hk':(k:Int)<4:=by omega
  have hi:=CS (sz:=1) (id:=pn) (g:=0) (off:=1) (n:=4) (cap:=4) (ex:=true) (K:=.i64) hk;have hld:=Ug hn hk;have sA:=c05_full1 hn ho hq hm hk (h0 k hk) (hb k hk);simp only[UW]at hi;unfold Sh.f52 CG;simp only[GMw,Ai,hk',hi,hld,DK,ent,if_true,List.cons_append,List.nil_append,ap3,sA];cases P4 F x k with
  | true=>simp only[GMw,if_true]
  | false=>simp only[GMw,UM,if_false,As (show k<9223372036854775807 by omega)]
 ·unfold Sh.f52;simp only[GMw,Ai,show ¬(((4:Nat):Int)<4) from by decide]
theorem map_take_not (L:List Nd)(i:Nat)(hi:i<L.length):((AE (L.take i)).map (!·)++List.replicate (L.length-i) false).set (i+1) (!O5 (AE (L.take i)) L[i])=(AE (L.take (i+1))).map (!·)++List.replicate (L.length-(i+1)) false:=by
 have hl:((AE (L.take i)).map (!·)).length=i+1:=by rw[VJ,DF,UY];omega
 rw[Vt _ _ (by omega),hl,Vr,U5 L hi,Xu,show L.length-i=(L.length-(i+1))+1 by omega,zXm,List.set_cons_zero,UP]
 rfl
theorem c05_full (L:List Nd)(tk:Tok)(H:Aa)(hL:L.length<140737488355327)(hl:AV L=true):Sh.f2v (.sl (enL cNd L) tk) H=some (.ret (.sl (enL cB ((AE L).map (!·))) .no),H):=by
 have dA:=Fx (f:=cB) (a:=false) (n:=L.length+1) (bytes:=1) (H:=H) (by omega) (by omega);unfold Sh.f2v;simp only[Ay,GMw,HPw,Nat.reduceAdd,Nat.reduceLT,As (show L.length<9223372036854775807 by omega),dA];have key:=AZ (G:=λrec1 vs H1=>Sh.f7r H rec1 (ag vs 0) (ag vs 1) (ag vs 2) (ag vs 3) H1) (σ:=Nat×Aa) (λs=>s.1<=L.length)
  (λs=>[.ptr (H.length+1) 0 0,.sl (enL cNd L) tk,.i6 (L.length:Int),.i6 (s.1:Int)]) (λs=>H++(.cel 0 (flat cB ((AE (L.take s.1)).map (!·)++List.replicate (L.length-s.1) false))::.cel 0 [.ms H.length 0 0 (L.length+1) (L.length+1) 1 true]::s.2)) (λs=>L.length-s.1)
  (λ_=>some (.ret (.sl (enL cB ((AE L).map (!·))) .no),H)) (λs rec hs hrec=>?_) (0,[]) (Ve _) (by dsimp only;omega)
 ·rw[List.take_zero]at key;have e:(AE []).map (!·)++List.replicate (L.length-0) false=List.replicate (L.length+1) false:=by simp[AE,zXm]
  rw[e]at key;exact key
 ·obtain⟨i,G⟩:=s;dsimp only at hs hrec ⊢;unfold Sh.f7r;by_cases hi:i<L.length
  ·have aF:(i:Int)<(L.length:Int):=by omega
   obtain⟨l1,l2,l3⟩:=AW hl hi;have hElen:(AE (L.take i)).length=i+1:=by rw[DF,UY];omega
   have hFlen:((AE (L.take i)).map (!·)++List.replicate (L.length-i) false).length=L.length+1:=by rw[UO,VJ,hElen,WN];omega
   have pK:fulS ((AE (L.take i)).map (!·)++List.replicate (L.length-i) false) L[i] = !O5 (AE (L.take i)) L[i]:=by
    rw[<-ful_emp l1 (λk hk h1=>by
     obtain⟨q1,q2,q3⟩:=l3 k hk;rw[hElen];by_cases h0:0<L[i].kid k
     ·have:=(q3 h1 h0).1;omega
     ·omega)]
    unfold fulS P4
    congr 1
    funext k
    by_cases aT:L[i].lv=1
    ·simp[aT]
    ·by_cases hk:k<4
     ·obtain⟨q1,q2,q3⟩:=l3 k hk;have:(L[i].kid k).toNat<((AE (L.take i)).map (!·)).length:=by
       rw[VJ,hElen];by_cases h0:0<L[i].kid k
       ·have:=(q3 (by omega) h0).1;omega
       ·omega
      rw[UN,UL this,UN]
     ·have e3:L[i].kid k=L[i].kid 3:=by
       match k,hk with
       | 0,h=>exact absurd (by decide) h
       | 1,h=>exact absurd (by decide) h
       | 2,h=>exact absurd (by decide) h
       | n+3,_=>rfl
      obtain⟨q1,q2,q3⟩:=l3 3 (by decide);rw[e3];have:(L[i].kid 3).toNat<((AE (L.take i)).map (!·)).length:=by
       rw[VJ,hElen];by_cases h0:0<L[i].kid 3
       ·have:=(q3 (by omega) h0).1;omega
       ·omega
      rw[UN,UL this,UN]
   have xN:=map_take_not L i hi;generalize hF:(AE (L.take i)).map (!·)++List.replicate (L.length-i) false=F at *;have any:=c05_any (H:=H++(.cel 0 (flat cB F)::.cel 0 [.ms H.length 0 0 (L.length+1) (L.length+1) 1 true]::(G++[.cel 0 (cNd L[i])]))) (pn:=H.length+(G.length+1+1)) (po:=H.length+1) (q:=H.length) (m:=L.length+1) (x:=L[i]) (F:=F) (by simp) (by simp) (by simp) hFlen (λk hk=>(l3 k hk).1) (λk hk h1 h0=>by
    obtain⟨q1,q2,q3⟩:=l3 k hk;have:=(q3 (by omega) (by omega)).1;omega)
   have hsl:J8 4 1 (.ptr (H.length+(G.length+1+1)) 0 1) none none=some (.ms (H.length+(G.length+1+1)) 0 1 4 4 1 true):=by simp[J8,By]
   have dE:=CS (sz:=1) (id:=H.length) (g:=0) (off:=0) (n:=L.length+1) (cap:=L.length+1) (ex:=true) (K:=.i64) (i:=i+1) (by omega);simp only[UJ,UW]at dE;have hst:∀G' t,Ae 1 (.ptr H.length 0 (i+1)) (.bool t) (H++(.cel 0 (flat cB F)::G'))=some (H++(.cel 0 (flat cB (F.set (i+1) t))::G')):=λG' t=>by
    rw[I8,OP rfl (by rw[show flat cB F=F.map Ab.bool from by
     clear pK xN any hF hFlen
     induction F with
     | nil=>rfl
     | cons c l ih=>rw[D8,ih];rfl];simp;omega)]
    simp only[zXb]
    congr 3
    have e:∀l:List Bool,flat cB l=l.map Ab.bool:=λl=>by
     induction l with
     | nil=>rfl
     | cons c l ih=>rw[D8,ih];rfl
    rw[e,e,List.map_set]
   have next:=hrec (i+1,G++[.cel 0 (cNd L[i])]) hi (by dsimp only;omega)
   dsimp only at next
   rw[<-xN]at next
   simp only[GMw,HPw,Nat.reduceAdd,Nat.reduceLT,Cy,FT,Fq,FM,Ai,aF,A4 hi,Je,hsl,any,As (show i<9223372036854775807 by omega),dE,hst,pK];exact next
  ·have aF:¬(i:Int)<(L.length:Int):=by omega
   have:i=L.length:=by omega
   subst this;rw[Vs,Vr,List.replicate_zero,Vl];have mY:=fall_ms (f:=cB) (l:=(AE L).map (!·)) (H:=H++(.cel 0 (flat cB ((AE L).map (!·)))::.cel 0 [.ms H.length 0 0 (L.length+1) (L.length+1) 1 true]::G)) (id:=H.length) (b:=H.length) (d:=5) (cap:=L.length+1) (ex:=true) (by simp) (UK _);rw[VJ,DF]at mY;simp only[GMw,HPw,Nat.reduceAdd,Nat.reduceLT,Ai,aF,mY]
theorem ful_get (L:List Nd){n:Nat}(hn:n<L.length+1):((AE L).map (!·)).getD n false = !(AE L).getD n true:=by
 have h:n<(AE L).length:=by rw[DF];exact hn
 rw[UN,UN,Vk,UG h];rfl
theorem ful_idx (L:List Nd){n:Nat}(hn:n<L.length+1)(H:Aa)(K:IntKind):∃e,Aw 1 (.sl (enL cB ((AE L).map (!·))) .no) (.int K (n:Int))=some e/\Ad false 1 e H=some (.bool (!(AE L).getD n true)):=by
 have h:n<((AE L).map (!·)).length:=by rw[VJ,DF];exact hn
 refine⟨_,A4 h,?_⟩;have e:=ful_get L hn;rw[UN,UG h]at e;simp only[AF,zXh];rw[<-e];rfl
theorem UA (L:List Nd)(tk:Tok)(n:Nat)(H:Aa)(hL:L.length<140737488355327)(hl:AV L=true)(hn:n<=L.length):Sh.f55 (.sl (enL cNd L) tk) (.i6 (n:Int)) H=some (.ret (.bool ((AE L).getD n true)),H):=by
 obtain⟨e,h1,h2⟩:=ful_idx L (n:=n) (by omega) H .i64;unfold Sh.f55;simp only[GMw,HPw,Nat.reduceAdd,Nat.reduceLT,c05_full L tk H hL hl,h1,h2,Bool.not_not]
theorem c05_hollow (L:List Nd)(tk:Tok)(n:Nat)(H:Aa)(hL:L.length<140737488355327)(hl:AV L=true)(hn:n<=L.length):Sh.f58 (.sl (enL cNd L) tk) (.i6 (n:Int)) H=some (.ret (.bool (F0 L n)),H):=by
 unfold Sh.f58 F0;cases n with
 | zero=>simp only[GMw,HPw,Nat.reduceAdd,Nat.reduceLT,show ((0:Nat):Int)=0 from rfl,ne_eq,not_true_eq_false]
 | succ n=>
  have hi:n<L.length:=hn;have e0:¬((n+1:Nat):Int)=0:=by omega
  obtain⟨l1,l2,l3⟩:=AW hl hi;rw[Fw rfl hi];generalize hx:L[n]=x at l1 l2 l3;have hw:IntKind.i64.wrap (((n+1:Nat):Int)-1)=(n:Int):=by rw[Ao] <;> omega
  simp only[GMw,HPw,Nat.reduceAdd,Nat.reduceLT,Cy,FT,Fq,FM,e0,hw,A4 hi,hx,Au,AF];by_cases h2:x.lv=1
  ·have:¬2<=x.lv:=by omega
   simp only[h2,GMw,HPw,Nat.reduceAdd,Nat.reduceLT,show ¬(2:Int)<=1 from by decide]
  ·have kO:2<=x.lv:=by omega
   simp only[h2,kO,GMw,HPw,Nat.reduceAdd,Nat.reduceLT,c05_full L tk H hL hl,hw,A4 hi,hx,Au,ld_kids,ne_eq,Wv,not_false_eq_true];have key:=FL (G:=λrec1 vs H1=>Sh.f57 H rec1 (ag vs 0) (ag vs 1) (ag vs 2) (ag vs 3) H1) 4 (λk=>decide (x.kid k=0)||(List.range 4).all (So L (AE L) x k))
    (λk=>[.sl (enL cNd L) tk,.sl (enL cB ((AE L).map (!·))) .no,.agg (Jf x),.i6 (k:Int)]) H (some (.ret (.bool true),H)) (some (.ret (.bool false),H)) (by decide) (λrec k hk=>?_) (λrec=>?_)
   ·refine key.trans ?_;rw[show hol L (AE L) x=(List.range 4).all λk=>decide (x.kid k=0)||(List.range 4).all (So L (AE L) x k) from rfl];cases (List.range 4).all λk=>decide (x.kid k=0)||(List.range 4).all (So L (AE L) x k) <;> rfl
   ·have hk':(k:Int)<4:=by omega
    obtain⟨q1,q2,q3⟩:=l3 k hk;have aM:IntKind.i64.wrap ((k:Int)+1)=((k+1:Nat):Int):=As (by omega);unfold Sh.f57;simp only[GMw,Ai,hk',ag_kid _ hk];by_cases hc:x.kid k=0
    ·simp only[hc,GMw,aM,if_true]
    ·obtain⟨m,hm⟩:∃m:Nat,x.kid k=((m+1:Nat):Int):=⟨(x.kid k-1).toNat,by omega⟩;have h1:1<x.lv:=by omega
     obtain⟨r1,r2⟩:=q3 h1 (by omega);have hml:m<L.length:=by omega
     have hy:=r2 L[m] (by rw[show (x.kid k-1).toNat=m from by omega];exact UG hml);obtain⟨y1,y2,y3⟩:=AW hl hml;have hp:So L (AE L) x k=λj=>decide (j=3-k)||(if x.lv=2 then decide (L[m].kid j=0)else (AE L).getD (L[m].kid j).toNat true):=by
      funext j;unfold So;rw[Fw hm hml]
     have cP:IntKind.i64.wrap (((m+1:Nat):Int)-1)=(m:Int):=by rw[Ao] <;> omega
     have bX:¬((m+1:Nat):Int)=0:=by omega
     rw[hm];simp only[hp,bX,GMw,cP,A4 hml,Au,UJ,ld_kids];refine FL (G:=λaA vs H1=>Sh.f56 H rec aA (ag vs 0) (ag vs 1) (ag vs 2) (ag vs 3) (ag vs 4) (ag vs 5) (ag vs 6) (ag vs 7) H1) 4 _
      (λj=>[.sl (enL cNd L) tk,.sl (enL cB ((AE L).map (!·))) .no,.i6 (k:Int),.i6 ((m+1:Nat):Int),.agg (Jf x),.i6 (k:Int),.agg (Jf L[m]),.i6 (j:Int)]) H _ _ (by decide) (λaA j hj=>?_) (λaA=>?_)
     ·have hj':(j:Int)<4:=by omega
      have jM:IntKind.i64.wrap (3-(k:Int))=3-(k:Int):=Ao (by omega) (by omega);have rM:IntKind.i64.wrap ((j:Int)+1)=((j+1:Nat):Int):=As (by omega);have zT:decide ((j:Int)=3-(k:Int))=decide (j=3-k):=by rw[Va];simp only[zXe];omega
      unfold Sh.f56;simp only[GMw,Ai,hj',ag_kid _ hj,jM,zT];by_cases rO:j=3-k
      ·simp only[rO,GMw,if_true];simp only[<-rO,rM]
      ·by_cases hg:L[m].kid j=0
       ·have:(if x.lv=2 then decide (L[m].kid j=0)else (AE L).getD (L[m].kid j).toNat true)=true:=by
         split
         ·simp[hg]
         ·rw[hg];exact HL L
        simp only[rO,this,GMw,if_true];simp only[hg,rM,GMw]
       ·by_cases cT:L[m].lv=1
        ·have h22:x.lv=2:=by omega
         simp only[rO,h22,GMw,hg,cP,A4 hml,Au,AF,UJ,Cy,cT,UM,if_true,if_false]
        ·have h22:¬x.lv=2:=by omega
         obtain⟨s1,s2,s3⟩:=y3 j hj;have hlt:=(s3 (by omega) (by omega)).1;obtain⟨g,lZ⟩:∃g:Nat,L[m].kid j=(g:Int):=⟨(L[m].kid j).toNat,by omega⟩;obtain⟨e,f1,f2⟩:=ful_idx L (n:=g) (by omega) H .i64;rw[lZ]at hg;simp only[rO,h22,GMw,lZ,hg,cP,A4 hml,Au,AF,UJ,Cy,cT,if_false,f1,f2,zXl];cases (AE L).getD g true with
         | true=>simp only[GMw,if_true,rM]
         | false=>simp only[GMw,UM,if_false]
     ·unfold Sh.f56;simp only[GMw,Ai,show ¬(((4:Nat):Int)<4) from by decide,aM]
   ·unfold Sh.f57;simp only[GMw,Ai,show ¬(((4:Nat):Int)<4) from by decide]
theorem c06_inner (L:List Nd)(tk:Tok)(n k:Nat)(H:Aa)(hL:L.length<140737488355327)(hl:AV L=true)(hn:n<L.length)(h2:2<=L[n].lv)(hk:k<4) :
  Sh.f59 (.sl (enL cNd L) tk) (.i6 ((n+1:Nat):Int)) (.i6 (k:Int)) H=some (.ret (.i6 (JF L L[n] k)),H):=by
 obtain⟨l1,l2,l3⟩:=AW hl hn;obtain⟨q1,q2,q3⟩:=l3 k hk;have hw:IntKind.i64.wrap (((n+1:Nat):Int)-1)=(n:Int):=by rw[Ao] <;> omega
 unfold Sh.f59 JF;simp only[GMw,hw,A4 hn,Au,ER hk,AF,UJ,UW,Ez hk];by_cases hc:L[n].kid k=0
 ·simp only[hc,GMw,show ¬((0:Int)>0) from by decide,if_true]
 ·obtain⟨m,hm⟩:∃m:Nat,L[n].kid k=((m+1:Nat):Int):=⟨(L[n].kid k-1).toNat,by omega⟩;obtain⟨r1,r2⟩:=q3 (by omega) (by omega);have hml:m<L.length:=by omega
  have cP:IntKind.i64.wrap (((m+1:Nat):Int)-1)=(m:Int):=by rw[Ao] <;> omega
  have jM:IntKind.i64.wrap (3-(k:Int))=((3-k:Nat):Int):=by rw[Ao] <;> omega
  have hgt:((m+1:Nat):Int)>0:=by omega
  have bX:¬((m+1:Nat):Int)=0:=by omega
  simp only[Fw (c:=((m+1:Nat):Int)) rfl hml,hm,hgt,bX,GMw,cP,jM,A4 hml,Au,UJ,ER (show 3-k<4 by omega),AF,UW,Ez (show 3-k<4 by omega),if_false]
theorem c_clone (L:List Nd)(tk:Tok)(H:Aa)(hL:L.length<3518437208883):Sh.f50 (.sl (enL cNd L) tk) H=some (if L=[]then (.ret (.sl [] .ti),H)else (.ret (.sl (enL cNd L) (.own H.length)),H++[.tok L.length AK 5])):=by
 have hb:AL 5 []=some (.sl (enL cNd []) .ti):=rfl;unfold Sh.f50;cases L with
 | nil=>
  have ha:AP AK 5 40 (.sl (enL cNd []) .ti) (.sl (enL cNd []) tk) H=some (.sl (enL cNd []) .ti,H):=Ed (by simp[Cw,enL]);have hn:Qz .eql (.sl (enL cNd []) tk)=some .ubool:=rfl;have hu:∀x:Out,Ak .ubool x x=x:=λx=>if_pos rfl;simp only[hn,GMw,hb,ha];exact hu _
 | cons x l=>
  have ha:AP AK 5 40 (.sl (enL cNd []) .ti) (.sl (enL cNd (x::l)) tk) H=some (.sl (enL cNd (x::l)) (.own H.length),H++[.tok (x::l).length AK 5]):=by
   have:=CX (f:=cNd) (l:=[]) (m:=x::l) (ty:=AK) (bytes:=40) (tk:=tk) (H:=H) (by simp) (by simp only[zXk];omega) (by simp only[zXk];omega);simpa using this
  have hn:Qz .eql (.sl (enL cNd (x::l)) tk)=some (.bool false):=rfl;simp only[hn,GMw,hb,ha,reduceCtorEq,if_false]
theorem c06_shrink (L:List Nd)(tk:Tok)(n:Nat)(H:Aa)(hL:L.length<3518437200000)(hl:AV L=true)(hn:n<=L.length) :
  Sh.f2w (.sl (enL cNd L) tk) (.i6 (n:Int)) H=some (.ret (.tup [.sl (enL cNd (El L n).1) .no,.i6 ((El L n).2:Int)]),H):=by
 unfold Sh.f2w;rw[c_clone L tk H (by omega)];by_cases h0:L=[]
 ·subst h0;have eB:n=0:=by simpa using hn
  subst eB;have he:=UA [] .ti 0 H (by simp) hl (UK _);have mA:(AE ([]:List Nd)).getD 0 true=true:=rfl;have hs:El [] 0=([],0):=rfl;rw[show Ab.sl (enL cNd []) .ti=Ab.sl [] .ti from rfl,mA]at he;rw[hs];have:=LN (H0:=H) (v:=.tup [.sl [] .ti,.i6 0]);simp only[GMw,HPw,Nat.reduceAdd,Nat.reduceLT,if_true,he,this]
  rfl
 ·simp only[GMw,h0,if_false,UA L _ n _ (show L.length<140737488355327 by omega) hl hn];unfold El;cases sC:(AE L).getD n true with
  | true=>simp only[GMw,HPw,Nat.reduceAdd,Nat.reduceLT,if_true];rfl
  | false=>
   simp only[GMw,HPw,Nat.reduceAdd,Nat.reduceLT,UM,if_false];have aT:(Bf L n).lv<=1329:=by
    cases n with
    | zero=>exfalso;rw[HL]at sC;cases sC
    | succ m=>rw[BD hn];exact (AW hl hn).2.1
   have key:=AZ (G:=λrec1 vs H1=>Sh.f7s H rec1 (ag vs 0) (ag vs 1) H1) (σ:=List Nd×Nat×Aa) (λs=>AV s.1=true/\s.2.1<=s.1.length/\s.1.length+(Bf s.1 s.2.1).lv.toNat<3518437208883/\s.1.length+(Bf s.1 s.2.1).lv.toNat<3518437208883)
    (λs=>[.sl (enL cNd s.1) (.own H.length),.i6 (s.2.1:Int)]) (λs=>H++.tok s.1.length AK 5::s.2.2) (λs=>(Bf s.1 s.2.1).lv.toNat)
    (λs=>some (.ret (.tup [.sl (enL cNd (CU (Bf s.1 s.2.1).lv.toNat s.1 s.2.1).1) .no,.i6 ((CU (Bf s.1 s.2.1).lv.toNat s.1 s.2.1).2:Int)]),H)) (λs rec hs hrec=>?_) (L,n,[]) ⟨hl,hn,by dsimp only;omega,by dsimp only;omega⟩ (by dsimp only;omega)
   ·exact key
   ·obtain⟨M,i,G⟩:=s;obtain⟨hs1,lK,qE,uH⟩:=hs;simp only at hs1 lK qE uH hrec ⊢;unfold Sh.f7s;simp only[GMw,Ai,c05_hollow M _ i _ (show M.length<140737488355327 by omega) hs1 lK];cases hh:F0 M i with
    | false=>
     have:CU (Bf M i).lv.toNat M i=(M,i):=by
      cases (Bf M i).lv.toNat with
      | zero=>rfl
      | succ f=>simp[CU,hh]
     simp only[GMw,HPw,Nat.reduceAdd,Nat.reduceLT,this]
    | true=>
     obtain⟨jJ,gV⟩:=Pk hh;obtain⟨m,rfl⟩:∃m,i=m+1:=⟨i-1,by omega⟩;have hm:m<M.length:=lK;obtain⟨l1,l2,l3⟩:=AW hs1 hm;have hx:Bf M ((m+1:Nat):Int)=M[m]:=BD hm;rw[hx]at gV qE hrec ⊢;have cP:IntKind.i64.wrap (((m+1:Nat):Int)-1)=(m:Int):=by rw[Ao] <;> omega
     have mK:IntKind.i64.wrap (M[m].lv-1)=M[m].lv-1:=Ao (by omega) (by omega);have jO:CU M[m].lv.toNat M (m+1)=CU (M[m].lv-1).toNat (M++[FN M (m+1)]) (M.length+1):=by
      rw[show M[m].lv.toNat=(M[m].lv-1).toNat+1 from by omega];simp only[CU,hh,if_true]
     generalize hB:H++.tok M.length AK 5::G=B;simp only[GMw,Au,Ah,AF,UJ,Nat.add_zero,UW,Cy,cP,A4 hm,mK,SK,OK,J5 (Ap (B:=B) (cs:=cNd nd0)) rfl,Ba];refine Cj (G:=λaA vs H1=>Sh.f5a H rec aA (ag vs 0) (ag vs 1) (ag vs 2) (ag vs 3) H1) 4 (λk=>[.sl (enL cNd M) (.own H.length),.i6 ((m+1:Nat):Int),.ptr B.length 0 0,.i6 (k:Int)]) (λk=>B++[.cel 0 (cNd (TL (JF M M[m]) ⟨M[m].lv-1,0,0,0,0⟩ k))]) _ (by decide) (λaA k hk=>?_) (λaA=>?_)
     ·have hk':(k:Int)<4:=by omega
      unfold Sh.f5a;have oI:=c06_inner M (.own H.length) m k (B++[.cel 0 (cNd (TL (JF M M[m]) ⟨M[m].lv-1,0,0,0,0⟩ k))]) (by omega) hs1 hm gV hk;simp only[GMw,Ai,hk',oI,Ah,UJ,HI hk,EW (Ap (B:=B)) hk,Ba,As (show k<9223372036854775807 by omega)]
      rfl
     ·have hf:¬(((4:Nat):Int)<4):=by decide
      have oN:(⟨M[m].lv-1,JF M M[m] 0,JF M M[m] 1,JF M M[m] 2,JF M M[m] 3⟩:Nd)=FN M (m+1):=by unfold FN;rw[hx]
      unfold Sh.f5a;rw[TK];simp only[GMw,Ai,hf,HG (Ap (B:=B)),Kb];rw[<-hB,UP,List.cons_append,UC (by omega)];simp only[GMw,Ay,UO,zXi,oN];have eH:(Bf (M++[FN M (m+1)]) ((M.length+1:Nat):Int)).lv=M[m].lv-1:=by
       rw[BD (by simp),show (M++[FN M (m+1)])[M.length]'(by simp)=FN M (m+1) from by simp];show (Bf M ((m+1:Nat):Int)).lv-1=_;rw[hx]
      have:=hrec (M++[FN M (m+1)],M.length+1,G++[.cel 0 (cNd (FN M (m+1)))]) ⟨Pj hs1 hm gV,by simp,by dsimp only;rw[eH];simp;omega,by dsimp only;rw[eH];simp;omega⟩ (by dsimp only;rw[eH];omega);simp only[UO,zXi]at this;rw[this,eH,jO]
section
variable {α β:Type}{f:α->List Ab}{g:β->List Ab}{ty ty2:TypeId}{sz sz2:Nat}
structure Grown (v v':Ab)(H H':Aa):Prop where
 len:H.length<=H'.length
 keep:∀i,i<H.length->(∀es,v≠.sl es (.own i))->H'[i]? = H[i]?
 own:∀i es,v'=.sl es (.own i)->H.length<=i\/∃es',v=.sl es' (.own i)
theorem RS.snoc2 [hf:Sz f sz]{bytes b:Nat}{out:List α}{v:Ab}{H:Aa}(h:RS f ty sz b out v H)(hb:b<=H.length)(x:α)(tk:Tok)(hl:(out.length+1)*bytes<=140737488355328)(gW:out.length+1<=140737488355328) :
  ∃v' H',AP ty sz bytes v (.sl (enL f [x]) tk) H=some (v',H')/\RS f ty sz b (out++[x]) v' H'/\Kp b H H'/\Grown v v' H H':=by
 rcases h with ⟨rfl,rfl⟩ | ⟨t,h1,rfl,h3⟩
 ·have:=CX (f:=f) (l:=[]) (m:=[x]) (ty:=ty) (bytes:=bytes) (tk:=tk) (H:=H) (by simp) (by simpa using hl) (by simp);refine⟨_,_,this,.inr ⟨H.length,hb,rfl,by simp⟩,Kp.app hb _,by simp,λi hi _=>UL hi,λi es e=>?_⟩;injection e with _ e;injection e with e;exact .inl (by omega)
 ·have:=Fs (f:=f) (l:=out) (m:=[x]) (ty:=ty) (bytes:=bytes) (tk:=tk) (H:=H) (t:=t) (by simp) h3 (by simpa using hl) (by simpa using gW);have iT:=(UH.1 h3).1;refine⟨_,_,this,.inr ⟨t,h1,rfl,by simp[iT]⟩,⟨by simp,λi cs hc=>?_,λi hi=>?_⟩,by simp,λi hi hne=>?_,λi es e=>?_⟩
  ·have:t≠i:=λe=>by rw[<-e,h3]at hc;cases hc
   rw[UI this];exact hc
  ·rw[UI (by omega)]
  ·have:t≠i:=λe=>hne _ (by rw[e]);rw[UI this]
  ·injection e with _ e;injection e with e;exact .inr ⟨_,by rw[e]⟩
theorem RS.notok {b i:Nat}{out:List α}{v:Ab}{H:Aa}{B:Blk}(h:RS f ty sz b out v H)(hB:H[i]? = some B)(hn:∀n e s,B≠.tok n e s):∀es,v≠.sl es (.own i):=by
 intro es e;rcases h with ⟨_,k1⟩ | ⟨t,_,k1,k2⟩
 ·rw[k1]at e;injection e with _ e;cases e
 ·rw[k1]at e;injection e with _ e;injection e with e
  rw[e,hB]at k2;injection k2 with k2
  exact hn _ _ _ k2
theorem RS.setB {b i:Nat}{out:List α}{v:Ab}{H:Aa}{B B':Blk}(h:RS f ty sz b out v H)(hB:H[i]? = some B)(hn:∀n e s,B≠.tok n e s):RS f ty sz b out v (H.set i B'):=by
 have hne:=h.notok hB hn;rcases h with h1 | ⟨t,h1,h2,h3⟩
 ·exact .inl h1
 ·refine .inr ⟨t,h1,h2,?_⟩;have:i≠t:=λe=>hne _ (by rw[h2,e]);rw[UI this];exact h3
theorem RS.one {b:Nat}{out:List α}{v:Ab}{H:Aa}(h:RS f ty sz b out v H):v.isScal=true:=by
 obtain⟨tk,rfl⟩:=h.sl;rfl
theorem RS.len {b:Nat}{out:List α}{v:Ab}{H:Aa}(h:RS f ty sz b out v H):A7 v=some (.i6 (out.length:Int)):=by
 obtain⟨tk,rfl⟩:=h.sl;exact Ay
end
theorem nodup_le:∀(N:Nat) (l:List Nat),l.Nodup->(∀x∈l,x<N)->l.length<=N:=by
 intro N
 induction N with
 | zero=>
  intro l _ h;cases l with
  | nil=>simp
  | cons a l=>have:=h a (by simp);omega
 | succ N ih=>
  intro l hn h;by_cases hN:N∈l
  ·have h1:=List.length_erase_of_mem hN;have h2:=ih (l.erase N) (hn.erase N) (λx hx=>by
    rw[hn.mem_erase_iff]at hx;have:=h x hx.2;omega)
   have:=List.length_pos_of_mem hN;omega
  ·have:=ih l hn (λx hx=>by
    have:=h x hx;have:x≠N:=λe=>hN (e ▸ hx);omega)
   omega
def knF:Nat->List Nd->List (Ab×Ab)
 | _,[]=>[]
 | s,x::l=>(.agg (cNd x),.i6 ((s+1:Nat):Int))::knF (s+1) l
theorem Sx (a:Nd)(l:List Nd)(y:Nd):CH (a::l) y=if a=y then 1 else if CH l y=0 then 0 else CH l y+1:=by
 by_cases h:a=y
 ·rw[if_pos h,Hk];exact⟨by simp[h],λj hj=>by omega⟩
 ·rw[if_neg h];cases hf:CH l y with
  | zero=>
   rw[if_pos rfl,K0];rw[K0]at hf;intro hm;rcases VC.1 hm with e | e
   ·exact h e.symm
   ·exact hf e
  | succ i=>
   rw[if_neg (by omega),Hk];rw[Hk]at hf;refine⟨by simpa using hf.1,λj hj=>?_⟩;cases j with
   | zero=>simpa using h
   | succ j=>simpa using hf.2 j (by omega)
theorem key_nd (y:Nd):DY true 5 (.agg (cNd y))=some (cNd y):=(rfl)
theorem Ue (y:Nd):∀(l:List Nd) (s:Nat),EQ true 5 (knF s l) (cNd y)=some (if CH l y=0 then none else some (.i6 ((s+CH l y:Nat):Int)))
 | [],s=>by
  have:CH [] y=0:=by rw[K0];simp
  simp[knF,EQ,this]
 | a::l,s=>by
  have ih:=Ue y l (s+1);simp only[knF,EQ,key_nd,BL,OB];rw[Sx];by_cases h:a=y
  ·subst h;simp
  ·have h':¬y=a:=λe=>h e.symm;rw[zXd h',if_neg h];simp only[UM,if_false,ih];by_cases h0:CH l y=0
   ·simp[h0]
   ·rw[if_neg h0,if_neg (by rw[if_neg h0];omega),if_neg h0]
    congr 3;omega
theorem T8 (y:Nd):∀(l:List Nd) (s:Nat),CH l y=0->DA true 5 (knF s l) (.agg (cNd y)) (cNd y) (.i6 ((s+l.length+1:Nat):Int))=some (knF s (l++[y]))
 | [],s,_=>rfl
 | a::l,s,h=>by
  rw[Sx]at h;by_cases ha:a=y
  ·rw[if_pos ha]at h;omega
  ·rw[if_neg ha]at h;have h0:CH l y=0:=by
    by_cases h0:CH l y=0
    ·exact h0
    ·rw[if_neg h0]at h;omega
   have h':¬y=a:=λe=>ha e.symm;have ih:=T8 y l (s+1) h0;simp only[knF,DA,key_nd,BL,OB,List.cons_append];rw[zXd h'];simp only[UM,if_false];rw[zXj,show s+(l.length+1)+1=s+1+l.length+1 by omega,ih]
   rfl
def dnM (D:List (Nat×Nat)):List (Ab×Ab):=D.map λp=>(.i6 (p.1:Int),.i6 (p.2:Int))
def lkD (D:List (Nat×Nat))(n:Nat):Option Nat:=match D with
 | []=>none
 | p::r=>if p.1=n then some p.2 else lkD r n
theorem lkD_mem {n m:Nat}:∀ {D:List (Nat×Nat)},lkD D n=some m->(n,m)∈D
 | [],h=>by cases h
 | p::r,h=>by
  unfold lkD at h;by_cases hp:p.1=n
  ·rw[if_pos hp]at h;injection h with h;subst hp;subst h;exact List.mem_cons_self
  ·rw[if_neg hp]at h;exact List.mem_cons_of_mem _ (lkD_mem h)
theorem lkD_none {n:Nat}:∀ {D:List (Nat×Nat)},lkD D n=none->n ∉ D.map (·.1)
 | [],h=>by simp
 | p::r,h=>by
  unfold lkD at h;by_cases hp:p.1=n
  ·rw[if_pos hp]at h;cases h
  ·rw[if_neg hp]at h;have:=lkD_none h;simp only[Wl,VC,not_or];exact⟨λe=>hp e.symm,this⟩
theorem lkD_app {n:Nat}{p:Nat×Nat}:∀ {D:List (Nat×Nat)},lkD (D++[p]) n=(match lkD D n with | some m=>some m | none=>if p.1=n then some p.2 else none)
 | []=>by simp[lkD]
 | q::r=>by
  have ih:=lkD_app (n:=n) (p:=p) (D:=r);simp only[List.cons_append,lkD];by_cases hq:q.1=n
  ·simp only[if_pos hq]
  ·simp only[if_neg hq,ih]
theorem nat_cell (a b:Nat):BY [.i6 (a:Int)] [.i6 (b:Int)]=some (decide (a=b)):=by
 simp only[BY,Hp,if_true,BL]
 congr 1
 rw[Va];simp;omega
theorem QQ (a:Int):DY false 1 (.i6 a)=some [.i6 a]:=(rfl)
theorem Uf (n:Nat):∀D:List (Nat×Nat),EQ false 1 (dnM D) [.i6 (n:Int)]=some ((lkD D n).map λm=>Ab.i6 (m:Int))
 | []=>rfl
 | p::r=>by
  have ih:=Uf n r;simp only[dnM,Wl,EQ,QQ,BL,nat_cell,lkD];by_cases hp:p.1=n
  ·subst hp;simp
  ·have:¬n=p.1:=λe=>hp e.symm;rw[zXd this,if_neg hp];simpa[dnM]using ih
theorem T9 (n m:Nat):∀D:List (Nat×Nat),lkD D n=none->DA false 1 (dnM D) (.i6 (n:Int)) [.i6 (n:Int)] (.i6 (m:Int))=some (dnM (D++[(n,m)]))
 | [],_=>rfl
 | p::r,h=>by
  unfold lkD at h;by_cases hp:p.1=n
  ·rw[if_pos hp]at h;cases h
  ·rw[if_neg hp]at h;have ih:=T9 n m r h;have:¬n=p.1:=λe=>hp e.symm;simp only[dnM,Wl,DA,QQ,BL,nat_cell,List.cons_append]at ih ⊢;rw[zXd this];simp only[UM,if_false,ih]
   rfl
theorem lookA_dn {H:Aa}{id:Nat}{D:List (Nat×Nat)}(h:H[id]? = some (.map (dnM D)))(n:Nat):Fz false 1 (some (.i6 0)) true (.mp id) (.i6 (n:Int)) H=some (match lkD D n with | some m=>.tup [.i6 (m:Int),.bool true] | none=>.tup [.i6 0,.bool false]):=by
 unfold Fz;simp only[BL,QQ,h,Uf,zXb];cases lkD D n <;> rfl
theorem updA_dn {H:Aa}{id:Nat}{D:List (Nat×Nat)}(h:H[id]? = some (.map (dnM D))){n:Nat}(m:Nat)(hn:lkD D n=none):Ej false 1 (.mp id) (.i6 (n:Int)) (.i6 (m:Int)) H=some (H.set id (.map (dnM (D++[(n,m)])))):=by
 unfold Ej;simp only[BL,QQ,h,T9 n m D hn,zXb]
theorem lookA_kn {H:Aa}{id:Nat}{out:List Nd}(h:H[id]? = some (.map (knF 0 out)))(y:Nd):Fz true 5 (some (.i6 0)) true (.mp id) (.agg (cNd y)) H=some (if CH out y=0 then .tup [.i6 0,.bool false]else .tup [.i6 (CH out y:Int),.bool true]):=by
 unfold Fz;simp only[BL,key_nd,h,Ue,zXb,UJ];by_cases h0:CH out y=0 <;> simp[h0]
theorem updA_kn {H:Aa}{id:Nat}{out:List Nd}(h:H[id]? = some (.map (knF 0 out))){y:Nd}(hn:CH out y=0):Ej true 5 (.mp id) (.agg (cNd y)) (.i6 ((out.length+1:Nat):Int)) H=some (H.set id (.map (knF 0 (out++[y])))):=by
 have:=T8 y out 0 hn;rw[UJ]at this;unfold Ej;simp only[BL,key_nd,h,this,zXb]
def Kq (y:Nd):Bool:=decide (y.k0=0)&&(decide (y.k1=0)&&(decide (y.k2=0)&&decide (y.k3=0)))
theorem eq_kids (y:Nd):Af (.flat 4) .eql (.agg (Jf y)) (.agg [.i6 0,.i6 0,.i6 0,.i6 0])=some (.bool (Kq y)):=by
 show (eqA (.flat 4) (.agg (Jf y)) (.agg [.i6 0,.i6 0,.i6 0,.i6 0])).map Ab.bool=_;have h:eqA (.flat 4) (.agg (Jf y)) (.agg [.i6 0,.i6 0,.i6 0,.i6 0])=some (Kq y):=by
  unfold eqA;simp only[];rw[if_pos (show (Jf y).length=4 from rfl)];simp only[Jf,BY,Hp,if_true,BL,Bool.and_true,GL]
  rfl
 rw[h];rfl
def Ik (out:List Nd)(y:Nd):List Nd×Nat:=if Kq y then (out,0)else D0 out y
structure AR (b ar km:Nat)(out:List Nd)(v:Ab)(H:Aa):Prop where
 cell:H[ar]? = some (.cel 0 [v,.mp km])
 row:RS cNd AK 5 b out v H
 known:H[km]? = some (.map (knF 0 out))
structure AX (b ar km:Nat)(H H':Aa):Prop where
 len:H.length<=H'.length
 cel:∀(i:Nat) (cs:List Ab),i≠ar->H[i]? = some (.cel 0 cs)->H'[i]? = some (.cel 0 cs)
 map:∀(i:Nat) (es:List (Ab×Ab)),i≠km->H[i]? = some (.map es)->H'[i]? = some (.map es)
 old:∀i,i<b->H'[i]? = H[i]?
theorem AX.trans {b ar km:Nat}{H H1 H2:Aa}(h:AX b ar km H H1)(k:AX b ar km H1 H2):AX b ar km H H2:=
 ⟨Vf h.len k.len,λi cs hi hc=>k.cel i cs hi (h.cel i cs hi hc),λi es hi hc=>k.map i es hi (h.map i es hi hc),λi hi=>(k.old i hi).trans (h.old i hi)⟩
theorem AX.push {b ar km:Nat}{H:Aa}(hb:b<=H.length)(G:Aa):AX b ar km H (H++G):=
 ⟨by simp,λi cs _ h=>A0 h,λi es _ h=>A0 h,λi hi=>UL (by omega)⟩
theorem AR.push {b ar km:Nat}{out:List Nd}{v:Ab}{H:Aa}(h:AR b ar km out v H)(G:Aa):AR b ar km out v (H++G):=
 ⟨A0 h.cell,h.row.left G,A0 h.known⟩
theorem c06_intern {b ar km:Nat}{out:List Nd}{v:Ab}{H:Aa}(h:AR b ar km out v H)(hba:b<=ar)(dC:b<=km)(hb:b<=H.length)(y:Nd)(ho:out.length<3000000000000) :
  ∃v' H',Sh.f2x (.ptr ar 0 0) (.agg (cNd y)) H=some (.ret (.i6 ((Ik out y).2:Int)),H')/\AR b ar km (Ik out y).1 v' H'/\AX b ar km H H':=by
 have hB:b<=(H++[Blk.cel 0 (cNd y)]).length:=by simp;omega
 have h1:=h.push [.cel 0 (cNd y)];have e1:AX b ar km H (H++[.cel 0 (cNd y)]):=AX.push hb _;have gG:Az (some [(.i6 0),(.i6 0),(.i6 0),(.i6 0)]) []=some (.agg [.i6 0,.i6 0,.i6 0,.i6 0]):=rfl;unfold Sh.f2x Ik;have l0:=BH (o:=0) (sz:=1) h1.cell;have l1:=BH (o:=1) (sz:=1) h1.cell;cases hz:Kq y with
 | true=>
  simp only[GMw,HPw,Nat.reduceAdd,Nat.reduceLT,Cy,FT,Fq,FM,gG,eq_kids,hz,if_true];exact⟨v,_,rfl,h1,e1⟩
 | false=>
  simp only[GMw,HPw,Nat.reduceAdd,Nat.reduceLT,Cy,FT,Fq,FM,gG,eq_kids,hz,l1,F1,JJ,lookA_kn h1.known,UM,if_false];unfold D0;by_cases h0:CH out y=0
  ·obtain⟨v',H2,ha,hr,hk,hg⟩:=RS.snoc2 (bytes:=40) h1.row hB y .ti (by omega) (by omega);have kX:=hk.cel _ _ h1.cell;have hst:=EX (o:=0) (v:=v') kX hr.one (by simp);have lW:km≠ar:=λe=>by have:=h.known;rw[e,h.cell]at this;cases this
   have wJ:ar<H.length:=(UH.1 h.cell).1;have bV:km<H.length:=(UH.1 h.known).1;have tM:∀es,v≠.sl es (.own km):=h.row.notok (B:=.map (knF 0 out)) h.known (λ_ _ _ e=>by cases e);have hk2:H2[km]? = some (.map (knF 0 out)):=by rw[hg.keep km (by simp;omega) tM];exact h1.known
   have hH1:H.length≠ar:=by omega
   have hbox:H2[H.length]? = some (.cel 0 (cNd y)):=hk.cel _ _ Ap;have gW:ar<H2.length:=(UH.1 kX).1;have vP:km<H2.length:=(UH.1 hk2).1;obtain⟨H3,hH3⟩:∃H3,H3=H2.set ar (.cel 0 ([v,.mp km].set 0 v')):=⟨_,rfl⟩;rw[<-hH3]at hst;have nC:H3[ar]? = some (.cel 0 [v',.mp km]):=by rw[hH3,UT gW];rfl
   have hk3:H3[km]? = some (.map (knF 0 out)):=by rw[hH3,UI (Ne.symm lW)];exact hk2
   have Yg:H3[H.length]? = some (.cel 0 (cNd y)):=by rw[hH3,UI (Ne.symm hH1)];exact hbox
   have l30:=BH (o:=0) (sz:=1) nC;have l31:=BH (o:=1) (sz:=1) nC;have aU:=updA_kn hk3 h0;obtain⟨H4,hH4⟩:∃H4,H4=H3.set km (.map (knF 0 (out++[y]))):=⟨_,rfl⟩;rw[<-hH4]at aU;have mC:H4[ar]? = some (.cel 0 [v',.mp km]):=by rw[hH4,UI lW];exact nC
   have l40:=BH (o:=0) (sz:=1) mC;have hlen:=hr.len;rw[UO,zXi]at hlen;refine⟨v',H4,?_,⟨mC,?_,?_⟩,e1.trans ⟨?_,λi cs hi hc=>?_,λi es hi hc=>?_,λi hi=>?_⟩⟩
   ·simp only[h0,if_true,GMw,HPw,Nat.reduceAdd,Nat.reduceLT,l0,F1,JJ,Cy,FT,Fq,FM,Kb,ha,hst,l30,l31,HG Yg,hlen,aU,l40]
   ·have r3:RS cNd AK 5 b (out++[y]) v' H3:=by rw[hH3];exact hr.put kX
    rw[hH4,if_pos h0];exact r3.setB hk3 (λ_ _ _ e=>by cases e)
   ·rw[hH4,UT (by rw[hH3,zYa];exact vP)];simp only[h0,if_true]
   ·rw[hH4,zYa,hH3,zYa];exact hk.len
   ·have c2:=hk.cel i cs hc;have hik:i≠km:=λe=>by rw[e,hk2]at c2;cases c2
    rw[hH4,UI (Ne.symm hik),hH3,UI (Ne.symm hi)];exact c2
   ·have zU:i≠ar:=λe=>by rw[e,h1.cell]at hc;cases hc
    have hil:i<(H++[Blk.cel 0 (cNd y)]).length:=(UH.1 hc).1;have iP:∀es',v≠.sl es' (.own i):=h1.row.notok hc (λ_ _ _ e=>by cases e);rw[hH4,UI (Ne.symm hi),hH3,UI (Ne.symm zU),hg.keep i hil iP];exact hc
   ·rw[hH4,UI (by omega),hH3,UI (by omega)];exact hk.old i hi
  ·simp only[h0,if_false,GMw,HPw,Nat.reduceAdd,Nat.reduceLT];exact⟨v,_,rfl,h1,e1⟩
theorem N4 (y:Nd):Kq y=(List.range 4).all λk=>decide (y.kid k=0):=by
 rw[N0];simp only[Kq,Bool.and_assoc]
 rfl
theorem JE {L:List Nd}{v n:Nat}{out:List Nd}(h:n=0\/(AE L).getD n true=true):Bn L (AE L) v n out=(out,0):=by
 have he:(AE L).getD n true=true:=by
  rcases h with h | h
  ·rw[h];exact HL L
  ·exact h
 cases v with
 | zero=>rfl
 | succ v=>simp only[Bn,he,if_true]
theorem insF_pos {L:List Nd}{v n:Nat}{out:List Nd}(h:(AE L).getD n true=false):0<(Bn L (AE L) (v+1) n out).2:=by
 simp only[Bn,h,UM,if_false];split
 ·exact RD _ _
 ·exact RD _ _
theorem Pi (rec:Nat->List Nd->List Nd×Nat)(x:Nd)(out:List Nd):∀k,k<=4->∀j,j<k->(Cf rec x k out).2.kid j=((rec (x.kid j).toNat (Cf rec x j out).1).2:Int)
 | 0,_,j,h=>by omega
 | k+1,hk,j,h=>by
  simp only[Cf];by_cases e:j=k
  ·subst e;rw[setKid_same _ _ (by omega)]
  ·rw[G0 _ _ (by omega) (by omega) e];exact Pi rec x out k (by omega) j (by omega)
theorem Up {L:List Nd}{v:Nat}(x:Nd)(out:List Nd)(h:∀k,k<4->(x.kid k).toNat=0\/(AE L).getD (x.kid k).toNat true=true):∀k,k<=4->(Cf (Bn L (AE L) v) x k out).1=out
 | 0,_=>rfl
 | k+1,hk=>by
  simp only[Cf];rw[JE (h k (by omega))];exact Up x out h k (by omega)
theorem intern_ins {L:List Nd}(hl:AV L=true){m v:Nat}(hm:m<L.length)(hv:L[m].lv.toNat=v+1)(out:List Nd) :
  Ik (Cf (Bn L (AE L) v) L[m] (if 1<L[m].lv then 4 else 0) out).1 (Cf (Bn L (AE L) v) L[m] (if 1<L[m].lv then 4 else 0) out).2=Bn L (AE L) (v+1) (m+1) out:=by
 obtain⟨l1,l2,l3⟩:=AW hl hm;have hx:Bf L ((m+1:Nat):Int)=L[m]:=BD hm;have he:=emp_iff hl (n:=m+1) (by omega) hm;rw[hx]at he;by_cases h1:1<L[m].lv
 ·rw[if_pos h1];cases hE:(AE L).getD (m+1) true with
  | true=>
   rw[hE]at he;have hk:∀k,k<4->(L[m].kid k).toNat=0\/(AE L).getD (L[m].kid k).toNat true=true:=λk hk=>by
    have:=Vb.1 he.symm k (by simpa using hk);simp only[VT,zXe,UU]at this;rcases this with h | h
    ·left;rw[h];rfl
    ·exact .inr h.2
   have hn:Kq (Cf (Bn L (AE L) v) L[m] 4 out).2=true:=by
    rw[N4,Vb];intro k hk';have iZ:k<4:=by simpa using hk'
    rw[zXe,Pi _ _ _ 4 (by omega) k iZ,JE (hk k iZ)];rfl
   unfold Ik;rw[hn,if_pos rfl,Up _ _ hk 4 (by omega)];simp only[Bn,hE,if_true]
  | false=>
   rw[hE]at he;have:¬ ∀k,k<4->(L[m].kid k=0\/(AE L).getD (L[m].kid k).toNat true=true):=λh=>by
    have:((List.range 4).all λk=>decide (L[m].kid k=0)||(decide (1<L[m].lv)&&(AE L).getD (L[m].kid k).toNat true))=true:=by
     rw[Vb];intro k hk;have:=h k (by simpa using hk);simp only[VT,zXe,UU];rcases this with q | q
     ·exact .inl q
     ·exact .inr ⟨h1,q⟩
    rw[this]at he;cases he
   have ⟨k,iZ,iO⟩:∃k,k<4/\¬(L[m].kid k=0\/(AE L).getD (L[m].kid k).toNat true=true):=by
    by_cases h:∃k,k<4/\¬(L[m].kid k=0\/(AE L).getD (L[m].kid k).toNat true=true)
    ·exact h
    ·exact absurd (λk hk=>Decidable.byContradiction λhc=>h ⟨k,hk,hc⟩) this
   have hn:Kq (Cf (Bn L (AE L) v) L[m] 4 out).2=false:=by
    rw[N4,W6];refine⟨k,by simpa using iZ,?_⟩;rw[zXe,Pi _ _ _ 4 (by omega) k iZ];obtain⟨v',rfl⟩:∃v',v=v'+1:=⟨v-1,by omega⟩;have:=insF_pos (L:=L) (v:=v') (n:=(L[m].kid k).toNat) (out:=(Cf (Bn L (AE L) (v'+1)) L[m] k out).1) (by
     cases hq:(AE L).getD (L[m].kid k).toNat true with
     | false=>rfl
     | true=>exact absurd (.inr hq) iO)
    omega
   unfold Ik;rw[hn];simp only[Bn,hE,UM,if_false,hx,if_pos h1]
 ·rw[if_neg h1];have hn:Kq L[m]=(AE L).getD (m+1) true:=by
   rw[he,N4,N0,N0];simp[h1]
  unfold Ik;simp only[Cf,Bn,hn,hx,if_neg h1]
structure Seat where
 b:Nat
 pd:Nat
 pl:Nat
 pv:Nat
 pa:Nat
 ar:Nat
 km:Nat
 dm:Nat
structure VQ (s:Seat)(L:List Nd)(tk:Tok)(out:List Nd)(D:List (Nat×Nat))(H:Aa):Prop where
 hb:s.b<=s.ar/\s.b<=s.km/\s.b<=s.dm/\s.km≠s.dm
 ne:s.pd≠s.ar/\s.pl≠s.ar/\s.pv≠s.ar/\s.pa≠s.ar
 done:H[s.pd]? = some (.cel 0 [.mp s.dm])
 list:H[s.pl]? = some (.cel 0 [.sl (enL cNd L) tk])
 self:H[s.pv]? = some (.cel 0 [.fn 161 [.ptr s.pd 0 0,.ptr s.pl 0 0,.ptr s.pv 0 0,.ptr s.pa 0 0]])
 arena:H[s.pa]? = some (.cel 0 [.ptr s.ar 0 0])
 nodes:∃v,AR s.b s.ar s.km out v H
 nums:H[s.dm]? = some (.map (dnM D))
structure VD (L out:List Nd)(D:List (Nat×Nat)):Prop where
 nd:(D.map (·.1)).Nodup
 le:∀p∈D,p.1<=L.length
 val:∀p∈D,Bn L (AE L) (Bf L (p.1:Int)).lv.toNat p.1 out=(out,p.2)
 cnt:out.length<D.length
 zero:lkD D 0=some 0
theorem VD.short {L out:List Nd}{D:List (Nat×Nat)}(h:VD L out D):out.length<=L.length:=by
 have:=nodup_le (L.length+1) (D.map (·.1)) h.nd (λx hx=>by
  obtain⟨p,hp,rfl⟩:=Wh.1 hx;have:=h.le p hp;omega)
 rw[VJ]at this;have:=h.cnt;omega
theorem VQ.len {s:Seat}{L:List Nd}{tk:Tok}{out:List Nd}{D:List (Nat×Nat)}{H:Aa}(h:VQ s L tk out D H):s.b<=H.length:=by
 obtain⟨v,h1⟩:=h.nodes;have:=(UH.1 h1.cell).1;have:=h.hb.1;omega
theorem VQ.cells {s:Seat}{L:List Nd}{tk:Tok}{out:List Nd}{D:List (Nat×Nat)}{H H':Aa}(h:VQ s L tk out D H)(hk:∀i,i<H.length->H'[i]? = H[i]?)(hl:H.length<=H'.length):VQ s L tk out D H':=by
 have g:∀ {i:Nat} {x:Blk},H[i]? = some x->H'[i]? = some x:=λhx=>by rw[hk _ (UH.1 hx).1];exact hx
 obtain⟨v,h1⟩:=h.nodes;refine⟨h.hb,h.ne,g h.done,g h.list,g h.self,g h.arena,⟨v,g h1.cell,?_,g h1.known⟩,g h.nums⟩;rcases h1.row with r | ⟨t,r1,r2,r3⟩
 ·exact .inl r
 ·exact .inr ⟨t,r1,r2,g r3⟩
theorem VQ.put {s:Seat}{L:List Nd}{tk:Tok}{out:List Nd}{D:List (Nat×Nat)}{H:Aa}{q:Nat}{x y:Nd}(h:VQ s L tk out D H)(hq:H[q]? = some (.cel 0 (cNd x))):VQ s L tk out D (H.set q (.cel 0 (cNd y))):=by
 obtain⟨v,h1⟩:=h.nodes;have n5:∀ {i:Nat} {c:List Ab},H[i]? = some (.cel 0 c)->c.length≠5->(H.set q (.cel 0 (cNd y)))[i]? = some (.cel 0 c):=λ{i c} hi hc=>by
  have:q≠i:=λe=>by rw[e,hi]at hq;injection hq with hq;injection hq with _ hq;rw[hq]at hc;exact hc rfl
  rw[UI this];exact hi
 have nm:∀ {i:Nat} {es:List (Ab×Ab)},H[i]? = some (.map es)->(H.set q (.cel 0 (cNd y)))[i]? = some (.map es):=λ{i es} hi=>by
  have:q≠i:=λe=>by rw[e,hi]at hq;cases hq
  rw[UI this];exact hi
 exact⟨h.hb,h.ne,n5 h.done (by simp),n5 h.list (by simp),n5 h.self (by simp),n5 h.arena (by simp),⟨v,n5 h1.cell (by simp),h1.row.put hq,nm h1.known⟩,nm h.nums⟩
theorem VD.grow {L out:List Nd}{D:List (Nat×Nat)}(h:VD L out D)(r:List Nd):∀p∈D,Bn L (AE L) (Bf L (p.1:Int)).lv.toNat p.1 (out++r)=(out++r,p.2):=by
 intro p hp;have h3:=h.val p hp;have:=IG (L:=L) (E:=AE L) (Bf L (p.1:Int)).lv.toNat p.1 out r
 rwa [h3]at this
theorem c06_visit {s:Seat}{L:List Nd}{tk:Tok}(hL:L.length<2000000000000)(hl:AV L=true):∀(v n d:Nat) (out:List Nd) (D:List (Nat×Nat)) (H:Aa),n<=L.length->(n=0\/(Bf L (n:Int)).lv.toNat=v)->v<d->VQ s L tk out D H->VD L out D ->
  ∃H' D',Sh.f9 d (.i6 (n:Int)) (.ptr s.pd 0 0) (.ptr s.pl 0 0) (.ptr s.pv 0 0) (.ptr s.pa 0 0) H=some (.ret (.i6 ((Bn L (AE L) v n out).2:Int)),H') /\
   VQ s L tk (Bn L (AE L) v n out).1 D' H'/\Ext s.b s.ar H H'/\VD L (Bn L (AE L) v n out).1 D'/\∀j,n<j->lkD D' j=lkD D j:=by
 intro v
 induction v with
 | zero=>
  intro n d out D H hn hv hd hQ hD;obtain⟨d,rfl⟩:∃e,d=e+1:=⟨d-1,by omega⟩;have eB:n=0:=by
   rcases hv with h | h
   ·exact h
   ·cases n with
    | zero=>rfl
    | succ m=>
     rw[BD (show m<L.length from hn)]at h;have:=(AW hl (show m<L.length from hn)).1;omega
  subst eB;refine⟨H,D,?_,hQ,Ext.refl _ _ _,hD,λ_ _=>rfl⟩;show Sh.f2y (Sh.f9 d) _ _ _ _ _ _=_;have hlk:=lookA_dn hQ.nums 0;rw[hD.zero]at hlk;unfold Sh.f2y;simp only[GMw,HPw,Nat.reduceAdd,Nat.reduceLT,BH hQ.done,hlk]
  rfl
 | succ v ih=>
  intro n d out D H hn hv hd hQ hD;obtain⟨d,rfl⟩:∃e,d=e+1:=⟨d-1,by omega⟩;show ∃H' D',Sh.f2y (Sh.f9 d) _ _ _ _ _ _=_/\_;have hlk:=lookA_dn hQ.nums n;unfold Sh.f2y;simp only[GMw,HPw,Nat.reduceAdd,Nat.reduceLT,BH hQ.done,hlk];cases aZ:lkD D n with
  | some m=>
   have cG:=lkD_mem aZ;have cC:=hD.val _ cG;dsimp only at cC;have eK:Bn L (AE L) (v+1) n out=(out,m):=by
    rcases hv with h | h
    ·have:=JE (L:=L) (v:=(Bf L (n:Int)).lv.toNat) (out:=out) (n:=n) (.inl h);rw[cC]at this;rw[JE (.inl h)];exact this.symm
    ·rw[h]at cC;exact cC
   rw[eK];exact⟨H,D,by simp only[GMw,HPw,Nat.reduceAdd,Nat.reduceLT],hQ,Ext.refl _ _ _,hD,λ_ _=>rfl⟩
  | none=>
   obtain⟨m,rfl⟩:∃m,n=m+1:=⟨n-1,by
    cases n with
    | zero=>rw[hD.zero]at aZ;cases aZ
    | succ n=>rfl⟩
   have hm:m<L.length:=hn;have aP:(Bf L ((m+1:Nat):Int)).lv.toNat=v+1:=by
    rcases hv with h | h
    ·omega
    ·exact h
   obtain⟨l1,l2,l3⟩:=AW hl hm;have hx:Bf L ((m+1:Nat):Int)=L[m]:=BD hm;rw[hx]at aP;have cP:IntKind.i64.wrap (((m+1:Nat):Int)-1)=(m:Int):=by rw[Ao] <;> omega
   have wG:=hQ.len;have hQ1:VQ s L tk out D (H++[.cel 0 (cNd L[m])]):=hQ.cells (λi hi=>UL hi) (by simp);have hE1:Ext s.b s.ar H (H++[.cel 0 (cNd L[m])]):=Ext.snoc wG _;have hHar:H.length≠s.ar:=by
    obtain⟨v,h1⟩:=hQ.nodes;have:=(UH.1 h1.cell).1;omega
   simp only[GMw,HPw,Nat.reduceAdd,Nat.reduceLT,BH hQ.list,F1,cP,A4 hm,Je,Cy,FT,Fq,FM];have fin:∀(Hc:Aa) (D1:List (Nat×Nat)),lkD D1 (m+1)=none->VQ s L tk (Cf (Bn L (AE L) v) L[m] (if 1<L[m].lv then 4 else 0) out).1 D1 Hc->Hc[H.length]? = some (.cel 0 (cNd (Cf (Bn L (AE L) v) L[m] (if 1<L[m].lv then 4 else 0) out).2))->Ext s.b s.ar H Hc->VD L (Cf (Bn L (AE L) v) L[m] (if 1<L[m].lv then 4 else 0) out).1 D1->(∀j,m<j->lkD D1 j=lkD D j) ->
     ∃H' D',Sh.f5b H (.i6 ((m+1:Nat):Int)) (.ptr s.pd 0 0) (.ptr s.pa 0 0) (.ptr H.length 0 0) Hc=some (.ret (.i6 ((Bn L (AE L) (v+1) (m+1) out).2:Int)),H') /\
      VQ s L tk (Bn L (AE L) (v+1) (m+1) out).1 D' H'/\Ext s.b s.ar H H'/\VD L (Bn L (AE L) (v+1) (m+1) out).1 D'/\∀j,m+1<j->lkD D' j=lkD D j:=by
    intro Hc D1 cT hQc hbox hEc hDc zS;have oH:=intern_ins hl hm aP out;have bZ:=IG (L:=L) (E:=AE L) (v+1) (m+1) out [];rw[Vl]at bZ;generalize Cf (Bn L (AE L) v) L[m] (if 1<L[m].lv then 4 else 0) out=io at *;obtain⟨o,y⟩:=io;dsimp only at *;obtain⟨vv,hA⟩:=hQc.nodes;have kT:=hDc.short;obtain⟨v',H2,i1,i2,i3⟩:=c06_intern hA hQc.hb.1 hQc.hb.2.1 hQc.len y (by omega);rw[oH]at i1 i2;have tP:s.dm≠s.km:=Ne.symm hQc.hb.2.2.2;have jG:=i3.map _ _ tP hQc.nums;have zK:=i3.cel _ _ hQc.ne.1 hQc.done;have aU:=updA_dn (H:=H2) (n:=m+1) jG (Bn L (AE L) (v+1) (m+1) out).2 cT;have rX:∃r,(Bn L (AE L) (v+1) (m+1) out).1=o++r:=by
     rw[<-oH];unfold Ik D0;split
     ·exact⟨[],by simp⟩
     ·split
      ·exact⟨[y],rfl⟩
      ·exact⟨[],by simp⟩
    have xU:(Bn L (AE L) (v+1) (m+1) out).1.length<=o.length+1:=by
     rw[<-oH];unfold Ik D0;split
     ·dsimp only;omega
     ·split
      ·simp
      ·dsimp only;omega
    refine⟨H2.set s.dm (.map (dnM (D1++[(m+1,(Bn L (AE L) (v+1) (m+1) out).2)]))),D1++[(m+1,(Bn L (AE L) (v+1) (m+1) out).2)],?_,?_,hEc.trans ⟨?_,λi cs hi hc=>?_,λi hi=>?_⟩,?_,λj hj=>?_⟩
    ·unfold Sh.f5b;simp only[GMw,HPw,Nat.reduceAdd,Nat.reduceLT,BH hQc.arena,F1,HG hbox,i1,BH zK,aU]
    ·have zY:s.dm<H2.length:=(UH.1 jG).1;have nc:∀ {i:Nat} {c:List Ab},i≠s.ar->Hc[i]? = some (.cel 0 c)->(H2.set s.dm (.map (dnM (D1++[(m+1,(Bn L (AE L) (v+1) (m+1) out).2)]))))[i]? = some (.cel 0 c):=λ{i c} hi hc=>by
      have h2:=i3.cel i c hi hc;have:s.dm≠i:=λe=>by rw[<-e,jG]at h2;cases h2
      rw[UI this];exact h2
     have pL:s.dm≠s.ar:=λe=>by have:=i2.cell;rw[<-e,jG]at this;cases this
     exact⟨hQc.hb,hQc.ne,nc hQc.ne.1 hQc.done,nc hQc.ne.2.1 hQc.list,nc hQc.ne.2.2.1 hQc.self,nc hQc.ne.2.2.2 hQc.arena,
      ⟨v',by rw[UI pL];exact i2.cell,i2.row.setB jG (λ_ _ _ e=>by cases e),by rw[UI tP];exact i2.known⟩,by rw[UT zY]⟩
    ·rw[zYa];exact i3.len
    ·have h2:=i3.cel i cs hi hc;have:s.dm≠i:=λe=>by rw[<-e,jG]at h2;cases h2
     rw[UI this];exact h2
    ·have:=hQc.hb.2.2.1;rw[UI (by omega)];exact i3.old i hi
    ·obtain⟨r,hr⟩:=rX;refine⟨?_,λp hp=>?_,λp hp=>?_,?_,?_⟩
     ·rw[Xu,List.nodup_append];refine⟨hDc.nd,by simp,λa ha b hb=>?_⟩;have Ye:b=m+1:=by simpa using hb
      have:=lkD_none cT;exact λe=>this (by rw[<-Ye,<-e];exact ha)
     ·rcases Vi.1 hp with h | h
      ·exact hDc.le p h
      ·rw[Vg.1 h];exact hn
     ·rcases Vi.1 hp with h | h
      ·rw[hr];exact hDc.grow r p h
      ·rw[Vg.1 h];dsimp only;rw[hx,aP];exact bZ
     ·rw[UO,zXi];have:=hDc.cnt;omega
     ·rw[lkD_app,hDc.zero]
    ·rw[lkD_app,zS j (by omega)];cases lkD D j with
     | some _=>rfl
     | none=>dsimp only;rw[if_neg (by omega)]
   by_cases aT:L[m].lv>1
   ·simp only[aT,GMw];have oV:1<L[m].lv:=aT;rw[if_pos oV]at fin;have loop:=G5 (G:=λaA vs H1=>Sh.f5c H (Sh.f9 d) (λvs H=>Sh.f5b H (ag vs 0) (ag vs 1) (ag vs 2) (ag vs 3) H) aA (ag vs 0) (ag vs 1) (ag vs 2) (ag vs 3) (ag vs 4) (ag vs 5) (ag vs 6) H1) 4
     (λk vs Hc=>∃D',vs=[.i6 ((m+1:Nat):Int),.ptr s.pd 0 0,.ptr s.pv 0 0,.ptr s.pa 0 0,.ptr H.length 0 0,.agg (Jf L[m]),.i6 (k:Int)]/\VQ s L tk (Cf (Bn L (AE L) v) L[m] k out).1 D' Hc/\Hc[H.length]? = some (.cel 0 (cNd (Cf (Bn L (AE L) v) L[m] k out).2))/\Ext s.b s.ar H Hc/\VD L (Cf (Bn L (AE L) v) L[m] k out).1 D'/\lkD D' (m+1)=none/\∀j,m<j->lkD D' j=lkD D j)
     (by decide) (λk vs Hc hk hI=>?_) (vs:=[.i6 ((m+1:Nat):Int),.ptr s.pd 0 0,.ptr s.pv 0 0,.ptr s.pa 0 0,.ptr H.length 0 0,.agg (Jf L[m]),.i6 0]) (H:=H++[Blk.cel 0 (cNd L[m])]) ⟨D,rfl,hQ1,by simp[Cf],hE1,hD,aZ,λ_ _=>rfl⟩
    ·obtain⟨vs',Hc,⟨D',rfl,hQc,hbox,hEc,hDc,pE,lX⟩,rec,aB⟩:=loop;obtain⟨H',D2,f1,f2⟩:=fin Hc D' pE hQc hbox hEc hDc lX;refine⟨H',D2,aB.trans ?_,f2⟩;unfold Sh.f5c;simp only[GMw,Ai,show ¬(((4:Nat):Int)<4) from by decide];exact f1
    ·obtain⟨D1,rfl,hQc,hbox,hEc,hDc,pE,lX⟩:=hI;have hk':(k:Int)<4:=by omega
     obtain⟨q1,q2,q3⟩:=l3 k hk;obtain⟨c,hc⟩:∃c:Nat,L[m].kid k=(c:Int):=⟨(L[m].kid k).toNat,by omega⟩;have nB:c<=m:=by
      by_cases h0:0<L[m].kid k
      ·have:=(q3 oV h0).1;omega
      ·omega
     have hcv:c=0\/(Bf L (c:Int)).lv.toNat=v:=by
      by_cases h0:c=0
      ·exact .inl h0
      ·right;obtain⟨g,rfl⟩:∃g,c=g+1:=⟨c-1,by omega⟩;have kV:g<L.length:=by omega
       have:=(q3 oV (by omega)).2 L[g] (by rw[show (L[m].kid k-1).toNat=g by omega];exact UG kV);rw[BD kV];omega
     obtain⟨H1,D',r1,r2,r3,r4,r5⟩:=ih c d (Cf (Bn L (AE L) v) L[m] k out).1 D1 Hc (by omega) hcv (by omega) hQc hDc;have kI:=r3.cel _ _ hHar hbox;have hst:=EW (c:=((Bn L (AE L) v c (Cf (Bn L (AE L) v) L[m] k out).1).2:Int)) kI hk;have hstep:Cf (Bn L (AE L) v) L[m] (k+1) out=((Bn L (AE L) v c (Cf (Bn L (AE L) v) L[m] k out).1).1,(Cf (Bn L (AE L) v) L[m] k out).2.setKid k ((Bn L (AE L) v c (Cf (Bn L (AE L) v) L[m] k out).1).2:Int)):=by
      simp only[Cf,hc,zXl]
     rw[hstep];refine⟨_,H1.set H.length (.cel 0 (cNd ((Cf (Bn L (AE L) v) L[m] k out).2.setKid k ((Bn L (AE L) v c (Cf (Bn L (AE L) v) L[m] k out).1).2:Int)))),⟨D',rfl,r2.put kI,?_,⟨by have:=hEc.len;have:=r3.len;rw[zYa];omega,λi cs hi hc=>?_,λi hi=>?_⟩,r4,?_,λj hj=>?_⟩,λrec=>?_⟩
     ·rw[UT (UH.1 kI).1]
     ·have:=(UH.1 hc).1;rw[UI (by omega)];exact r3.cel i cs hi (hEc.cel i cs hi hc)
     ·rw[UI (by omega),r3.old i hi];exact hEc.old i hi
     ·rw[r5 (m+1) (by omega)];exact pE
     ·rw[r5 j (by omega)];exact lX j hj
     ·have dB:DK (HT (Sh.f9 d)) (.fn 161 [.ptr s.pd 0 0,.ptr s.pl 0 0,.ptr s.pv 0 0,.ptr s.pa 0 0]) [.i6 (c:Int)] Hc=Sh.f9 d (.i6 (c:Int)) (.ptr s.pd 0 0) (.ptr s.pl 0 0) (.ptr s.pv 0 0) (.ptr s.pa 0 0) Hc:=rfl;unfold Sh.f5c;simp only[GMw,HPw,Nat.reduceAdd,Nat.reduceLT,Ai,hk',ag_kid _ hk,hc,BH hQc.self,F1,dB,r1,HI hk,hst,As (show k<9223372036854775807 by omega)]
   ·simp only[aT,GMw];rw[if_neg aT]at fin;exact fin _ D aZ hQ1 (by simp[Cf]) hE1 hD (λ_ _=>rfl)
theorem c06_of (L:List Nd)(tk:Tok)(n:Int)(H:Aa)(hL:L.length<1000000000000):Sh.f2z (.sl (enL cNd L) tk) (.i6 n) H =
  some (.ret (if ofOk L n then .tup [Ef (PI L n.toNat),.i6 0]else .tup [Ef [],.i6 1]),H):=by
 unfold Sh.f2z;have hbx:Bu true 1 (.sl (enL cNd L) tk) H=some (.ptr H.length 0 0,H++[.cel 0 [.sl (enL cNd L) tk]]):=by
  unfold Bu;simp only[PV,alloc_eq (cs:=[.sl (enL cNd L) tk]) rfl];rfl
 have uN:Ab.agg [.sl [] .no]=Ef []:=rfl;simp only[hbx,GMw,HPw,Nat.reduceAdd,Nat.reduceLT,c05_loose L tk _ (show L.length<1152921504606846976 by omega)];unfold ofOk;have dW:Az (some [(.sl [] .ti)]) []=some (.agg [.sl [] .ti]):=rfl;cases hl:AV L with
 | false=>simp only[GMw,HPw,Nat.reduceAdd,Nat.reduceLT,dW,uN,UM,if_false]
 | true=>
  by_cases eB:n<0
  ·have:¬0<=n:=by omega
   simp only[GMw,HPw,Nat.reduceAdd,Nat.reduceLT,dW,uN,eB,this,UM,if_false]
  ·have eF:0<=n:=by omega
   by_cases iN:n>L.length
   ·have:¬n<=L.length:=by omega
    simp only[GMw,HPw,Nat.reduceAdd,Nat.reduceLT,dW,uN,eB,eF,iN,this,Ay,UM,if_false]
   ·obtain⟨n,rfl⟩:=VB eF;have hle:n<=L.length:=by omega
    have iX:(n:Int)<=(L.length:Int):=by omega
    have vA:¬(n:Int)>(L.length:Int):=iN;obtain⟨s1,s2,s3⟩:=TG hl hle;unfold PI;simp only[GMw,HPw,Nat.reduceAdd,Nat.reduceLT,eB,eF,vA,iX,Ay,c06_shrink L tk n _ (show L.length<3518437200000 by omega) hl hle,if_true,zXl];generalize El L n=S at s1 s2 s3;obtain⟨M,r⟩:=S;dsimp only at s1 s2 s3 ⊢;have oA:(Bf M (r:Int)).lv.toNat<AM:=by
     rw[CQ];by_cases hr:0<r
     ·have:=Qg s1 hr s2;omega
     ·obtain rfl:r=0:=by omega
      unfold Bf;rw[UN];by_cases hM:0<M.length
      ·rw[show (((0:Nat):Int)-1).toNat=0 from rfl,UG hM];have:=(AW s1 hM).2.1;simp only[Option.getD_some];omega
      ·rw[show (((0:Nat):Int)-1).toNat=0 from rfl,zYb (by omega)];simp
    have dA:∀K:Aa,ED K=some (.mp K.length,K++[.map []]):=λ_=>rfl;have gO:∀x,Az (some [.sl [] .ti,.nilmap]) [(1,1,.mp x)]=some (.agg [.sl [] .ti,.mp x]):=λ_=>rfl;have aU:Ej false 1 (.mp (H.length+5)) (.i6 0) (.i6 0) (H++[.cel 0 [.sl (enL cNd M) .no],.cel 0 [.sl [] .ti],.map [],.cel 0 [.sl [] .ti,.mp (H.length+2)],.cel 0 [.ptr (H.length+3) 0 0],.map []]) =
      some (H++[.cel 0 [.sl (enL cNd M) .no],.cel 0 [.sl [] .ti],.map [],.cel 0 [.sl [] .ti,.mp (H.length+2)],.cel 0 [.ptr (H.length+3) 0 0],.map (dnM [(0,0)])]):=by
     have:=updA_dn (H:=H++[.cel 0 [.sl (enL cNd M) .no],.cel 0 [.sl [] .ti],.map [],.cel 0 [.sl [] .ti,.mp (H.length+2)],.cel 0 [.ptr (H.length+3) 0 0],.map []]) (id:=H.length+5) (D:=[]) (by simp[dnM]) (n:=0) 0 rfl;rw[show ((0:Nat):Int)=0 from rfl]at this;rw[this,Vt _ _ (by omega),show H.length+5-H.length=5 by omega]
     rfl
    have hf:∀l:List Ab,Ae 1 (.ptr 0 0 0) (.fn 161 l) [Blk.cel 0 [.nilfn]]=some [.cel 0 [.fn 161 l]]:=λl=>OP rfl (by simp);obtain⟨F,hF⟩:∃F:Aa,F=H++[.cel 0 [.sl (enL cNd M) .no],.cel 0 [.sl [] .ti],.map [],.cel 0 [.sl [] .ti,.mp (H.length+2)],.cel 0 [.ptr (H.length+3) 0 0],.map (dnM [(0,0)]),.cel 0 [.mp (H.length+5)],.cel 0 [.fn 161 [.ptr (H.length+6) 0 0,.ptr H.length 0 0,.ptr (H.length+7) 0 0,.ptr (H.length+4) 0 0]]]:=⟨_,rfl⟩;have hQ:VQ ⟨H.length,H.length+6,H.length,H.length+7,H.length+4,H.length+3,H.length+2,H.length+5⟩ M .no [] [(0,0)] F:=by
     refine⟨⟨by dsimp only;omega,by dsimp only;omega,by dsimp only;omega,by dsimp only;omega⟩,⟨by dsimp only;omega,by dsimp only;omega,by dsimp only;omega,by dsimp only;omega⟩,?_,?_,?_,?_,⟨.sl [] .ti,?_,.inl ⟨rfl,rfl⟩,?_⟩,?_⟩ <;> (rw[hF];simp[knF])
    have hD:VD M [] [(0,0)]:=⟨by simp,λp hp=>by rw[Vg.1 hp];exact Ve _,λp hp=>by rw[Vg.1 hp];exact JE (.inl rfl),by simp,rfl⟩;obtain⟨H',D',v1,v2,v3,v4,v5⟩:=c06_visit (s:=⟨H.length,H.length+6,H.length,H.length+7,H.length+4,H.length+3,H.length+2,H.length+5⟩) (L:=M) (tk:=.no) (by omega) s1 (Bf M (r:Int)).lv.toNat r AM [] [(0,0)] F s2 (.inr rfl) oA hQ hD;dsimp only at v1 v3;have dB:DK Js (.fn 161 [.ptr (H.length+6) 0 0,.ptr H.length 0 0,.ptr (H.length+7) 0 0,.ptr (H.length+4) 0 0]) [.i6 (r:Int)] F=Sh.f9 AM (.i6 (r:Int)) (.ptr (H.length+6) 0 0) (.ptr H.length 0 0) (.ptr (H.length+7) 0 0) (.ptr (H.length+4) 0 0) F:=rfl;rw[v1]at dB;rw[hF]at dB;have hres:H'[H.length+1]? = some (.cel 0 [.sl [] .ti]):=v3.cel _ _ (by omega) (by rw[hF];simp);have hold:∀i,i<H.length->H'[i]? = H[i]? := λi hi=>by rw[v3.old i hi,hF,UL hi]
    obtain⟨v,hA⟩:=v2.nodes;have tG:=BH (o:=0) (sz:=1) v2.arena;have wJ:=BH (o:=0) (sz:=1) hA.cell;dsimp only at tG wJ;obtain⟨tk3,rfl⟩:=hA.row.sl;generalize (Bn M (AE M) (Bf M (r:Int)).lv.toNat r []).1=Q at *;have hb:Az (some [(.sl [] .ti)]) [(0,1,.sl (enL cNd Q) tk3)]=some (.agg [.sl (enL cNd Q) tk3]):=by simp[Az,Gp,Dc]
    have hst:=Gc (sz:=1) (ws:=[.sl (enL cNd Q) tk3]) hres rfl rfl rfl;have aG:=(UH.1 hres).1;have hld:=Et (sz:=1) (H:=H'.set (H.length+1) (.cel 0 [.sl (enL cNd Q) tk3])) (p:=H.length+1) (by rw[UT aG]) rfl;have bB:(H'.set (H.length+1) (.cel 0 [.sl (enL cNd Q) tk3])).take H.length=H:=Cm λi hi=>by
     rw[UI (by omega)];exact hold i hi
    simp only[GMw,HPw,Nat.reduceAdd,Nat.reduceLT,dA,gO,aU,hf,dB,tG,wJ,F1,hb,hst,hld,Fa bB]
    rfl
structure Q4 (b p:Nat)(S:Nat->List Sp)(W:Nat->Ab)(T:Nat->Nat)(H:Aa):Prop where
 blk:H[p]? = some (.cel 0 [W 0,W 1,W 2,W 3])
 row:∀k,k<4->(S k=[]/\W k=.sl [] .ti)\/(S k≠[]/\b<=T k/\W k=.sl (enL cSp (S k)) (.own (T k))/\H[T k]? = some (.tok (S k).length BZ 3))
 ne:∀i j,i<4->j<4->i≠j->S i≠[]->S j≠[]->T i≠T j
def up {α:Type}(f:Nat->α)(k:Nat)(a:α):Nat->α:=λj=>if j=k then a else f j
theorem Kg {α:Type}(f:Nat->α)(k:Nat)(a:α):up f k a k=a:=if_pos rfl
theorem EU {α:Type}(f:Nat->α){j k:Nat}(a:α)(h:j≠k):up f k a j=f j:=if_neg h
theorem up_cells (W:Nat->Ab){k:Nat}(hk:k<4)(w:Ab):[W 0,W 1,W 2,W 3].set k w=[up W k w 0,up W k w 1,up W k w 2,up W k w 3]:=by
 match k,hk with
 | 0,_=>rfl
 | 1,_=>rfl
 | 2,_=>rfl
 | 3,_=>rfl
theorem get_cells (W:Nat->Ab){k:Nat}(hk:k<4):[W 0,W 1,W 2,W 3][k]? = some (W k):=by
 match k,hk with
 | 0,_=>rfl
 | 1,_=>rfl
 | 2,_=>rfl
 | 3,_=>rfl
theorem Q4.push {b p:Nat}{S:Nat->List Sp}{W:Nat->Ab}{T:Nat->Nat}{H:Aa}(h:Q4 b p S W T H)(G:Aa):Q4 b p S W T (H++G):=
 ⟨A0 h.blk,λk hk=>by
  rcases h.row k hk with q | ⟨q0,q1,q2,q3⟩
  ·exact .inl q
  ·exact .inr ⟨q0,q1,q2,A0 q3⟩,h.ne⟩
theorem Q4.add {b p:Nat}{S:Nat->List Sp}{W:Nat->Ab}{T:Nat->Nat}{H:Aa}(h:Q4 b p S W T H)(hb:b<=p){k:Nat}(hk:k<4)(s:Sp)(hl:(S k).length<1000000000) :
  ∃w' H1 T',Ad false 1 (.ptr p 0 k) H=some (W k)/\AP BZ 3 56 (W k) (.sl (enL cSp [s]) .ti) H=some (w',H1)/\Ae 1 (.ptr p 0 k) w' H1=some (H1.set p (.cel 0 [up W k w' 0,up W k w' 1,up W k w' 2,up W k w' 3])) /\
   Q4 b p (up S k (S k++[s])) (up W k w') T' (H1.set p (.cel 0 [up W k w' 0,up W k w' 1,up W k w' 2,up W k w' 3]))/\H.length<=H1.length/\∀i,i<b->H1[i]? = H[i]? := by
 have aW:p<H.length:=(UH.1 h.blk).1;have hld:Ad false 1 (.ptr p 0 k) H=some (W k):=by rw[BH h.blk];exact get_cells W hk
 have mT:k<[W 0,W 1,W 2,W 3].length:=hk;rcases h.row k hk with ⟨q1,q2⟩ | ⟨q0,q1,q2,q3⟩
 ·have ha:=CX (f:=cSp) (sz:=3) (l:=[]) (m:=[s]) (ty:=BZ) (bytes:=56) (tk:=.ti) (H:=H) (by simp) (by simp) (by simp);simp only[List.nil_append,zXk,zXi,UJ,Hy]at ha;have kJ:(H++[Blk.tok 1 BZ 3])[p]? = some (.cel 0 [W 0,W 1,W 2,W 3]):=A0 h.blk;have hst:=EX (v:=.sl (enL cSp [s]) (.own H.length)) kJ rfl mT;rw[up_cells W hk]at hst;refine⟨.sl (enL cSp [s]) (.own H.length),H++[Blk.tok 1 BZ 3],up T k H.length,hld,by rw[q2];exact ha,hst,⟨?_,λj hj=>?_,λi j hi hj hij lJ nM=>?_⟩,by simp,λi hi=>UL (by omega)⟩
  ·rw[UT (by simp;omega)]
  ·by_cases e:j=k
   ·subst e;right;rw[Kg,Kg,Kg,q1,UI (by omega)];exact⟨by simp,by omega,rfl,by simp⟩
   ·rw[EU _ _ e,EU _ _ e,EU _ _ e];rcases h.row j hj with r | ⟨r0,r1,r2,r3⟩
    ·exact .inl r
    ·have:p≠T j:=λe=>by rw[<-e,h.blk]at r3;cases r3
     exact .inr ⟨r0,r1,r2,by rw[UI this];exact A0 r3⟩
  ·have lt:∀i,i<4->S i≠[]->T i<H.length:=λi hi hs=>by
    rcases h.row i hi with r | ⟨r0,r1,r2,r3⟩
    ·exact absurd r.1 hs
    ·exact (UH.1 r3).1
   by_cases e1:i=k
   ·have e2:j≠k:=λe=>hij (by omega);rw[e1,Kg,EU _ _ e2];rw[EU _ _ e2]at nM;have:=lt j hj nM;omega
   ·rw[EU _ _ e1]at lJ ⊢;by_cases e2:j=k
    ·rw[e2,Kg];have:=lt i hi lJ;omega
    ·rw[EU _ _ e2]at nM ⊢;exact h.ne i j hi hj hij lJ nM
 ·have ha:=Fs (f:=cSp) (sz:=3) (l:=S k) (m:=[s]) (ty:=BZ) (bytes:=56) (tk:=.ti) (H:=H) (t:=T k) (by simp) q3 (by simp;omega) (by simp;omega);simp only[zXi]at ha;have iT:T k<H.length:=(UH.1 q3).1;have tF:T k≠p:=λe=>by rw[e,h.blk]at q3;cases q3
  have kJ:(H.set (T k) (Blk.tok ((S k).length+1) BZ 3))[p]? = some (.cel 0 [W 0,W 1,W 2,W 3]):=by rw[UI tF];exact h.blk
  have hst:=EX (v:=.sl (enL cSp (S k++[s])) (.own (T k))) kJ rfl mT;rw[up_cells W hk]at hst;refine⟨.sl (enL cSp (S k++[s])) (.own (T k)),H.set (T k) (Blk.tok ((S k).length+1) BZ 3),T,hld,by rw[q2];exact ha,hst,⟨?_,λj hj=>?_,λi j hi hj hij lJ nM=>?_⟩,by simp,λi hi=>UI (by omega)⟩
  ·rw[UT (by simp;omega)]
  ·by_cases e:j=k
   ·subst e;right;rw[Kg,Kg,UI (Ne.symm tF),UT iT];exact⟨by simp,q1,rfl,by simp⟩
   ·rw[EU _ _ e,EU _ _ e];rcases h.row j hj with r | ⟨r0,r1,r2,r3⟩
    ·exact .inl r
    ·have:p≠T j:=λe=>by rw[<-e,h.blk]at r3;cases r3
     have h2:T k≠T j:=h.ne k j hk hj (Ne.symm e) q0 r0;exact .inr ⟨r0,r1,r2,by rw[UI this,UI h2];exact r3⟩
  ·have b1:S i≠[]:=by
    by_cases e1:i=k
    ·rw[e1];exact q0
    ·rw[EU _ _ e1]at lJ;exact lJ
   have b2:S j≠[]:=by
    by_cases e1:j=k
    ·rw[e1];exact q0
    ·rw[EU _ _ e1]at nM;exact nM
   exact h.ne i j hi hj hij b1 b2
def SpOk (p:Sp):Prop:=(A6 p.a).length<=1000000/\(A6 p.b).length<=1000000
theorem Mx (s:Sp):AL 3 [.agg (cSp s)]=some (.sl (enL cSp [s]) .ti):=by
 simp[AL,Df,Cc,cSp,Ab.isScal,Lq,Ch,enL]
theorem qOf_lt (v:Nat)(p:Sp):qOf v p<4:=by unfold qOf;split <;> split <;> omega
theorem qSp_snoc {v k:Nat}{S:List Sp}{s:Sp}:qSp v k (S++[s])=if k=qOf v s then qSp v k S++[s]else qSp v k S:=by
 unfold qSp;rw[Vz];by_cases h:k=qOf v s
 ·rw[if_pos h];simp[h]
 ·rw[if_neg h];have:¬qOf v s=k:=λe=>h e.symm;simp[this]
theorem lay_turn {self:Ab->Ab->Ab->Aa->Out}{pb v:Nat}{S:List Sp}{tk:Tok}{H B Hc:Aa}{W:Nat->Ab}{T:Nat->Nat}{i:Nat}(hi:i<S.length)(hok:∀p∈S,SpOk p)(hS:S.length<1000000000)(hv:v<100000)
  (hBb:H.length=B.length)(hq:Q4 B.length B.length (λk=>qSp v k (S.take i)) W T Hc)(hlen:B.length<=Hc.length)(hold:∀i,i<B.length->Hc[i]? = B[i]?) :
  ∃W' T' Hd,(∀rec:LK,Sh.f2t H self rec (.ptr pb 0 0) (.i6 ((v+1:Nat):Int)) (.ptr B.length 0 0) (.sl (enL cSp S) tk) (.i6 (S.length:Int)) (.i6 (i:Int)) Hc=rec [.ptr pb 0 0,.i6 ((v+1:Nat):Int),.ptr B.length 0 0,.sl (enL cSp S) tk,.i6 (S.length:Int),.i6 ((i+1:Nat):Int)] Hd) /\
   Q4 B.length B.length (λk=>qSp v k (S.take (i+1))) W' T' Hd/\B.length<=Hd.length/\(∀i,i<B.length->Hd[i]? = B[i]?):=by
 have d1:decide ((i:Int)<(S.length:Int))=true:=zXc (by omega);have lJ:=hok _ (UV hi);have hlt:=qOf_lt v S[i];have mP:Q4 B.length B.length (λk=>qSp v k (S.take i)) W T (Hc++[.cel 0 (cSp S[i])]):=hq.push _;have qW:(qSp v (qOf v S[i]) (S.take i)).length<1000000000:=V8 (We _ _) (by rw[UY];omega);obtain⟨w',H1,T',a1,a2,a3,a4,a5,a6⟩:=mP.add (UK _) hlt S[i] qW;have hw:=As (show i<9223372036854775807 by omega);have w1:IntKind.i64.wrap (((v+1:Nat):Int)-1)=(v:Int):=by rw[Ao] <;> omega
 have bx:=λK=>p_bit S[i].a v .no K lJ.1 (by omega);have bY:=λK=>p_bit S[i].b v .no K lJ.2 (by omega);have e1:(Hc++[Blk.cel 0 [Ab.sl [] .ti,.sl [] .ti,.int .u8 0]])[Hc.length]? = some (.cel 0 [.sl [] .ti,.sl [] .ti,.int .u8 0]):=Ap;have e2:(Hc++[Blk.cel 0 (cSp S[i])])[Hc.length]? = some (.cel 0 (cSp S[i])):=Ap;have hst:Ae 3 (.ptr Hc.length 0 0) (.agg (cSp S[i])) (Hc++[Blk.cel 0 [Ab.sl [] .ti,.sl [] .ti,.int .u8 0]])=some (Hc++[Blk.cel 0 (cSp S[i])]):=by
  rw[Gc (sz:=3) (ws:=cSp S[i]) e1 rfl rfl rfl,Ba]
 have ldA:Ad true 3 (.cptr (cSp S[i]) 0) Hc=some (.agg (cSp S[i])):=rfl;have ld0:Ad false 1 (.ptr Hc.length 0 0) (Hc++[Blk.cel 0 (cSp S[i])])=some (.sl (enL cU (A6 S[i].a)) .no):=by rw[BH e2];rfl
 have ld1:Ad false 1 (.ptr Hc.length 0 1) (Hc++[Blk.cel 0 (cSp S[i])])=some (.sl (enL cU (A6 S[i].b)) .no):=by rw[BH e2];rfl
 have ldG:Ad true 3 (.ptr Hc.length 0 0) (Hc++[Blk.cel 0 (cSp S[i])])=some (.agg (cSp S[i])):=Et e2 rfl;have hal:Ax (some [(.sl [] .ti),(.sl [] .ti),(.int .u8 0)]) Hc=some (.ptr Hc.length 0 0,Hc++[.cel 0 [Ab.sl [] .ti,.sl [] .ti,.int .u8 0]]):=alloc_eq rfl;have dE:=HI (K:=.i64) (id:=B.length) (g:=0) (o:=0) hlt;rw[UJ]at dE;have w2:IntKind.i64.wrap (0+1)=1:=rfl;have w3:IntKind.i64.wrap (0+2)=2:=rfl;have w4:IntKind.i64.wrap (1+2)=3:=rfl;refine⟨up W (qOf v S[i]) w',T',H1.set B.length (.cel 0 [up W (qOf v S[i]) w' 0,up W (qOf v S[i]) w' 1,up W (qOf v S[i]) w' 2,up W (qOf v S[i]) w' 3]),λrec=>?_,?_,?_,?_⟩
 ·unfold Sh.f2t Sh.f8k Sh.f8j;simp only[GMw,d1,Ay,A4 hi,ldA,hal,hst,AI,Ah,UJ,ld0,w1,bx];have fin:∀k:Int,k=((qOf v S[i]:Nat):Int)->(B8 4 1 (.ptr B.length 0 0) (.i6 k))=some (.ptr B.length 0 (qOf v S[i])):=λk hk=>by rw[hk];exact dE
  cases hA:S[i].a.testBit v with
  | true=>
   cases hB:S[i].b.testBit v with
   | true=>
    have f:=fin 3 (by unfold qOf;rw[hA,hB];rfl);simp only[GMw,w2,ld1,bY,hB,w4,f,a1,ldG,Mx,a2,a3,AC,hw,An,Ai,Bb,Bd,B7,Cb,DL]
   | false=>
    have f:=fin 1 (by unfold qOf;rw[hA,hB];rfl);simp only[GMw,w2,ld1,bY,hB,f,a1,ldG,Mx,a2,a3,AC,hw,An,Ai,Bb,Bd,B7,Cb,DL]
  | false=>
   cases hB:S[i].b.testBit v with
   | true=>
    have f:=fin 2 (by unfold qOf;rw[hA,hB];rfl);simp only[GMw,w3,ld1,bY,hB,f,a1,ldG,Mx,a2,a3,AC,hw,An,Ai,Bb,Bd,B7,Cb,DL]
   | false=>
    have f:=fin 0 (by unfold qOf;rw[hA,hB];rfl);simp only[GMw,ld1,bY,hB,f,a1,ldG,Mx,a2,a3,AC,hw,An,Ai,Bb,Bd,B7,Cb,DL]
 ·have hs:(λk=>qSp v k (S.take (i+1)))=up (λk=>qSp v k (S.take i)) (qOf v S[i]) (qSp v (qOf v S[i]) (S.take i)++[S[i]]):=by
   funext k
   rw[UR hi,qSp_snoc];unfold up;by_cases h:k=qOf v S[i]
   ·rw[if_pos h,if_pos h,h]
   ·rw[if_neg h,if_neg h]
  rw[hs];exact a4
 ·rw[zYa];simp at a5;omega
 ·intro j hj;rw[UI (by omega),a6 j hj,UL (by omega)];exact hold j hj
def K6 (v:Nat)(S:List Sp):Nat->Nat
 | 0=>0
 | k+1=>K6 v S k+(qSp v k S).length
theorem PF (v:Nat):∀S:List Sp,K6 v S 4=S.length
 | []=>by simp[K6,qSp]
 | p::S=>by
  have ih:=PF v S;have hq:=qOf_lt v p;simp only[K6,qSp,VA,zXj]at ih ⊢;generalize qOf v p=q at hq
  match q,hq with
  | 0,_=>simp;omega
  | 1,_=>simp;omega
  | 2,_=>simp;omega
  | 3,_=>simp;omega
theorem U7 (v:Nat)(S:List Sp){k:Nat}(h:k<=4):K6 v S k<=S.length:=by
 have h4:=PF v S
 match k,h with
 | 0,_=>simp[K6]
 | 1,_=>simp only[K6]at h4 ⊢;omega
 | 2,_=>simp only[K6]at h4 ⊢;omega
 | 3,_=>simp only[K6]at h4 ⊢;omega
 | 4,_=>omega

mutual
theorem lay_len:∀(v:Nat) (out:List Nd) (S:List Sp),(CD v out S).1.length<=out.length+S.length*v
 | 0,out,S=>by simp[CD]
 | v+1,out,S=>by
  unfold CD;split
  ·simp
  ·rename_i hS;have h:=QL v out S 4 (UK _);have hpos:0<S.length:=Vq.2 hS;have:K6 v S 4*v<=S.length*v:=Vw _ (U7 v S (UK _));simp only[UO,zXi,Nat.mul_succ];omega
theorem QL:∀(v:Nat) (out:List Nd) (S:List Sp) (k:Nat),k<=4->(lyK (CD v) v S k out).1.length<=out.length+K6 v S k*v
 | v,out,S,0,_=>by simp[lyK,K6]
 | v,out,S,k+1,hk=>by
  have h:=QL v out S k (by omega);unfold lyK;split
  ·rename_i h0;subst h0;dsimp only;omega
  ·have h2:=lay_len v (lyK (CD v) v S k out).1 (qSp v k S);dsimp only;have:K6 v S (k+1)*v=K6 v S k*v+(qSp v k S).length*v:=by
    show (K6 v S k+(qSp v k S).length)*v=_;rw[V4]
   omega

end
theorem lyK_kid (rec:List Nd->List Sp->List Nd×Nat)(v:Nat)(S:List Sp)(out:List Nd):∀k,k<=4->∀j,k<=j->j<4->(lyK rec v S k out).2.kid j=0
 | 0,_,j,_,h4=>by
  match j,h4 with
  | 0,_=>rfl
  | 1,_=>rfl
  | 2,_=>rfl
  | 3,_=>rfl
 | k+1,hk,j,hj,h4=>by
  unfold lyK;split
  ·rw[G0 _ _ (by omega) h4 (by omega)];exact lyK_kid rec v S out k (by omega) j (by omega) h4
  ·rw[G0 _ _ (by omega) h4 (by omega)];exact lyK_kid rec v S out k (by omega) j (by omega) h4
theorem setKid_id (x:Nd){k:Nat}(hk:k<4)(h:x.kid k=0):x.setKid k 0=x:=by
 match k,hk with
 | 0,_=>simp only[Nd.kid]at h;unfold Nd.setKid;cases x;simp_all
 | 1,_=>simp only[Nd.kid]at h;unfold Nd.setKid;cases x;simp_all
 | 2,_=>simp only[Nd.kid]at h;unfold Nd.setKid;cases x;simp_all
 | 3,_=>simp only[Nd.kid]at h;unfold Nd.setKid;cases x;simp_all
theorem PS.same {b:Nat}{out:List Nd}{v:Ab}{H H':Aa}(h:PS b out v H)(hs:∀i,i<H.length->H'[i]? = H[i]?):PS b out v H':=by
 rcases h with h1 | ⟨t,h1,h2,h3⟩
 ·exact .inl h1
 ·exact .inr ⟨t,h1,h2,by rw[hs t (UH.1 h3).1];exact h3⟩
def LayOk (b pb n:Nat)(self:Ab->Ab->Ab->Aa->Out):Prop:=
 ∀(out:List Nd) (w:Ab) (S:List Sp) (tk:Tok) (H:Aa),H[pb]? = some (.cel 0 [w])->PS b out w H->b<=H.length->(∀p∈S,SpOk p)->S.length<1000000000->out.length+S.length*n<3518437208880 ->
  ∃H' w',self (.ptr pb 0 0) (.i6 (n:Int)) (.sl (enL cSp S) tk) H=some (.ret (.i6 ((CD n out S).2:Int)),H')/\H'[pb]? = some (.cel 0 [w'])/\PS b (CD n out S).1 w' H'/\Ext b pb H H'
theorem nd_new (v:Nat):Az (some [(.i6 0),(.i6 0),(.i6 0),(.i6 0),(.i6 0)]) [(0,1,.i6 (v:Int))]=some (.agg (cNd ⟨(v:Int),0,0,0,0⟩)):=by
 simp[Az,Gp,Dc,cNd]
theorem lay_kid {b pb q v k:Nat}{self:Ab->Ab->Ab->Aa->Out}{out:List Nd}{S:List Sp}{H Hd:Aa}{W:Nat->Ab}{w:Ab}(cD:v=0\/LayOk b pb v self)(hv:v<100000)(hk:k<4)
  (hW:∃tk,W k=.sl (enL cSp (qSp v k S)) tk)(hok:∀p∈S,SpOk p)(hS:S.length<1000000000)(hlen:out.length+S.length*v<3518437208880)(sK:b<=pb)(uJ:q≠pb)(Yw:b<=q)
  (f1:Hd[pb]? = some (.cel 0 [w]))(f2:PS b (lyK (CD v) v S k out).1 w Hd)(f3:Hd[q]? = some (.cel 0 (cNd (lyK (CD v) v S k out).2))) :
  ∃w' He,(∀rec:LK,Sh.f1g H self rec (.ptr pb 0 0) (.i6 ((v+1:Nat):Int)) (.ptr q 0 0) (.agg [W 0,W 1,W 2,W 3]) (.i6 (k:Int)) Hd=rec [.ptr pb 0 0,.i6 ((v+1:Nat):Int),.ptr q 0 0,.agg [W 0,W 1,W 2,W 3],.i6 ((k+1:Nat):Int)] He) /\
   He[pb]? = some (.cel 0 [w'])/\PS b (lyK (CD v) v S (k+1) out).1 w' He/\He[q]? = some (.cel 0 (cNd (lyK (CD v) v S (k+1) out).2))/\Hd.length<=He.length/\(∀(i:Nat) (cs:List Ab),i≠pb->i≠q->Hd[i]? = some (.cel 0 cs)->He[i]? = some (.cel 0 cs))/\∀i,i<b->He[i]? = Hd[i]? := by
 obtain⟨tk,hW⟩:=hW;have hk':decide ((k:Int)<4)=true:=zXc (by omega);have aW:pb<Hd.length:=(UH.1 f1).1;have hql:q<Hd.length:=(UH.1 f3).1;have wM:Ju false 4 1 (.agg [W 0,W 1,W 2,W 3]) (.i6 (k:Int))=some (W k):=by
  match k,hk with
  | 0,_=>rfl
  | 1,_=>rfl
  | 2,_=>rfl
  | 3,_=>rfl
 have hw:=As (show k<9223372036854775807 by omega);have w1:IntKind.i64.wrap (((v+1:Nat):Int)-1)=(v:Int):=by rw[Ao] <;> omega
 have dE:=HI (K:=.i64) (id:=q) (g:=0) (o:=1) hk;rcases WC v with h0 | h0
 ·subst h0;have d1:decide (((0+1:Nat):Int)>1)=false:=rfl;have e:lyK (CD 0) 0 S (k+1) out=((lyK (CD 0) 0 S k out).1,(lyK (CD 0) 0 S k out).2.setKid k (headP (qSp 0 k S))):=rfl;rw[e];cases hq:qSp 0 k S with
  | nil=>
   rw[hq]at hW;have hid:=setKid_id _ hk (lyK_kid (CD 0) 0 S out k (by omega) k (UK _) hk);refine⟨w,Hd,λrec=>?_,f1,f2,?_,UK _,λ_ _ _ _ h=>h,λ_ _=>rfl⟩
   ·unfold Sh.f1g;have hl0:A7 (.sl (enL cSp []) tk)=some (.i6 0):=rfl;have d2:decide ((0:Int)>0)=false:=rfl;simp only[GMw,hk',wM,d1,hW,hl0,d2,hw]
   ·show Hd[q]? = some (.cel 0 (cNd ((lyK (CD 0) 0 S k out).2.setKid k 0)));rw[hid];exact f3
  | cons s r=>
   rw[hq]at hW;have hst:=EW (c:=(s.s.toNat:Int)) f3 hk;refine⟨w,Hd.set q (.cel 0 (cNd ((lyK (CD 0) 0 S k out).2.setKid k (s.s.toNat:Int)))),λrec=>?_,?_,f2.put f3,?_,by simp,λi cs h1 h2 h=>?_,λi hi=>?_⟩
   ·have cT:decide (((s::r).length:Int)>0)=true:=zXc (by simp only[zXj];omega);have jJ:Aw 3 (.sl (enL cSp (s::r)) tk) (.i6 0)=some (.cptr (cSp s) 0):=A4 (f:=cSp) (l:=s::r) (i:=0) (K:=.i64) (by simp);have hld:∀K,Ad false 1 (.cptr (cSp s) 2) K=some (.int .u8 (s.s.toNat:Int)):=λ_=>rfl;have hc:AA .i64 (.int .u8 (s.s.toNat:Int))=some (.i6 (s.s.toNat:Int)):=by
     have:=s.s.toNat_lt;rw[Bl,Ao (by omega) (by omega)]
    unfold Sh.f1g;simp only[GMw,hk',wM,d1,hW,Ay,cT,jJ,Au,Ah,UJ,hld,hc,dE,hst,AC,hw]
   ·rw[UI uJ];exact f1
   ·rw[UT hql];rfl
   ·rw[UI (Ne.symm h2)];exact h
   ·rw[UI (by omega)]
 ·obtain cD:=cD.resolve_left (by omega);have d1:decide (((v+1:Nat):Int)>1)=true:=zXc (by omega);have cX:=QL v out S k (by omega);have kX:K6 v S (k+1)*v=K6 v S k*v+(qSp v k S).length*v:=by
   show (K6 v S k+(qSp v k S).length)*v=_;rw[V4]
  have nC:K6 v S (k+1)*v<=S.length*v:=Vw _ (U7 v S (by omega));obtain⟨H1,w',r1,r2,r3,r4⟩:=cD (lyK (CD v) v S k out).1 w (qSp v k S) tk Hd f1 f2 (by omega) (λp hp=>hok p (Wz.1 hp).1) (V8 (We _ _) hS) (by omega);have f3':=r4.cel q _ uJ f3;have hst:=EW (c:=((CD v (lyK (CD v) v S k out).1 (qSp v k S)).2:Int)) f3' hk;have uL:q<H1.length:=(UH.1 f3').1;have e:lyK (CD v) v S (k+1) out=((CD v (lyK (CD v) v S k out).1 (qSp v k S)).1,(lyK (CD v) v S k out).2.setKid k ((CD v (lyK (CD v) v S k out).1 (qSp v k S)).2:Int)):=by
   conv=>lhs;unfold lyK
   rw[if_neg (by omega)]
  rw[e];refine⟨w',H1.set q (.cel 0 (cNd ((lyK (CD v) v S k out).2.setKid k ((CD v (lyK (CD v) v S k out).1 (qSp v k S)).2:Int)))),λrec=>?_,?_,r3.put f3',?_,by rw[zYa];exact r4.len,λi cs h1 h2 h=>?_,λi hi=>?_⟩
  ·unfold Sh.f1g;simp only[GMw,hk',wM,d1,hW,w1,r1,Ah,UJ,dE,hst,AC,hw]
  ·rw[UI uJ];exact r2
  ·rw[UT uL]
  ·rw[UI (Ne.symm h2)];exact r4.cel i cs h1 h
  ·rw[UI (by omega)];exact r4.old i hi
theorem lay_step {b pb v:Nat}{self:Ab->Ab->Ab->Aa->Out}(cD:v=0\/LayOk b pb v self)(hv:v<100000)(sK:b<=pb):LayOk b pb (v+1) (Sh.f7q self):=by
 intro out w S tk H f1 f2 hb hok hS hlen;have aW:pb<H.length:=(UH.1 f1).1;unfold Sh.f7q CD;by_cases h0:S=[]
 ·subst h0;refine⟨H,w,?_,f1,f2,Ext.refl _ _ _⟩;simp
 ·rw[if_neg h0];have hpos:=Vq.2 h0;have hne:decide ((S.length:Int)=0)=false:=zXd (by omega);have nW:((S.length:Int) == 0)=false:=by rw[beq_eq_false_iff_ne];omega
  have hal:Ax (some [(.sl [] .ti),(.sl [] .ti),(.sl [] .ti),(.sl [] .ti)]) H=some (.ptr H.length 0 0,H++[.cel 0 [Ab.sl [] .ti,.sl [] .ti,.sl [] .ti,.sl [] .ti]]):=alloc_eq rfl;simp only[GMw,Ay,hne,nW,hal];have hQ0:Q4 H.length H.length (λk=>qSp v k (S.take 0)) (λ_=>.sl [] .ti) (λ_=>0) (H++[.cel 0 [Ab.sl [] .ti,.sl [] .ti,.sl [] .ti,.sl [] .ti]]):=
   ⟨Ap,λk hk=>.inl ⟨rfl,rfl⟩,λi j _ _ _ h=>absurd rfl h⟩
  have loop:=G5 (G:=λrec1 vs H1=>Sh.f2t H self rec1 (ag vs 0) (ag vs 1) (ag vs 2) (ag vs 3) (ag vs 4) (ag vs 5) H1) S.length
   (λi vs Hc=>vs=[.ptr pb 0 0,.i6 ((v+1:Nat):Int),.ptr H.length 0 0,.sl (enL cSp S) tk,.i6 (S.length:Int),.i6 (i:Int)]/\∃W T,Q4 H.length H.length (λk=>qSp v k (S.take i)) W T Hc/\H.length<=Hc.length/\∀i,i<H.length->Hc[i]? = H[i]?)
   (by omega) (λi vs Hc hi hI=>?_) (vs:=[.ptr pb 0 0,.i6 ((v+1:Nat):Int),.ptr H.length 0 0,.sl (enL cSp S) tk,.i6 (S.length:Int),.i6 0]) (H:=H++[.cel 0 [Ab.sl [] .ti,.sl [] .ti,.sl [] .ti,.sl [] .ti]])
   ⟨rfl,_,_,hQ0,by simp,λi hi=>UL hi⟩
  ·obtain⟨vs,Hc,⟨rfl,W,T,hQ,hl,hold⟩,rec,aB⟩:=loop;rw[Vs]at hQ;rw[aB];have d1:decide ((S.length:Int)<(S.length:Int))=false:=zXd (by omega);have wL:Ax (some [(.i6 0),(.i6 0),(.i6 0),(.i6 0),(.i6 0)]) Hc=some (.ptr Hc.length 0 0,Hc++[.cel 0 [Ab.i6 0,.i6 0,.i6 0,.i6 0,.i6 0]]):=alloc_eq rfl;have hst:Ae 5 (.ptr Hc.length 0 0) (.agg (cNd ⟨((v+1:Nat):Int),0,0,0,0⟩)) (Hc++[.cel 0 [Ab.i6 0,.i6 0,.i6 0,.i6 0,.i6 0]])=some (Hc++[.cel 0 (cNd ⟨((v+1:Nat):Int),0,0,0,0⟩)]):=by
    rw[J5 Ap rfl,Ba]
   have vJ:Ad true 4 (.ptr H.length 0 0) (Hc++[.cel 0 (cNd ⟨((v+1:Nat):Int),0,0,0,0⟩)])=some (.agg [W 0,W 1,W 2,W 3]):=Et (A0 hQ.blk) rfl;have Yr:H.length<Hc.length:=(UH.1 hQ.blk).1;have hWr:∀k,k<4->∃tk,W k=.sl (enL cSp (qSp v k S)) tk:=λk hk=>by
    rcases hQ.row k hk with ⟨q1,q2⟩ | ⟨_,_,q2,_⟩
    ·exact⟨.ti,by rw[q2,show qSp v k S=[] from q1];rfl⟩
    ·exact⟨_,q2⟩
   have qZ:out.length+S.length*v<3518437208880:=by rw[Nat.mul_succ]at hlen;omega
   have loop2:=G5 (G:=λeG vs H1=>Sh.f1g H self eG (ag vs 0) (ag vs 1) (ag vs 2) (ag vs 3) (ag vs 4) H1) 4
    (λk vs Hd=>vs=[.ptr pb 0 0,.i6 ((v+1:Nat):Int),.ptr Hc.length 0 0,.agg [W 0,W 1,W 2,W 3],.i6 (k:Int)]/\∃w',Hd[pb]? = some (.cel 0 [w'])/\PS b (lyK (CD v) v S k out).1 w' Hd/\Hd[Hc.length]? = some (.cel 0 (cNd (lyK (CD v) v S k out).2))/\Hc.length<=Hd.length/\(∀(i:Nat) (cs:List Ab),i≠pb->i<H.length->H[i]? = some (.cel 0 cs)->Hd[i]? = some (.cel 0 cs))/\∀i,i<b->Hd[i]? = H[i]?)
    (by decide) (λk vs Hd hk hI=>?_) (vs:=[.ptr pb 0 0,.i6 ((v+1:Nat):Int),.ptr Hc.length 0 0,.agg [W 0,W 1,W 2,W 3],.i6 0]) (H:=Hc++[.cel 0 (cNd ⟨((v+1:Nat):Int),0,0,0,0⟩)])
    ⟨rfl,w,by rw[UL (by omega),hold pb aW];exact f1,f2.same λi hi=>by rw[UL (by omega)];exact hold i hi,by simp[lyK],by simp,λi cs _ hi hc=>by rw[UL (by omega),hold i hi];exact hc,λi hi=>by rw[UL (by omega)];exact hold i (by omega)⟩
   ·obtain⟨vs,Hd,⟨rfl,w1,g1,g2,g3,g4,g5,g6⟩,aA,hloop2⟩:=loop2;have hlk:=QL v out S 4 (UK _);rw[PF]at hlk;obtain⟨w2,H2,a1,a2,a3⟩:=g2.snoc (show b<=Hd.length by omega) (lyK (CD v) v S 4 out).2 (by omega);have wS:=a3.cel pb _ g1;have qJ:=(UH.1 wS).1;obtain⟨tk2,cA⟩:=a2.sl;have dD:=EX (v:=w2) (o:=0) wS (by rw[cA];rfl) (by simp);have oD:Ad false 1 (.ptr pb 0 0) Hd=some w1:=by rw[BH g1];rfl
    have dS:Ad false 1 (.ptr pb 0 0) (H2.set pb (.cel 0 ([w1].set 0 w2)))=some w2:=by rw[BH (cs:=[w1].set 0 w2) (UT qJ)];rfl
    have vK:=HG g3;have hlen2:A7 w2=some (.i6 (((lyK (CD v) v S 4 out).1.length+1:Nat):Int)):=by rw[cA,Ay,UO,zXi]
    have d4:decide (((4:Nat):Int)<4)=false:=rfl;refine⟨H2.set pb (.cel 0 ([w1].set 0 w2)),w2,?_,by rw[UT qJ];rfl,a2.put wS,⟨?_,λi cs hi hc=>?_,λi hi=>?_⟩⟩
    ·unfold Sh.f2t;simp only[An,Ai,Bb,Bd,B7,Cb,DL,GMw,d1,nd_new,wL,hst,AC,vJ];rw[hloop2];unfold Sh.f1g;simp only[An,Ai,Bb,Bd,B7,Cb,DL,GMw,d4,nil_ptr,Ah,UJ,oD,vK,Kb,a1,dD,AC,dS,hlen2]
    ·rw[zYa];have:=a3.len;omega
    ·rw[UI (Ne.symm hi)];exact a3.cel i cs (g5 i cs hi (UH.1 hc).1 hc)
    ·rw[UI (by omega),a3.old i hi];exact g6 i hi
   ·obtain⟨rfl,w1,g1,g2,g3,g4,g5,g6⟩:=hI;obtain⟨w',He,t1,t2,t3,t4,t5,t6,t7⟩:=lay_kid (H:=H) (W:=W) cD hv hk (hWr k hk) hok hS qZ sK (show Hc.length≠pb by omega) (by omega) g1 g2 g3;exact⟨_,He,⟨rfl,w',t2,t3,t4,by omega,λi cs hi hl hc=>t6 i cs hi (by omega) (g5 i cs hi hl hc),λi hi=>(t7 i hi).trans (g6 i hi)⟩,t1⟩
  ·obtain⟨rfl,W,T,hQ,hl,hold⟩:=hI;obtain⟨W',T',Hd,t1,t2,t3,t4⟩:=lay_turn (self:=self) (pb:=pb) (tk:=tk) (H:=H) hi hok hS hv rfl hQ hl hold;exact⟨_,Hd,⟨rfl,W',T',t2,t3,t4⟩,t1⟩
theorem lay_ok {b pb:Nat}(sK:b<=pb):∀(n d:Nat),n<d->n<100000->1<=n->LayOk b pb n (Sh.f24 d)
 | 0,_,_,_,h=>by omega
 | n+1,d,hd,hn,_=>by
  obtain⟨d,rfl⟩:∃e,d=e+1:=⟨d-1,by omega⟩;refine lay_step (v:=n) ?_ (by omega) sK;rcases WC n with h | h
  ·exact .inl h
  ·exact .inr (lay_ok sK n d (by omega) (by omega) h)
end Go.Gm
