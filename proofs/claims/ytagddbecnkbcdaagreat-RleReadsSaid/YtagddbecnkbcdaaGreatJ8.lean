/- Texts of this proof, joined. -/
import Derived.Test.YtagddbecnkbcdaaGreatJ5
import Derived.Test.YtagddbecnkbcdaaGreatJ6
import Derived.Test.YtagddbecnkbcdaaGreatJ7
import Derived.Lib.ItoaNum
import Derived.Lib.Repeat
import Derived.Lib.Join
import Derived.Lib.TrimByte
import Derived.Laws.RangeAny
import Derived.Laws.RangeString
set_option linter.all false
noncomputable section
namespace Go.Gm
def Ci (H:Aa)(p:Nat)(b:zAa)(r:List Ab)(a:Nat):Aa:=H.set p (.c0 (.str b::.i6 (a:Int)::r))
def Ec {H:Aa}{p a:Nat}{b:zAa}{r:List Ab}(h:Lx H p b a r):Ci H p b r a=H:=by
 unfold Ci;apply Xm;intro i;by_cases e:p=i
 ·subst e;have:p<H.length:=by rcases W4 p H.length with h' | h';exact h';unfold Lx at h;rw[zYa h']at h;cases h
  rw[VX this];exact h.symm
 rw[VH e]
theorem GA {H:Aa}{p a a':Nat}{b:zAa}{r:List Ab}(h:Lx H p b a r):Lx (Ci H p b r a') p b a' r:=Vn8 h
def UG (H:Aa)(p a a':Nat)(b:zAa)(r r':List Ab):Ci (Ci H p b r a) p b r' a'=Ci H p b r' a':=by unfold Ci;rw[Yr]
def VbJ (H:Aa)(p a:Nat)(b:zAa)(r:List Ab):(Ci H p b r a).length=H.length:=by unfold Ci;simp
def KK {H:Aa}{p a a':Nat}{b:zAa}{r:List Ab}(h:Lx H p b a r)(n:Nat):Ae 1 (.ptr p 0 1) (.i6 (n:Int)) (Ci H p b r a')=some (Ci H p b r n):=by rw[N6 (GA h)];exact zYg some (UG H p a' n b r r)
def L4 (b:zAa)(a:Nat):Nat:=a+((b.drop a).takeWhile λc=>!([13,10]:zAa).contains c).length
def VC {b:zAa}{a:Nat}(h:a<b.length):L4 b a=if AE b a [13,10]then a else L4 b (a+1):=by unfold L4 AE;rw[VG h,Wl h,Xx];cases hc:([13,10]:zAa).contains b[a]with|true=>simp only[hc,Wp,zYd,zYe,VL,zXk,Nat.add_zero]|false=>simp only[hc,W8,zYd,zYe,VL,zXj];omega
def VcU {b:zAa}:L4 b b.length=b.length:=by simp[L4]
def VnA {H:Aa}{p a:Nat}{b:zAa}{r:List Ab}(h:Lx H p b a r)(ha:a<=b.length)(hb:b.length<1152921504606846976):UbX (.ptr p 0 0) H=some (.ret (.tup []),Ci H p b r (L4 b a)):=by
 unfold UbX;have key:=Bf (G:=λrec1 vs H1=>Uea H rec1 (ag vs 0) H1) (σ:=Nat) (λi=>i<=b.length) (λ_=>[.ptr p 0 0]) (λi=>Ci H p b r i) (λi=>b.length-i)
  (λi=>some (.ret (.tup []),Ci H p b r (L4 b i))) (λi rec hi hrec=>?_) a ha (by omega)
 rw[Ec h]at key;exact key;unfold Uea;have hx:=GA (a':=i) h;simp only[GMw,IT hx];by_cases e:i=b.length;simp only[e,GMw,VcU];have hlt:i<b.length:=(by omega);simp only[e,GMw,E5 hx hi];rw[VC hlt];cases hc:AE b i [13,10]with|true=>simp only[GMw]|false=>simp only[GMw,Ah,Aj,VK,Gl hx,Ar (show i<9223372036854775807 by omega),KK h];exact hrec (i+1) (by omega) (by omega)
def QH (b:zAa)(a:Nat)(s:zAa):Ab:=if a=b.length then Th 3 s else Th 2 []
def crN (b:zAa)(a:Nat):Nat:=if AE b a [13]then a+1 else a
def Ca {b s:zAa}{a:Nat}(h:AE b a s=true):a<b.length:=by rcases W4 a b.length with h' | h';exact h';unfold AE at h;rw[zYa h']at h;cases h
def Voh {b:zAa}{a:Nat}(ha:a<=b.length):crN b a<=b.length:=by unfold crN;cases hs:AE b a [13]with|true=>exact Ca hs|false=>exact ha
def VpM (H:Aa)(p:Nat)(b:zAa)(r:List Ab)(a:Nat)(rest:zAa):Out:=
 if a=b.length then some (.ret (.tup []),H)
 else if AE b (crN b a) [10]then some (.ret (.tup []),Ci H p b r (crN b a+1))
 else some (.pan (QH b (crN b a) (10::rest)),Ci H p b r (crN b a))
def Vn9 {H:Aa}{p a:Nat}{b:zAa}{r:List Ab}(h:Lx H p b a r)(ha:a<=b.length)(hb:b.length<1152921504606846976)(rest:zAa)(hr:rest.length<=1000000):Ua5 (.ptr p 0 0) (.str rest) H=VpM H p b r a rest:=by
 unfold Ua5 VpM;simp only[GMw,IT h];by_cases e:a=b.length;simp only[e,GMw]
 ·have key:∀c,c<=b.length->Ueb H (.ptr p 0 0) (.str rest) (Ci H p b r c)=if AE b c [10]then some (.ret (.tup []),Ci H p b r (c+1))else some (.pan (QH b c (10::rest)),Ci H p b r c):=by
   intro c hc;have hx:=GA (a':=c) h;unfold Ueb;simp only[GMw,E5 hx hc];cases hs:AE b c [10]with
   |true=>unfold UeO;simp only[GMw,Ah,Aj,VK,Gl hx,Ar (show c<9223372036854775807 by omega),KK h]
   |false=>
    have iK:Af .n .add (.str [10]) (.str rest)=some (.str (10::rest)):=Dj (by simp only[zXj,zXk];omega);simp only[GMw,iK,N5 hx]
    rfl
  simp only[e,GMw,E5 h ha];unfold crN;cases hs:AE b a [13]with|true=>have hlt:a<b.length:=(by omega);have hm:=KK (a':=a) h (a+1);rw[Ec h]at hm;simp only[GMw,Ah,Aj,VK,Gl h,Ar (show a<9223372036854775807 by omega),hm];exact key (a+1) (by omega)|false=>have:=key a ha;rw[Ec h]at this;simp only[GMw];rw[Ec h];exact this
def cpN:zAa->zAa->Nat
 |a::l,b::m=>if a=b then cpN l m+1 else 0
 |_,_=>0
theorem Hz:∀a b:zAa,cpN a b<=a.length/\cpN a b<=b.length
 |[],_=>⟨Wi _,Wi _⟩
 |_::_,[]=>⟨Wi _,Wi _⟩
 |a::l,b::m=>by have:=Hz l m;unfold cpN;by_cases h:a=b;rw[zYc h];simp only[zXj];omega;rw[zYb h];exact⟨Wi _,Wi _⟩
theorem Vbp:∀(a b:zAa)(i:Nat),i<cpN a b->a[i]? = b[i]?
 |[],_,i,h=>by simp[cpN]at h
 |_::_,[],i,h=>by simp[cpN]at h
 |a::l,b::m,i,h=>by
  unfold cpN at h;by_cases e:a=b;rw[zYc e]at h;cases i with|zero=>simp[e]|succ i=>simpa using Vbp l m i (by omega)
  rw[zYb e]at h;omega
def T8:∀(a b:zAa),cpN a b<a.length->cpN a b<b.length->a[cpN a b]? ≠ b[cpN a b]?
 |[],_,h,_=>by simp[cpN]at h
 |_::_,[],_,h=>by simp[cpN]at h
 |a::l,b::m,h,h2=>by by_cases e:a=b;have ec:cpN (a::l) (b::m)=cpN l m+1:=(by rw[cpN,zYc e]);rw[ec]at h h2⊢;simpa using T8 l m (by simpa using h) (by simpa using h2);have ec:cpN (a::l) (b::m)=0:=(by rw[cpN,zYb e]);rw[ec];simpa using e
def VhR (a b:zAa)(H:Aa)(ha:a.length<1152921504606846976):UbY (.str a) (.str b) H=some (.ret (.i6 (cpN a b:Int)),H):=by
 unfold UbY;have hm:(min (a.length:Int) (b.length:Int))=((min a.length b.length:Nat):Int):=by omega
 have hle:=Hz a b;have l1:BG (.str a)=some (.i6 (a.length:Int)):=rfl;have l2:BG (.str b)=some (.i6 (b.length:Int)):=rfl;simp only[GMw,l1,l2,Vls,hm];have key:=Bf (G:=λrec1 vs H1=>Uec H rec1 (ag vs 0) (ag vs 1) (ag vs 2) (ag vs 3) (ag vs 4) H1) (σ:=Nat) (λi=>i<=cpN a b)
  (λi=>[.str a,.str b,.i6 ((min a.length b.length:Nat):Int),.i6 ((min a.length b.length:Nat):Int),.i6 (i:Int)]) (λ_=>H) (λi=>cpN a b-i)
  (λ_=>some (.ret (.i6 (cpN a b:Int)),H)) (λi rec hi hrec=>?_) 0 (Wi _) (by omega)
 exact key;unfold Uec;by_cases hlt:i<min a.length b.length;have hlt':(i:Int)<((min a.length b.length:Nat):Int):=(by omega);have h1:i<a.length:=(by omega);have h2:i<b.length:=(by omega);simp only[GMw,Ak,hlt',AQ h1,AQ h2];by_cases e:i=cpN a b;have hne:=T8 a b (by omega) (by omega);rw[<-e,VG h1,VG h2]at hne;have hn:¬((a[i].toNat:Int)=(b[i].toNat:Int)):=λhc=>hne (zYg some (Xt.1 (by omega)));simp only[hn,GMw];rw[e];have hg:=Vbp a b i (by omega);rw[VG h1,VG h2]at hg;have hg':=Xf hg;simp only[hg',GMw,Ar (show i<9223372036854775807 by omega)];exact hrec (i+1) (by omega) (by omega);have hlt':¬(i:Int)<((min a.length b.length:Nat):Int):=(by omega);simp only[GMw,Ak,hlt'];have:min a.length b.length=cpN a b:=(by omega);rw[this]
def Vlo (H:Aa)(p:Nat)(b:zAa)(r:List Ab)(a:Nat)(s rest:zAa):Out:=
 if cpN (b.drop a) s<s.length then some (.pan (QH b (a+cpN (b.drop a) s) (s.drop (cpN (b.drop a) s)++rest)),Ci H p b r (a+cpN (b.drop a) s))
 else some (.ret (.tup []),Ci H p b r (a+cpN (b.drop a) s))
def Vlx {H:Aa}{p a:Nat}{b:zAa}{r:List Ab}(h:Lx H p b a r)(ha:a<=b.length)(hb:b.length<1152921504606846976)(s rest:zAa)(hs:s.length<=1000000)(hr:rest.length<=1000000):Uf8 (.ptr p 0 0) (.str s) (.str rest) H=Vlo H p b r a s rest:=by
 unfold Uf8 Vlo;have hle:=Hz (b.drop a) s;have hd:(b.drop a).length=b.length-a:=Wd;have hq:=VhR (b.drop a) s H (by omega);have l2:BG (.str s)=some (.i6 (s.length:Int)):=rfl;generalize cpN (b.drop a) s=n at hq hle⊢;have hw:I_.wrap ((a:Int)+(n:Int))=((a+n:Nat):Int):=by rw[Am]<;>omega
 have hm:=KK (a':=a) h (a+n);rw[Ec h]at hm;have hx:=GA (a':=a+n) h;simp only[GMw,Ah,Aj,VK,Rj h,Gl h,D0 ha,hq,hw,hm,l2];by_cases hc:n<s.length
 ·have cE:(n:Int)<(s.length:Int):=by omega
  have iK:Af .n .add (.str (s.drop n)) (.str rest)=some (.str (s.drop n++rest)):=Dj (by rw[Wd];omega);simp only[cE,GMw,D0 hle.2,iK,N5 hx,zYc hc]
  rfl
 ·have cE:¬(n:Int)<(s.length:Int):=by omega
  simp only[cE,GMw,zYb hc]
def AP (b:zAa)(a:Nat)(e:Int):List Ab:=[.str b,.i6 (a:Int),.i6 e]
abbrev Bq (b:zAa)(a:Nat)(e:Int):Ab:=.agg (AP b a e)
def Ed (b:zAa)(a:Nat)(e:Int)(H:Aa):UdB (Bq b a e) H=some (.ret (.bool (decide (b.length<=a))),H):=by
 unfold UdB Bq AP;simp only[GMw,HPw,Nat.reduceAdd];have:decide ((a:Int)>=(b.length:Int))=decide (b.length<=a):=by rw[VZ];simp
 rw[this]
def Ig (b:zAa)(a:Nat):Int:=if b.length<=a then 3 else 2
def FT (b:zAa)(a:Nat)(e:Int)(H:Aa):Uda (Bq b a e) H=some (.ret (Bq b a (Ig b a)),H):=by unfold Uda Bq AP Ig;have he:=λe H=>Ed b a e H;unfold Bq AP at he;simp only[GMw,HPw,Nat.reduceAdd,Nat.reduceLT,he];by_cases h:b.length<=a;simp only[h,GMw,HPw];simp only[h,GMw,HPw]
def isB (b:zAa)(a:Nat)(c:UInt8):Bool:=decide (b[a]? = some c)
def Vkq (c d:UInt8):decide ((c.toNat:Int)=(d.toNat:Int))=decide (c=d):=by rw[VZ];simp only[zXe];constructor;intro h;exact XV (by omega);intro h;rw[h]
def M9 (b:zAa)(a:Nat)(e:Int)(c:UInt8)(H:Aa):UfC (Bq b a e) (.int .u8 (c.toNat:Int)) H=some (.ret (.bool (decide (e=0)&&isB b a c)),H):=by unfold UfC Bq AP isB;have he:=λe H=>Ed b a e H;unfold Bq AP at he;simp only[GMw,HPw,Nat.reduceAdd];by_cases h0:e=0;simp only[h0,GMw,HPw,he];by_cases h:b.length<=a;simp only[h,GMw,HPw,zYa h,reduceCtorEq];have hlt:a<b.length:=(by omega);simp only[h,GMw,HPw,AQ hlt,VG hlt,Vkq,VT];simp only[h0,GMw,HPw]
def S0 (a b:zAa)(H:Aa)(ha:a.length<1152921504606846976):UbH (.str a) (.str b) H=some (.ret (.i6 (cpN a b:Int)),H):=by
 unfold UbH;have hle:=Hz a b;refine Bf (σ:=Nat) (λi=>i<=cpN a b) (λi=>[.str a,.str b,.i6 (i:Int)]) (λ_=>H) (λi=>cpN a b-i) (λ_=>some (.ret (.i6 (cpN a b:Int)),H)) (λi rec hi hrec=>?_) 0 (Wi _) (by omega);unfold Ufj;have stop:i=cpN a b->(some (Res.ret (.i6 (i:Int)),H):Out)=some (.ret (.i6 (cpN a b:Int)),H):=λh=>by rw[h]
 simp only[GMw,HPw];by_cases h1:i<a.length
 ·have eO:(i:Int)<(a.length:Int):=by omega
  simp only[eO,GMw,HPw];by_cases h2:i<b.length;have iO:(i:Int)<(b.length:Int):=(by omega);simp only[iO,GMw,AQ h1,AQ h2,Vkq];by_cases e:i=cpN a b;have hne:=T8 a b (by omega) (by omega);rw[<-e,VG h1,VG h2]at hne;have hn:¬a[i]=b[i]:=λhc=>hne (by rw[hc]);simp only[hn,GMw];exact stop e;have hg:=Vbp a b i (by omega);rw[VG h1,VG h2]at hg;have hg':=Xf hg;simp only[hg',GMw,HPw,Ar (show i<9223372036854775807 by omega)];exact hrec (i+1) (by omega) (by omega);have iO:¬(i:Int)<(b.length:Int):=(by omega);simp only[iO,GMw];exact stop (by omega)
 ·have eO:¬(i:Int)<(a.length:Int):=by omega
  simp only[eO,GMw];exact stop (by omega)
def VdU {a n:Nat}(h:a+n<9223372036854775807):I_.wrap ((a:Int)+(n:Int))=((a+n:Nat):Int):=by rw[Am]<;>omega
def SU (b:zAa)(a:Nat)(s:zAa):Nat:=a+cpN (b.drop a) s
def VoL (b:zAa)(a:Nat)(s:zAa):Int:=if cpN (b.drop a) s<s.length then Ig b (SU b a s)else 0
def Vba {b:zAa}{a:Nat}(ha:a<=b.length)(s:zAa):SU b a s<=b.length:=by have:=(Hz (b.drop a) s).1;rw[Wd]at this;unfold SU;omega
def VkF {b:zAa}{a:Nat}(ha:a<=b.length)(hb:b.length<1152921504606846976)(s:zAa)(H:Aa):Ufy (Bq b a 0) (.str s) H=some (.ret (Bq b (SU b a s) (VoL b a s)),H):=by
 unfold Ufy Bq AP VoL;have hn:=Vba ha s;have hc:=λH=>S0 (b.drop a) s H (by rw[Wd];omega);have hst:=λe H=>FT b (SU b a s) e H;unfold Bq AP at hst;have hw:I_.wrap ((a:Int)+(cpN (b.drop a) s:Int))=((SU b a s:Nat):Int):=by unfold SU at hn⊢;exact VdU (by omega)
 simp only[GMw,HPw,Nat.reduceAdd,Nat.reduceLT,D0 ha,hc,hw];by_cases h:cpN (b.drop a) s<s.length
 ·have h':(cpN (b.drop a) s:Int)<(s.length:Int):=by omega
  simp only[h',h,GMw,HPw,Nat.reduceAdd,hst]
 ·have h':¬(cpN (b.drop a) s:Int)<(s.length:Int):=by omega
  simp only[h',h,GMw,HPw]
def VhL (b:zAa)(a:Nat){e:Int}(he:e≠0)(s:zAa)(H:Aa):Ufy (Bq b a e) (.str s) H=some (.ret (Bq b a e),H):=by unfold Ufy Bq AP;simp only[GMw,HPw,Nat.reduceAdd,he]
def Vnj (c:UInt8)(H:Aa):Uci (.int .u8 (c.toNat:Int)) H=some (.ret (.bool (Oh c)),H):=by
 unfold Uci Oh;by_cases h:(c.toNat:Int)>32
 ·have:33<=c.toNat:=by omega
  simp[h,this];omega
 ·have:¬33<=c.toNat:=by omega
  simp[h,this]
def onB (b:zAa)(f a:Nat):Bool:=match b[a]? with
 |none=>false
 |some c=>decide (a-f<40)&&Oh c
def Et (b:zAa)(f:Nat):Nat->Nat->Nat
 |0,a=>a
 |n+1,a=>if onB b f a then Et b f n (a+1)else a
def Ve6 (H:Aa)(p:Nat)(b:zAa)(r:List Ab)(f e:Nat)(rest:zAa):Out:=
 if e=f then some (.pan (QH b e (97::rest)),Ci H p b r e)else some (.ret (.str ((b.take e).drop f)),Ci H p b r e)
def VaW {H:Aa}{p a f:Nat}{b:zAa}{r:List Ab}(h:Lx H p b f r)(hf:f<=a)(ha:a<=b.length)(rest:zAa)(hr:rest.length<=1000000):(AL (λj2=>
      (Ah (.ptr p 0 0)).bind λx51=>
      (Ac 1 x51).bind λx52=>
      (Ad false 1 x52 (Ci H p b r a)).bind λx53=>
      (Af .n .eql x53 (.i6 (f:Int))).bind λx54=>
      Ai x54 (
      (Af .n .add (.str [97]) (.str rest)).bind λx55=>
      bK H (Ucz (.ptr p 0 0) x55 (Ci H p b r a)) λx56 H57=>
      j2 [.ptr p 0 0,.i6 (f:Int)] H57) (
      j2 [.ptr p 0 0,.i6 (f:Int)] (Ci H p b r a))) (λvs H1=>Ueg H (ag vs 0) (ag vs 1) H1))=Ve6 H p b r f a rest:=by
 have hx:=GA (a':=a) h;unfold Ve6;have iK:Af .n .add (.str [97]) (.str rest)=some (.str (97::rest)):=Dj (by simp only[zXj,zXk];omega);simp only[GMw,Ah,Aj,VK,Gl hx];by_cases e:a=f
 ·simp only[e,GMw,iK,zYc];subst e;simp only[N5 hx]
  rfl
 ·have e':¬(a:Int)=(f:Int):=by omega
  simp only[e',GMw,zYb e];unfold Ueg;simp only[GMw,Ah,Aj,VK,Gl hx,Rj hx,IF hf ha]
theorem N1 {b:zAa}{f a:Nat}(h:onB b f a=false):∀n,Et b f n a=a
 |0=>rfl
 |n+1=>by rw[Et,h];rfl
def VbL {b:zAa}{f a:Nat}(h:onB b f a=true)(hf:f<=a):Et b f (40-(a-f)) a=Et b f (40-(a+1-f)) (a+1):=by
 have:a-f<40:=by
  unfold onB at h;split at h
  cases h;simp at h;exact h.1
 have e:40-(a-f)=(40-(a+1-f))+1:=by omega
 rw[e,Et,h,zYc rfl]
def Vn3 {b:zAa}{f a:Nat}(h:onB b f a=true):a<b.length:=by rcases W4 a b.length with h' | h';exact h';unfold onB at h;rw[zYa h']at h;cases h
def Vlw {H:Aa}{p f:Nat}{b:zAa}{r:List Ab}(h:Lx H p b f r)(hf:f<=b.length)(hb:b.length<1152921504606846976)(rest:zAa)(hr:rest.length<=1000000):UaZ (.ptr p 0 0) (.str rest) H=Ve6 H p b r f (Et b f 40 f) rest:=by
 unfold UaZ;simp only[GMw,Ah,Aj,VK,Gl h];have key:=Bf (G:=λrec1 vs H1=>Ueh H rec1 (ag vs 0) (ag vs 1) (ag vs 2) H1) (σ:=Nat) (λi=>f<=i/\i<=b.length) (λ_=>[.ptr p 0 0,.str rest,.i6 (f:Int)]) (λi=>Ci H p b r i) (λi=>b.length-i)
  (λi=>Ve6 H p b r f (Et b f (40-(i-f)) i) rest) (λi rec hi hrec=>?_) f ⟨VM _,hf⟩ (by omega)
 rw[Ec h,Wu,Nat.sub_zero]at key;exact key
 ·unfold Ueh;obtain⟨h1,h2⟩:=hi;have hx:=GA (a':=i) h;have aO:=VaW h h1 h2 rest hr;simp only[GMw,IT hx];by_cases e:i=b.length;have ho:onB b f i=false:=(by unfold onB;rw[e,zYa (VM _)]);rw[N1 ho];simp only[e,GMw]at aO⊢;exact aO
  ·have hlt:i<b.length:=(by omega);have hw:I_.wrap ((i:Int)-(f:Int))=((i-f:Nat):Int):=(by rw[Am]<;>omega);simp only[e,GMw,Ah,Aj,VK,Gl hx,hw];by_cases tJ:i-f<40;have gM:((i-f:Nat):Int)<40:=(by omega);simp only[gM,GMw,Aj,VK,Gl hx,Rj hx,AQ hlt,Vnj];cases hs:Oh b[i]with|true=>have ho:onB b f i=true:=(by unfold onB;rw[VG hlt];simp[tJ,hs]);rw[VbL ho h1];simp only[GMw,Ar (show i<9223372036854775807 by omega),KK h];exact hrec (i+1) ⟨by omega,by omega⟩ (by omega)|false=>have ho:onB b f i=false:=(by unfold onB;rw[VG hlt];simp[hs]);rw[N1 ho];simpa only[GMw,Ah,Aj,VK,Gl hx]using aO
   have gM:¬((i-f:Nat):Int)<40:=(by omega);have ho:onB b f i=false:=(by unfold onB;rw[VG hlt];simp[tJ]);rw[N1 ho];simpa only[gM,GMw,Ah,Aj,VK,Gl hx]using aO
def Vh8 {b:zAa}{i:Nat}(h:i<b.length)(c d:UInt8):AE b i [c,d]=(decide (b[i]=c)||decide (b[i]=d)):=by unfold AE;rw[VG h];simp
def JV {b:zAa}{i:Nat}(h:i<b.length)(c:UInt8):AE b i [c]=decide (b[i]=c):=by unfold AE;rw[VG h];simp
def Ved (c:UInt8)(n:Nat)(h:n<256):decide ((c.toNat:Int)=(n:Int))=decide (c=UInt8.ofNat n):=by
 have:(UInt8.ofNat n).toNat=n:=by simp[WJ h]
 rw[<-Vkq,this]
theorem Vks (c:UInt8):decide ((c.toNat:Int)=10)=decide (c=10):=Ved c 10 (by decide)
theorem Vkr (c:UInt8):decide ((c.toNat:Int)=13)=decide (c=13):=Ved c 13 (by decide)
def VkH {b:zAa}{a:Nat}(ha:a<=b.length)(hb:b.length<1152921504606846976)(H:Aa):Ud6 (Bq b a 0) H=some (.ret (Bq b (L4 b a) 0),H):=by
 unfold Ud6 Bq AP;simp only[GMw,HPw,Nat.reduceAdd];have key:=Bf (G:=λrec1 vs H1=>UeC H rec1 (ag vs 0) (ag vs 1) H1) (σ:=Nat) (λi=>i<=b.length) (λ_=>[.ptr H.length 0 0,.ptr (H.length+1) 0 0]) (λi=>H++[.c0 [.str b,.i6 (i:Int),.i6 0],.c0 [.str [],.i6 0,.i6 0]]) (λi=>b.length-i)
  (λi=>some (.ret (.agg [.str b,.i6 (L4 b i:Int),.i6 0]),H)) (λi rec hi hrec=>?_) a ha (by omega)
 exact key;have he:=λe H=>Ed b i e H;unfold Bq AP at he;unfold UeC;simp only[GMw,HPw,Nat.reduceAdd,Nat.reduceLT,he];by_cases h:b.length<=i;have:i=b.length:=(by omega);subst this;simp only[h,GMw,HPw,VcU];have hlt:i<b.length:=(by omega);rw[VC hlt,Vh8 hlt];simp only[h,GMw,HPw,AQ hlt,Vks];by_cases h1:b[i]=10;simp only[h1,GMw,HPw,zYd,show(decide ((10:UInt8)=13))=false from rfl];by_cases h2:b[i]=13;simp only[h2,GMw,HPw,AQ hlt,Vkr,zYd,show decide ((13:UInt8)=10)=false from rfl];simp only[h1,h2,GMw,HPw,AQ hlt,Vkr,Ar (show i<9223372036854775807 by omega)];exact hrec (i+1) (by omega) (by omega)
def MN (b:zAa)(a:Nat):Nat:=if a=b.length then a else if AE b (crN b a) [10]then crN b a+1 else crN b a
def Tv (b:zAa)(a:Nat):Int:=if a=b.length then 0 else if AE b (crN b a) [10]then 0 else Ig b (crN b a)
def VlJ {b:zAa}{a:Nat}(ha:a<=b.length):MN b a<=b.length:=by unfold MN;split;exact ha;split;rename_i h;exact Ca h;exact Voh ha
def VkG {b:zAa}{a:Nat}(ha:a<=b.length)(hb:b.length<1152921504606846976)(H:Aa):Uf4 (Bq b a 0) H=some (.ret (Bq b (MN b a) (Tv b a)),H):=by
 unfold Uf4 Bq AP;have he:=λi e H=>Ed b i e H;have hst:=λi e H=>FT b i e H;unfold Bq AP at he hst;simp only[GMw,HPw,Nat.reduceAdd,Nat.reduceLT,he];by_cases h:b.length<=a
 ·have:a=b.length:=by omega
  subst this;have e1:MN b b.length=b.length:=by simp[MN]
  have e2:Tv b b.length=0:=by simp[Tv]
  rw[e1,e2];simp only[h,GMw,HPw]
 ·have hlt:a<b.length:=by omega
  have hne:¬a=b.length:=by omega
  have tail:∀(i:Nat),i<b.length->crN b a=i->UeD H (.ptr H.length 0 0) (.ptr (H.length+1) 0 0) (H++[.c0 [.str b,.i6 (i:Int),.i6 0],.c0 [.str [],.i6 0,.i6 0]])=some (.ret (.agg [.str b,.i6 (MN b a:Int),.i6 (Tv b a)]),H):=by intro i hi hc;unfold UeD MN Tv;rw[zYb hne,zYb hne,hc,JV hi];simp only[GMw,HPw,Nat.reduceAdd,Nat.reduceLT,AQ hi,Vks];by_cases h1:b[i]=10;simp only[h1,GMw,HPw,zYd,Ar (show i<9223372036854775807 by omega)];simp only[h1,GMw,HPw,Nat.reduceAdd,hst]
  have dJ:crN b a=if b[a]=13 then a+1 else a:=by unfold crN;rw[JV hlt];simp
  simp only[h,GMw,AQ hlt,Vkr];by_cases h1:b[a]=13;rw[zYc h1]at dJ;simp only[h1,GMw,HPw,Nat.reduceAdd,Ar (show a<9223372036854775807 by omega),he];by_cases h2:b.length<=a+1;have hs:AE b (a+1) [10]=false:=(by unfold AE;rw[zYa h2]);have e1:MN b a=a+1:=(by simp[MN,hne,dJ,hs]);have e2:Tv b a=Ig b (a+1):=(by simp[Tv,hne,dJ,hs]);simp only[h2,GMw,HPw,Nat.reduceAdd,hst,e1,e2];have oN:a+1<b.length:=(by omega);have:=tail (a+1) oN dJ;simp only[h2,GMw,HPw,AQ oN,Vks];by_cases h3:b[a+1]=10;simp only[h3,GMw,HPw];exact this;have hs:AE b (a+1) [10]=false:=(by rw[JV oN];simp[h3]);have e1:MN b a=a+1:=(by simp[MN,hne,dJ,hs]);have e2:Tv b a=Ig b (a+1):=(by simp[Tv,hne,dJ,hs]);simp only[h3,GMw,HPw,Nat.reduceAdd,hst,e1,e2];rw[zYb h1]at dJ;simp only[h1,GMw];exact tail a hlt dJ
def VhM (b:zAa)(a:Nat){e:Int}(he:e≠0)(H:Aa):Uf4 (Bq b a e) H=some (.ret (Bq b a e),H):=by unfold Uf4 Bq AP;simp only[GMw,HPw,Nat.reduceAdd,he]
theorem VbM {b:zAa}{f:Nat}:∀(n a:Nat),a<=b.length->a<=Et b f n a/\Et b f n a<=b.length
 |0,a,h=>⟨VM _,h⟩
 |n+1,a,h=>by rw[Et];cases ho:onB b f a with|true=>have:=VbM (b:=b) (f:=f) n (a+1) (Vn3 ho);simp only[zYd];omega|false=>simp only[VL,zYe];omega
def Vpq (b:zAa)(f:Nat):zAa:=(b.take (Et b f 40 f)).drop f
def Vk4 (b:zAa)(f:Nat):Int:=if Et b f 40 f=f then Ig b f else 0
def VhK {b:zAa}{f:Nat}(hf:f<=b.length)(hb:b.length<1152921504606846976)(H:Aa):Ua0 (Bq b f 0) H=some (.ret (.tup [Bq b (Et b f 40 f) (Vk4 b f),.str (if Et b f 40 f=f then []else Vpq b f)]),H):=by
 unfold Ua0 Bq AP;simp only[GMw,HPw,Nat.reduceAdd];have key:=Bf (G:=λrec1 vs H1=>UeG H rec1 (ag vs 0) (ag vs 1) (ag vs 2) H1) (σ:=Nat) (λi=>f<=i/\i<=b.length) (λ_=>[.ptr H.length 0 0,.ptr (H.length+1) 0 0,.i6 (f:Int)]) (λi=>H++[.c0 [.str b,.i6 (i:Int),.i6 0],.c0 [.str [],.i6 0,.i6 0]]) (λi=>b.length-i)
  (λi=>some (.ret (.tup [.agg [.str b,.i6 (Et b f (40-(i-f)) i:Int),.i6 (if Et b f (40-(i-f)) i=f then Ig b f else 0)],.str (if Et b f (40-(i-f)) i=f then []else (b.take (Et b f (40-(i-f)) i)).drop f)]),H)) (λi rec hi hrec=>?_) f ⟨VM _,hf⟩ (by omega)
 rw[Wu,Nat.sub_zero]at key;exact key
 ·obtain⟨h1,h2⟩:=hi;have he:=λe H=>Ed b i e H;have hst:=λe H=>FT b f e H;unfold Bq AP at he hst;have hw:I_.wrap ((i:Int)-(f:Int))=((i-f:Nat):Int):=by rw[Am]<;>omega
  have stop:onB b f i=false->((Ad false 1 (.ptr H.length 0 (0+1)) (H++[.c0 [.str b,.i6 (i:Int),.i6 0],.c0 [.str [],.i6 0,.i6 0]])).bind λx44=>
      (Af .n .eql x44 (.i6 (f:Int))).bind λx45=>
      Ai x45 (
      (Ad true 3 (.ptr H.length 0 0) (H++[.c0 [.str b,.i6 (i:Int),.i6 0],.c0 [.str [],.i6 0,.i6 0]])).bind λx46=>
      bP H (Uda x46 (H++[.c0 [.str b,.i6 (i:Int),.i6 0],.c0 [.str [],.i6 0,.i6 0]])) λx47 H48=>
      bP H (As (Ae 3 (.ptr (H.length+1) 0 0) x47 H48)) λ_ H50=>
      (BV [Ad true 3 (.ptr (H.length+1) 0 0) H50,some (.str [])]).bind λx51=>rP H x51 H50) (
      bC (Ad true 3 (.ptr H.length 0 0) (H++[.c0 [.str b,.i6 (i:Int),.i6 0],.c0 [.str [],.i6 0,.i6 0]])) (λ_=>True) λx52=>
      AH (As (Ae 3 (.ptr (H.length+1) 0 0) x52 (H++[.c0 [.str b,.i6 (i:Int),.i6 0],.c0 [.str [],.i6 0,.i6 0]]))) λ_ H54=>
      (Ac 0 (.ptr H.length 0 0)).bind λx55=>
      bC (Ad false 1 x55 H54) (λx56=>Ad false 1 x55 (H++[.c0 [.str b,.i6 (i:Int),.i6 0],.c0 [.str [],.i6 0,.i6 0]])=some x56/\True) λx56=>
      (Ac 1 (.ptr H.length 0 0)).bind λx57=>
      bC (Ad false 1 x57 H54) (λx58=>Ad false 1 x57 (H++[.c0 [.str b,.i6 (i:Int),.i6 0],.c0 [.str [],.i6 0,.i6 0]])=some x58/\True) λx58=>
      (BP x56 (some (.i6 (f:Int))) (some x58)).bind λx59=>
      (BV [Ad true 3 (.ptr (H.length+1) 0 0) H54,some x59]).bind λx60=>rP H x60 H54))=some (.ret (.tup [.agg [.str b,.i6 (Et b f (40-(i-f)) i:Int),.i6 (if Et b f (40-(i-f)) i=f then Ig b f else 0)],.str (if Et b f (40-(i-f)) i=f then []else (b.take (Et b f (40-(i-f)) i)).drop f)]),H):=by
   intro ho;rw[N1 ho];by_cases gG:i=f;subst gG;simp only[GMw,HPw,Nat.reduceAdd,hst,zYd];have dD:¬(i:Int)=(f:Int):=(by omega);simp only[GMw,HPw,Nat.reduceAdd,dD,gG,IF h1 h2]
  unfold UeG;by_cases h:b.length<=i;have ho:onB b f i=false:=(by unfold onB;rw[zYa h]);have:=stop ho;simp only[GMw,HPw,Nat.reduceAdd,he,h]at this⊢;exact this
  ·have hlt:i<b.length:=(by omega);by_cases tJ:i-f<40;have gM:((i-f:Nat):Int)<40:=(by omega);cases hs:Oh b[i]with|true=>have ho:onB b f i=true:=(by unfold onB;rw[VG hlt];simp[tJ,hs]);rw[VbL ho h1];simp only[GMw,HPw,Nat.reduceAdd,Nat.reduceLT,he,h,hw,gM,AQ hlt,S5,hs,Ar (show i<9223372036854775807 by omega)];exact hrec (i+1) ⟨by omega,by omega⟩ (by omega)|false=>have ho:onB b f i=false:=(by unfold onB;rw[VG hlt];simp[hs]);have:=stop ho;simp only[GMw,HPw,Nat.reduceAdd,Nat.reduceLT,he,h,hw,gM,AQ hlt,S5,hs]at this⊢;exact this
   have gM:¬((i-f:Nat):Int)<40:=(by omega);have ho:onB b f i=false:=(by unfold onB;rw[VG hlt];simp[tJ]);have:=stop ho;simp only[GMw,HPw,Nat.reduceAdd,he,h,hw,gM]at this⊢;exact this
def VeQ (b:zAa)(a:Nat){e:Int}(he:e≠0)(H:Aa):Ua0 (Bq b a e) H=some (.ret (.tup [Bq b a e,.str []]),H):=by unfold Ua0 Bq AP;simp only[GMw,HPw,Nat.reduceAdd,he]
abbrev Er:=Option (Int×zAa)
def B8:Er->Int
 |none=>0
 |some e=>e.1
@[simp] theorem CO:B8 none=0:=rfl
@[simp] theorem CF (e:Int×zAa):B8 (some e)=e.1:=rfl
def Fi (b:zAa)(a:Nat)(s:zAa):Int×zAa:=if a=b.length then (3,s)else (2,[])
def Ea {b:zAa}{a:Nat}(ha:a<=b.length)(s:zAa):(Fi b a s).1=Ig b a:=by unfold Fi Ig;by_cases h:a=b.length;rw[zYc h,zYc (by omega)];rw[zYb h,zYb (by omega)]
def BW (b:zAa)(a:Nat)(s rest:zAa):Er×Nat:=(if cpN (b.drop a) s<s.length then some (Fi b (SU b a s) (s.drop (cpN (b.drop a) s)++rest))else none,SU b a s)
def EA (b:zAa)(a:Nat)(rest:zAa):Er×Nat:=(if a=b.length then none else if AE b (crN b a) [10]then none else some (Fi b (crN b a) (10::rest)),MN b a)
def Gi (b:zAa)(f:Nat)(rest:zAa):Er×Nat:=(if Et b f 40 f=f then some (Fi b f (97::rest))else none,Et b f 40 f)
def DU:zAa:=[48,49,50,51,52,53,54,55,56,57]
def FU (b:zAa)(f:Nat)(rest:zAa):Nat->Nat->Er×Nat
 |0,a=>(none,a)
 |n+1,a=>
  if AE b a DU then
   if f<a/\b[f]? = some 48 then (some (Fi b a []),a)
   else if a-f=400 then (some (4,[]),a)
   else FU b f rest n (a+1)
  else if a=f then (some (Fi b a (49::rest)),a)else (none,a)
def Pq (b:zAa)(a:Nat)(neg:Bool):Nat:=if neg&&AE b a [45]then a+1 else a
def Cv (b:zAa)(a:Nat)(neg:Bool)(rest:zAa):Er×Nat:=
 if neg&&AE b a [45]&&AE b (a+1) [48]then (some (Fi b (a+1) []),a+1)else FU b (Pq b a neg) rest 402 (Pq b a neg)
def Jo (b:zAa)(a:Nat):Nat:=(b.getD a 48).toNat-48
def Dt (er:Er):Prop:=∀e,er=some e->0<e.1/\e.1<=4
theorem Dt.none:Dt none:=λe h=>by cases h
theorem Dt.stp (b:zAa)(a:Nat)(s:zAa):Dt (some (Fi b a s)):=λe h=>by injection h with h;subst h;unfold Fi;split<;>simp
theorem Dt.lim:Dt (some (4,[])):=λe h=>by injection h with h;subst h;simp
def Dh (b:zAa)(a:Nat)(s rest:zAa):Dt (BW b a s rest).1:=by unfold BW;split;exact .stp _ _ _;exact .none
def J4 (b:zAa)(a:Nat)(rest:zAa):Dt (EA b a rest).1:=by unfold EA;split;exact .none;split;exact .none;exact .stp _ _ _
def VaF (b:zAa)(f:Nat)(rest:zAa):Dt (Gi b f rest).1:=by unfold Gi;split;exact .stp _ _ _;exact .none
theorem Vf1 (b:zAa)(f:Nat)(rest:zAa):∀n a,Dt (FU b f rest n a).1
 |0,a=>.none
 |n+1,a=>by unfold FU;split;split;exact .stp _ _ _;split;exact .lim;exact Vf1 b f rest n (a+1);split;exact .stp _ _ _;exact .none
def Fa (b:zAa)(a:Nat)(neg:Bool)(rest:zAa):Dt (Cv b a neg rest).1:=by unfold Cv;split;exact .stp _ _ _;exact Vf1 _ _ _ _ _
theorem Lx.push {H G:Aa}{p a:Nat}{b:zAa}{r:List Ab}(h:Lx H p b a r):Lx (H++G) p b a r:=by
 have:p<H.length:=by rcases W4 p H.length with h' | h';exact h';unfold Lx at h;rw[zYa h']at h;cases h
 unfold Lx;rw[VN this];exact h

def O4 (b:zAa)(f:Nat)(rest:zAa):Nat->Nat->Option Ab×Nat
 |0,a=>(none,a)
 |n+1,a=>
  if AE b a DU then
   if f<a/\b[f]? = some 48 then (some (QH b a []),a)
   else if a-f=400 then (some (Th 4 []),a)
   else O4 b f rest n (a+1)
  else if a=f then (some (QH b a (49::rest)),a)else (none,a)
theorem Vf2 (b:zAa)(f:Nat)(rest:zAa):∀n a,a<=b.length->a<=(O4 b f rest n a).2/\(O4 b f rest n a).2<=b.length
 |0,a,h=>⟨VM _,h⟩
 |n+1,a,h=>by unfold O4;by_cases hs:AE b a DU=true;rw[zYc hs];by_cases h1:f<a/\b[f]? = some 48;rw[zYc h1];exact⟨VM _,h⟩;rw[zYb h1];by_cases h2:a-f=400;rw[zYc h2];exact⟨VM _,h⟩;rw[zYb h2];have:=Vf2 b f rest n (a+1) (Ca hs);exact⟨by omega,this.2⟩;rw[zYb hs];by_cases h1:a=f;rw[zYc h1];exact⟨VM _,h⟩;rw[zYb h1];exact⟨VM _,h⟩
def Vll {b:zAa}{f a:Nat}{rest:zAa}{n:Nat}(hs:AE b a DU=true)(h1:¬(f<a/\b[f]? = some 48))(h2:¬a-f=400):O4 b f rest (n+1) a=O4 b f rest n (a+1):=by rw[O4,zYc hs,zYb h1,zYb h2]
def Vp2 (H0 K:Aa)(p:Nat)(b:zAa)(r:List Ab)(q from_:Ab):Option Ab×Nat->Out
 |(some v,e)=>some (.pan v,Ci K p b r e)
 |(none,e)=>UaY H0 (.ptr p 0 0) q from_ (Ci K p b r e)
def VaX {H0 K:Aa}{p f:Nat}{b:zAa}{r:List Ab}(h:Lx K p b f r)(hf:f<=b.length)(hb:b.length<1152921504606846976)(rest:zAa)(hr:rest.length<=1000000)(q from_:Ab):An (λaA vs H=>Ucf H0 aA (ag vs 0) (ag vs 1) (ag vs 2) (ag vs 3) (ag vs 4) H) AI [.ptr p 0 0,.str rest,q,from_,.i6 (f:Int)] K=Vp2 H0 K p b r q from_ (O4 b f rest 402 f):=by
 have key:=Bf (G:=λaA vs H=>Ucf H0 aA (ag vs 0) (ag vs 1) (ag vs 2) (ag vs 3) (ag vs 4) H) (σ:=Nat) (λi=>f<=i/\i<=b.length/\i-f<=400) (λ_=>[.ptr p 0 0,.str rest,q,from_,.i6 (f:Int)]) (λi=>Ci K p b r i) (λi=>b.length-i)
  (λi=>Vp2 H0 K p b r q from_ (O4 b f rest (402-(i-f)) i)) (λi rec hi hrec=>?_) f ⟨VM _,hf,by omega⟩ (by omega)
 rw[Ec h,Wu,Nat.sub_zero]at key;exact key
 ·obtain⟨h1,h2,h3⟩:=hi;have hx:=GA (a':=i) h;have e:402-(i-f)=(401-(i-f))+1:=by omega
  have iK:Af .n .add (.str [49]) (.str rest)=some (.str (49::rest)):=Dj (by simp only[zXj,zXk];omega);unfold Ucf;have gC:=E5 hx h2 DU;unfold DU at gC;rw[e];have nZ:AE b i [48,49,50,51,52,53,54,55,56,57]=AE b i DU:=rfl;simp only[GMw,gC,nZ];cases hs:AE b i DU with
  |true=>
   have hlt:=Ca hs;have dI:f<b.length:=(by omega);have hw:I_.wrap ((i:Int)-(f:Int))=((i-f:Nat):Int):=(by rw[Am]<;>omega);have tail:¬(f<i/\b[f]? = some 48)->((Af .n .sub (.i6 (i:Int)) (.i6 (f:Int))).bind λx56=>
     (Af .n .eql x56 (.i6 400)).bind λx57=>
     Ai x57 (bK H0 (Ua7 (.ptr p 0 0) (Ci K p b r i)) λx58 H59=>Uce H0 rec (.ptr p 0 0) (.str rest) q from_ (.i6 (f:Int)) H59)
      (Uce H0 rec (.ptr p 0 0) (.str rest) q from_ (.i6 (f:Int)) (Ci K p b r i)))=Vp2 H0 K p b r q from_ (O4 b f rest (401-(i-f)+1) i):=by
    intro hn;simp only[GMw,hw];by_cases h4:i-f=400
    ·have pC:((i-f:Nat):Int)=400:=(by omega);rw[O4,zYc hs,zYb hn,zYc h4];simp only[pC,GMw,MF]
     rfl
    have pC:¬((i-f:Nat):Int)=400:=(by omega);rw[Vll hs hn h4];unfold Uce;simp only[pC,GMw,Ah,Aj,VK,Gl hx,Ar (show i<9223372036854775807 by omega),KK h];have:=hrec (i+1) ⟨by omega,by omega,by omega⟩ (by omega);rw[show 402-(i+1-f)=401-(i-f)by omega]at this;exact this
   by_cases dZ:f<i
   ·have kO:(i:Int)>(f:Int):=(by omega);simp only[GMw,Ah,Aj,VK,Gl hx,Rj hx,kO,AQ dI];by_cases h0:b[f]=48
    ·rw[O4,zYc hs,zYc ⟨dZ,by rw[VG dI,h0]⟩];simp only[h0,N5 hx]
     rfl
    have dT:¬((b[f].toNat:Int)=48):=λhc=>h0 (Xt.1 (by show b[f].toNat=48;omega));simp only[dT,GMw];exact tail (λhc=>h0 (by have:=hc.2;rw[VG dI]at this;exact Xf this))
   have kO:¬(i:Int)>(f:Int):=(by omega);simp only[GMw,Ah,Aj,VK,Gl hx,kO];exact tail (λhc=>dZ hc.1)
  |false=>
   rw[O4,zYb (by rw[hs];exact Bool.false_ne_true)];simp only[GMw,Ah,Aj,VK,Gl hx];by_cases he:i=f
   ·have dU:(i:Int)=(f:Int):=(by omega);rw[zYc he];simp only[dU,GMw,iK,N5 hx]
    rfl
   ·have dU:¬(i:Int)=(f:Int):=(by omega);rw[zYb he];simp only[dU,GMw]
    rfl
def VkS {l:zAb}{tk:Tok}{m c:Nat}(H:Aa)(hx:Lim l)(hl:l.length<=1099511627775)(hm:m<4294967296)(hc:c<4294967296):Ud9 (.sl (enL cU l) tk) (.int .u32 (m:Int)) (.int .u32 (c:Int)) H=some (.ret (.sl (enL cU (A8 (val l*m+c))) .no),H):=by
 unfold Ud9;have hcc:A5 .u64 (.int .u32 (c:Int))=some (.int .u64 (c:Int)):=by rw[AV,BT (by omega) (by omega)]
 have jV:A5 .u64 (.int .u32 (m:Int))=some (.int .u64 (m:Int)):=by rw[AV,BT (by omega) (by omega)]
 simp only[GMw,hcc];refine Ct l.length (λi=>[.sl (enL cU l) tk,.int .u32 (m:Int),Eo cU H (Dr l m c i).1,.int .u64 ((Dr l m c i).2:Int),.i6 (i:Int)])
  (λi=>Ee cU BJ 1 H (Dr l m c i).1) _ (by omega) (λrec i hi=>?_) (λrec=>?_)
 ·obtain⟨h1,h2,h3,h4⟩:=Pd hx hm hc i (by omega);have aE:(i:Int)<(l.length:Int):=by omega
  have aI:=hx _ (VY hi);have hg:l[i]?.getD 0=l[i]:=by rw[VG hi];rfl
  have ht:=SN aI hm h2;obtain⟨t,htt⟩:∃t,t=(Dr l m c i).2+l[i]*m:=⟨_,rfl⟩;have hP:l[i]*m<=4294967295*4294967295:=XK (by omega) (by omega);have w1:A5 .u64 (.int .u32 (l[i]:Int))=some (.int .u64 (l[i]:Int)):=by rw[AV,BT (by omega) (by omega)]
  have w2:IntKind.u64.wrap ((l[i]:Int)*(m:Int))=((l[i]*m:Nat):Int):=by rw[<-Int.natCast_mul,BT (by omega) (by omega)]
  have w3:IntKind.u64.wrap (((l[i]*m:Nat):Int)+((Dr l m c i).2:Int))=(t:Int):=by rw[BT]<;>omega
  have w7:(t:Int).tmod 4294967296=((t%4294967296:Nat):Int):=rfl;have w4:A5 .u32 (.int .u64 ((t%4294967296:Nat):Int))=some (.int .u32 ((t%4294967296:Nat):Int)):=by rw[AV,CX (by omega) (by omega)]
  have w5:IntKind.u64.wrap ((t:Int).tdiv 4294967296)=((t / 4294967296:Nat):Int):=by rw[show(t:Int).tdiv 4294967296=((t / 4294967296:Nat):Int) from rfl,BT (by omega) (by omega)]
  have w6:I_.wrap ((i:Int)+1)=((i+1:Nat):Int):=by rw[Am]<;>omega
  have uE:=DR (f:=cU) (ty:=BJ) (sz:=1) (tk:=.ti) (bytes:=4) (B:=H) (l:=(Dr l m c i).1) (m:=[t%4294967296]) (by simp) (by simp;omega) (by simp;omega);unfold UeE;simp only[GMw,Ak,Ax,aE,A4 hi,AA,zXh,w1,jV,w2,w3,HL (show(4294967296:Int)≠0 by decide),NP (show(4294967296:Int)≠0 by decide),w7,w4,Vbv,uE,w5,w6];simp only[Dr,hg,<-htt]
 ·obtain⟨h1,h2,h3,h4⟩:=Pd hx hm hc l.length (VM _);have w4:A5 .u32 (.int .u64 ((Dr l m c l.length).2:Int))=some (.int .u32 ((Dr l m c l.length).2:Int)):=by rw[AV,CX (by omega) (by omega)]
  have uE:=DR (f:=cU) (ty:=BJ) (sz:=1) (tk:=.ti) (bytes:=4) (B:=H) (l:=(Dr l m c l.length).1) (m:=[(Dr l m c l.length).2]) (by simp) (by simp;omega) (by simp;omega);obtain⟨o,ho⟩:∃o,o=(Dr l m c l.length).1++[(Dr l m c l.length).2]:=⟨_,rfl⟩;have aJ:Lim o:=by intro x jP;rw[ho]at jP;rcases Wk.1 jP with h | h;exact h3 x h;rw[Wj.1 h];exact h2
  have oE:val o=val l*m+c:=by rw[ho,C5,h1,IK];rw[Wx]at h4;exact h4
  have hol:o.length<=1099511627776:=by rw[ho];simp;omega
  rw[<-ho]at uE;obtain⟨G,hG⟩:=GD (f:=cU) (ty:=BJ) (sz:=1) H o;have hn:=S8 o (VoJ H o) (H++G) hol aJ;rw[oE]at hn;unfold UeE;simp only[GMw,Ak,Wv,Ax,w4,Vbv,uE];simp only[Gc,hG,hn,GMw,CD,GI,zXb]
section
variable {H:Aa}{id g i:Nat}{L:List (zAa)}

end
theorem VbZ {a b:Nat}(h:a<=b):10^a<=10^b:=Wn (by omega) h
def Ha (c:UInt8):Bool:=decide (48<=c.toNat)&&decide (c.toNat<=57)
def FX (s:zAa):Nat:=(s.takeWhile Ha).length
theorem RM (s:zAa):FX s<=s.length:=(XM Ha).length_le
def Qv (c:UInt8)(s:zAa):FX (c::s)=if Ha c then FX s+1 else 0:=by unfold FX;rw[Xx];split<;>simp
def Vkc (s:zAa)(pos:Nat)(h:pos<s.length):((⟨s.toArray⟩:ByteArray)[pos]'(by show pos<s.toArray.size;simpa using h))=s[pos]:=by show s.toArray[pos]=s[pos];simp
def Vc4 (s:zAa):∀(f pos:Nat),pos<=s.length->s.length-pos<=f->Lib.idxFuncFrom L9 true ⟨s.toArray⟩ f pos=if pos+FX (s.drop pos)<s.length then ((pos+FX (s.drop pos):Nat):Int)else -1
 |0,pos,h1,h2=>by
  have:pos=s.length:=by omega
  subst this;rw[Lib.idxFuncFrom,zYb (by omega)]
 |f+1,pos,h1,h2=>by
  have hsz:(⟨s.toArray⟩:ByteArray).size=s.length:=by simp[ByteArray.size]
  unfold Lib.idxFuncFrom;rw[hsz];by_cases hp:pos<s.length
  ·rw[zYc hp,Wl hp,Qv];have hb:=Vkc s pos hp;by_cases ha:s[pos].toNat<128
   ·rw[decode_ascii ⟨s.toArray⟩ pos (by omega) (by rw[hb];exact ha),hb];simp only[];by_cases hd:Ha s[pos]=true;have mE:L9 s[pos].toNat=false:=(by simp only[Ha,VV,zXe]at hd;simp only[L9,Y1,zYl];omega);rw[mE,zYb (by simp),zYc hd,Vc4 s f (pos+1) (by omega) (by omega)];rw[show pos+(FX (s.drop (pos+1))+1)=pos+1+FX (s.drop (pos+1))by omega]
    ·have mE:L9 s[pos].toNat=true:=(by simp only[Ha,VV,zXe]at hd;simp only[L9,WQ,zXe];omega);rw[mE,zYc rfl,zYb hd,zYc (by omega)]
     rfl
   ·obtain⟨k1,k2⟩:=decode_high ⟨s.toArray⟩ pos (by omega) (by rw[hb];omega);have hd:¬Ha s[pos]=true:=(by simp only[Ha,VV,zXe];omega);have mE:L9 (Utf8.decode ⟨s.toArray⟩ pos).1=true:=(by simp only[L9,WQ,zXe];omega);rw[mE,zYc rfl,zYb hd,zYc (by omega)]
    rfl
  rw[zYb hp,zYb (by omega)]
def Vl9 (s:zAa):Lib.idxFunc L9 true ⟨s.toArray⟩=if FX s<s.length then (FX s:Int)else -1:=by
 have hsz:(⟨s.toArray⟩:ByteArray).size=s.length:=by simp[ByteArray.size]
 have:=Vc4 s s.length 0 (Wi _) (by omega);rw[VK,Xa]at this;rw[Lib.idxFunc,hsz,this]
def VjZ (s:zAa)(at':Int):Nat:=if at'<0 then 0 else FX (s.drop at'.toNat)
def VhP (s:zAa)(at':Int)(H:Aa)(hs:s.length<1152921504606846976):Uca (.str s) (.i6 at') H=some (.ret (.i6 (VjZ s at')),H):=by
 unfold Uca VjZ;by_cases h0:at'<0
 ·simp only[GMw,h0,zYd]
  rfl
 ·obtain⟨a,rfl⟩:∃a:Nat,at'=(a:Int):=⟨at'.toNat,by omega⟩;simp only[GMw,h0,zYe,CW,zXl];by_cases h1:a<=s.length;have eO:¬((a:Int)>(s.length:Int)):=(by omega);have hsl:BP (.str s) (some (.i6 (a:Int))) none=some (.str (s.drop a)):=(by simp[BP,B5,h1]);have hi:UaW (.str (s.drop a)) (.fn 235 []) H=some (.ret (.i6 (if FX (s.drop a)<(s.drop a).length then (FX (s.drop a):Int)else -1)),H):=(by unfold UaW;simp only[Vl9]);have hle:=RM (s.drop a);simp only[eO,GMw,hsl];by_cases hd:FX (s.drop a)<(s.drop a).length;have:¬((FX (s.drop a):Int)<0):=(by omega);rw[hi,zYc hd];simp only[this,GMw];have e:FX (s.drop a)=(s.drop a).length:=(by omega);rw[hi,zYb hd];simp only[show((-1:Int)<0) from by decide,GMw,CW,<-e]
  ·have eO:(a:Int)>(s.length:Int):=(by omega);rw[Xb (by omega)];simp only[eO,GMw]
   rfl
def Vdu (s:zAa)(at':Int)(H:Aa)(hs:s.length<1152921504606846976)(iY:-9223372036854775808<=at'/\at'<=9223372036854775807):Ud8 (.str s) (.i6 at') H=some (.ret (.i6 (VjZ s at')),H):=by
 unfold Ud8 VjZ;by_cases h0:at'<0
 ·rw[Dx Eh,zYc h0];unfold Ud7;have dT:¬at'>=0:=by omega
  simp only[GMw,Ak,dT]
  rfl
 ·obtain⟨a,rfl⟩:∃a:Nat,at'=(a:Int):=⟨at'.toNat,by omega⟩;rw[zYb h0,zXl];have key:=Bf (G:=λrec1 vs H1=>Ud7 H rec1 (ag vs 0) (ag vs 1) (ag vs 2) (ag vs 3) H1) (σ:=Nat) (λk=>k<=FX (s.drop a)/\FX (s.drop a)=k+FX (s.drop (a+k))) (λk=>[.str s,.i6 (a:Int),.i6 (k:Int),.i6 ((a+k:Nat):Int)]) (λ_=>H) (λk=>s.length-k)
   (λ_=>some (.ret (.i6 (FX (s.drop a):Int)),H)) (λk rec hk hrec=>?_) 0 ⟨Wi _,by simp⟩ (by omega)
  simpa using key
  ·obtain⟨h1,h2⟩:=hk;have hle:=RM (s.drop a);have hge:(a:Int)>=0:=(by omega);unfold Ud7;by_cases hlt:a+k<s.length
   ·have hlt':((a+k:Nat):Int)<(s.length:Int):=(by omega);rw[Wl hlt,Qv]at h2;have w1:I_.wrap ((k:Int)+1)=((k+1:Nat):Int):=(by rw[Am]<;>omega);have w2:I_.wrap (((a+k:Nat):Int)+1)=((a+(k+1):Nat):Int):=(by rw[Am]<;>omega);simp only[GMw,Ak,hge,CW,hlt',AQ hlt];by_cases hd:Ha s[a+k]=true;rw[zYc hd]at h2;have cC:=hd;simp only[Ha,VV,zXe]at cC;have c1:((s[a+k].toNat:Int)>=48):=(by omega);have c2:((s[a+k].toNat:Int)<=57):=(by omega);simp only[c1,GMw,AQ hlt,c2,w1,w2];exact hrec (k+1) ⟨by omega,by rw[show a+(k+1)=a+k+1 by omega];omega⟩ (by rw[Wd]at hle;omega)
    ·rw[zYb hd]at h2;simp only[Ha,VV,zXe]at hd;by_cases c1:((s[a+k].toNat:Int)>=48);have c2:¬((s[a+k].toNat:Int)<=57):=(by omega);simp only[c1,GMw,AQ hlt,c2];rw[h2];rfl
     simp only[c1,GMw];rw[h2];rfl
   have hlt':¬((a+k:Nat):Int)<(s.length:Int):=(by omega);rw[Xb (by omega:s.length<=a+k)]at h2;simp only[GMw,Ak,hge,CW,hlt'];rw[h2];rfl
def EC (s:zAa):Nat:=s.foldl (λv c=>v*10+(c.toNat-48)) 0
def Qw (s:zAa)(c:UInt8):EC (s++[c])=EC s*10+(c.toNat-48):=by simp[EC]
def P8 {s:zAa}(h:FX s=s.length):∀c∈s,Ha c=true:=by
 induction s with
 |nil=>intro c hc;cases hc
 |cons x s ih=>rw[Qv]at h;by_cases hx:Ha x=true;rw[zYc hx,zXj]at h;intro c hc;rcases WF.1 hc with e | e;rw[e];exact hx;exact ih (by omega) c e;rw[zYb hx]at h;simp at h
def II (c:UInt8):Ha c=true↔48<=c.toNat/\c.toNat<=57:=by simp[Ha]
theorem RN {s:zAa}(h:∀c∈s,Ha c=true):∀i,i<=s.length->EC (s.take i)<10^i
 |0,_=>by simp[EC]
 |i+1,hi=>by have:=RN h i (by omega);have hc:=(II _).1 (h _ (VY (show i<s.length by omega)));rw[VU (by omega),Qw,Nat.pow_succ];omega
def Iu (s:zAa):Bool:=match s with
 |c::_=>c==45
 |[]=>false
def BH (s:zAa):zAa:=if Iu s then s.drop 1 else s
def Jl (s:zAa):Bool:=BH s==[]||decide (FX (BH s)<(BH s).length)||((BH s)[0]?.getD 0==48 && !(s==[48]))
def Dg (s:zAa):Int:=if Jl s then 2 else if (BH s).length>400 then 4 else 0
def BQ (s:zAa):Int:=if Dg s=0 then (if Iu s then -(EC (BH s):Int)else EC (BH s))else 0
def VaM (s:zAa)(H:Aa)(hs:s.length<1152921504606846976):UbZ (.str s) (.str [45]) H=some (.ret (.tup [.str (BH s),.bool (Iu s)]),H):=by
 have hp:Ua4 (.str s) (.str [45]) H=some (.ret (.bool (Iu s)),H):=by unfold Ua4;cases s with|nil=>simp[BG,Iu]|cons c r=>have h1:((c::r).length:Int)>=(([45]:zAa).length:Int):=(by simp;omega);have h2:BP (.str (c::r)) none (some (.i6 (([45]:zAa).length:Int)))=some (.str [c]):=(by rw[OQ (by simp)];rfl);simp only[CW,GMw,h1,h2,Kz];simp[Iu]
 unfold UbZ Ued;cases hb:Iu s with
 |false=>simp only[GMw,hp,hb,Ba,Bd,BH,zYe]
 |true=>
  have h2:BP (.str s) (some (.i6 (([45]:zAa).length:Int))) none=some (.str (s.drop 1)):=by refine D0 (l:=1) ?_;cases s with|nil=>cases hb|cons c r=>simp
  simp only[GMw,hp,hb,CW,h2,Ba,Bd,BH,zYd]
def Viv {B:Aa}{d:zAa}{i:Nat}(h:i<d.length)(hd:d[i].toNat<128):Pb (.ptr B.length 0 0) (B++[.iter d i])=some (.tup [.bool true,.i6 (i:Int),.int .i32 (d[i].toNat:Int)],B++[.iter d (i+1)]):=by have hb:=Vkc d i h;have wX:=decode_ascii ⟨d.toArray⟩ i (by show i<d.toArray.size;simpa using h) (by rw[hb];exact hd);simp only[Pb,List.getElem?_concat_length,h,zYd,wX,hb,Bg]
def Viu {B:Aa}{d:zAa}:Pb (.ptr B.length 0 0) (B++[.iter d d.length])=some (.tup [.bool false],B++[.iter d d.length]):=by simp[Pb]
def NJ {H G:Aa}{zb:List Ab}{neg:Bool}{l:zAb}{tk:Tok}{e:Int}(hz:zb.length=2):(bP H (As (Ae 2 (.ptr H.length 0 0) (.agg [.bool neg,.sl (enL cU l) tk]) (H++(.c0 zb::G)))) λ_ H40=>(BV [Ad true 2 (.ptr H.length 0 0) H40,some (.i6 e)]).bind λx=>rPN H x H40)=some (.ret (.tup [.agg [.bool neg,.sl (enL cU l) .no],.i6 e]),H):=by
 have h1:Ae 2 (.ptr H.length 0 0) (.agg [.bool neg,.sl (enL cU l) tk]) (H++(.c0 zb::G))=some (H++(.c0 [.bool neg,.sl (enL cU l) tk]::G)):=by
  rw[IL,N0 (vs:=[.bool neg,.sl (enL cU l) tk]) rfl hz rfl]
  rfl
 have h2:Ad true 2 (.ptr H.length 0 0) (H++(.c0 [.bool neg,.sl (enL cU l) tk]::G))=some (.agg [.bool neg,.sl (enL cU l) tk]):=by rw[EP];rfl
 simp only[h1,GMw,h2,B2,AW,Bl,zXb,CD,CH,BC,BY,Ht,Fw,Gp,Jb,KU,Da]
def Ns:Ab.agg [.bool false,.sl (enL cU []) .no]=big 0:=by
 rw[JL,show(0:Int).natAbs=0 from rfl,Ef]
 rfl
def Vkg {neg:Bool}{n:Nat}(h:neg=true->n≠0):Ab.agg [.bool neg,.sl (enL cU (A8 n)) .no]=big (if neg then -(n:Int)else n):=by
 have h1:=Vbx neg n;have h2:sgn neg n=neg:=by unfold sgn;cases neg with|false=>rfl|true=>simp[h rfl]
 rw[h2]at h1;rw[h1]
 rfl
theorem OE:Az (some [(.bool false),(.sl [] .ti)]) []=some (.agg [.bool false,.sl (enL cU []) .ti]):=rfl
def VdO {neg:Bool}{es:List (List Ab)}{tk:Tok}:Az (some [(.bool false),(.sl [] .ti)]) [(0,1,.bool neg),(1,1,.sl es tk)]=some (.agg [.bool neg,.sl es tk]):=by simp[Az,Gy,D3]
def Rw {s:zAa}(h:Jl s=false):BH s≠[]/\FX (BH s)=(BH s).length/\((BH s)[0]?.getD 0=48->s=[48]):=by unfold Jl at h;simp only[Y1,Xq,beq_eq_false_iff_ne,zYl,ne_eq,Y5,beq_iff_eq]at h;have:=RM (BH s);refine⟨h.1.1,by omega,λh0=>?_⟩;rcases h.2 with h3 | h3;exact zYf h0 h3;exact h3
def VgA (c:UInt8)(s:zAa):EC (c::s)=(c.toNat-48)*10^s.length+EC s:=by
 have key:∀(s:zAa)(v:Nat),s.foldl (λv c=>v*10+(c.toNat-48)) v=v*10^s.length+EC s:=by
  intro s
  induction s with
  |nil=>intro v;simp[EC]
  |cons x s ih=>intro v;rw[List.foldl_cons,ih,zXj,Nat.pow_succ];have e:EC (x::s)=(x.toNat-48)*10^s.length+EC s:=(by have:=ih (0*10+(x.toNat-48));rw[XX,VK]at this;unfold EC;rw[List.foldl_cons,XX,VK];exact this);rw[e,WB,Xn v 10,WY 10];omega
 have:=key s (0*10+(c.toNat-48));rw[XX,VK]at this
 conv=>lhs;unfold EC
 rw[List.foldl_cons,XX,VK];exact this
def VlS {s:zAa}(h:Jl s=false)(hn:Iu s=true):EC (BH s)≠0:=by
 obtain⟨h1,h2,h3⟩:=Rw h;cases hd:BH s with
 |nil=>exact zYf hd h1
 |cons c r=>
  rw[VgA];have hc:=P8 h2 c (by rw[hd];simp);rw[II]at hc;have eY:c.toNat≠48:=λe=>by have:c=48:=XV e;have:=h3 (by rw[hd,this];rfl);rw[this]at hn;cases hn
  have:1<=10^r.length:=XE (by omega);have:1<=(c.toNat-48)*10^r.length:=Nat.mul_pos (by omega) this;omega
def Vhq {n:Int}(h0:-2147483648<=n)(h:n<=2147483647):IntKind.i32.wrap n=n:=by have h1:IntKind.i32.bits=32:=rfl;have h2:IntKind.i32.signed=true:=rfl;unfold IntKind.wrap;simp only[h1,h2,zXn];split<;>rename_i hc<;>simp at hc<;>omega
def Vhr {c:UInt8}(h:Ha c=true):IntKind.i32.wrap ((c.toNat:Int)-48)=((c.toNat-48:Nat):Int):=by rw[II]at h;rw[Vhq (by omega) (by omega)];omega
theorem MJ {n m:Nat}(h:n<10^m)(hm:m<=4096):(A8 n).length<=4096:=SV (n:=n) (WO (m:=10^m) h (VbZ (a:=m) (b:=4096) hm))
def VkK (s:zAa)(H:Aa)(hs:s.length<1152921504606846976):Ucd (.str s) H=some (.ret (.tup [big (BQ s),.i6 (Dg s)]),H):=by
 unfold Ucd;have jC:(BH s).length<=s.length:=by unfold BH;split<;>simp
 have pZ:=VaM s (H++[Blk.c0 [.bool false,.sl [] .ti]]) hs;have jU:=VhP (BH s) 0 (H++[Blk.c0 [.bool false,.sl [] .ti]]) (by omega);have nL:(VjZ (BH s) 0:Int)=(FX (BH s):Int):=by simp[VjZ]
 rw[nL]at jU;simp only[alloc_eq (cs:=[.bool false,.sl [] .ti]) rfl,BD,pZ,GMw,Ba,Bd,Kz];have tail:Uef H (.ptr H.length 0 0) (.str (BH s)) (.bool (Iu s)) (.bool (Jl s)) (H++[Blk.c0 [.bool false,.sl [] .ti]])=some (.ret (.tup [big (BQ s),.i6 (Dg s)]),H):=by
  unfold Uef;cases bG:Jl s with
  |true=>have hE:Dg s=2:=(by simp[Dg,bG]);have hZ:BQ s=0:=(by simp[BQ,hE]);rw[hE,hZ,<-Ns];simp only[GMw,OE];exact NJ rfl
  |false=>
   obtain⟨n1,n2,n3⟩:=Rw bG;simp only[GMw,CW];by_cases hl:(BH s).length>400;have eT:((BH s).length:Int)>400:=(by omega);have hE:Dg s=4:=(by simp[Dg,bG,hl]);have hZ:BQ s=0:=(by simp[BQ,hE]);rw[hE,hZ,<-Ns];simp only[eT,GMw,OE];exact NJ rfl
   ·have eT:¬((BH s).length:Int)>400:=(by omega);have hE:Dg s=0:=(by simp[Dg,bG,hl]);have hZ:BQ s=(if Iu s then -(EC (BH s):Int)else EC (BH s)):=(by simp[BQ,hE]);have hne:=VlS bG;have aD:=P8 n2;have hlt:=RN aD;rw[hE,hZ,<-Vkg (neg:=Iu s) hne];generalize hd:BH s=d at *;simp only[eT,GMw];have Ze:O1 (.str d) (H++[Blk.c0 [.bool false,.sl [] .ti]])=some (.ptr (H.length+1) 0 0,H++[.c0 [.bool false,.sl [] .ti]]++[.iter d 0]):=(by simp[O1]);simp only[Ze,GMw];have hBl:(H++[Blk.c0 [.bool false,.sl [] .ti]]).length=H.length+1:=(by simp);obtain⟨tkf,htk⟩:∃tkf:Nat->Tok,tkf=λi=>if i=0 then .ti else .no:=⟨_,rfl⟩
    have key:=Ct (G:=λaA vs H1=>Ucc H aA (ag vs 0) (ag vs 1) (ag vs 2) (ag vs 3) H1) d.length (λi=>[.ptr H.length 0 0,.bool (Iu s),.sl (enL cU (A8 (EC (d.take i)))) (tkf i),.ptr (H.length+1) 0 0])
     (λi=>H++[.c0 [.bool false,.sl [] .ti]]++[.iter d i]) (some (.ret (.tup [.agg [.bool (Iu s),.sl (enL cU (A8 (EC d))) .no],.i6 0]),H)) (by omega) (λrec i hi=>?_) (λrec=>?_)
    rw[List.take_zero,show EC []=0 from rfl,Ef,htk]at key;exact key;have sZ:=aD _ (VY hi);have wW:=(II _).1 sZ;have hnx:=Viv (B:=H++[Blk.c0 [.bool false,.sl [] .ti]]) hi (by omega);rw[hBl]at hnx;have hw:=Vhr sZ;have hcv:A5 .u32 (.int .i32 ((d[i].toNat-48:Nat):Int))=some (.int .u32 ((d[i].toNat-48:Nat):Int)):=(by rw[AV,CX (by omega) (by omega)]);have lJ:=MJ (hlt i (by omega)) (by omega);have hml:=λH=>Vpv (l:=A8 (EC (d.take i))) (tk:=tkf i) (m:=10) (c:=d[i].toNat-48) H (Bw _) (by omega) (by omega) (by omega);simp only[B6,<-Qw,<-VU hi,show((10:Nat):Int)=10 from rfl]at hml;have nU:tkf (i+1)=.no:=(by rw[htk];rfl);unfold Ucc;simp only[At,Ak,hnx,GMw,show ∀(x y z:Ab),Ao 2 (.tup [x,y,z])=some z from λ_ _ _=>rfl,show ∀(x y z:Ab),Ao 0 (.tup [x,y,z])=some x from λ_ _ _=>rfl,hw,hcv,hml,nU];have hnx:=Viu (B:=H++[Blk.c0 [.bool false,.sl [] .ti]]) (d:=d);rw[hBl]at hnx;unfold Ucc;simp only[At,Ak,hnx,GMw,show ∀(x:Ab),Ao 0 (.tup [x])=some x from λ_=>rfl,VdO,Wx];rw[VP H];exact NJ rfl
 by_cases h0:BH s=[]
 ·have bG:Jl s=true:=by simp[Jl,h0]
  rw[bG]at tail;simp only[h0,zYj,GMw]at tail⊢;exact tail
 ·have hb:(BH s==[])=false:=by simpa using h0
  simp only[hb,GMw,jU,CW];by_cases hlt:FX (BH s)<(BH s).length;have hlt':(FX (BH s):Int)<((BH s).length:Int):=(by omega);have bG:Jl s=true:=(by simp[Jl,hlt]);rw[bG]at tail;simp only[hlt',GMw];exact tail
  ·have hlt':¬(FX (BH s):Int)<((BH s).length:Int):=(by omega);obtain⟨c,r,dJ⟩:=List.exists_cons_of_ne_nil h0;have dC:Bc (.str (BH s)) (.i6 0)=some (.int .u8 (c.toNat:Int)):=(by rw[dJ];exact Tf);have bG:Jl s=((c==48) && !(s==[48])):=by
    simp only[Jl,hb,zXd hlt,zXo];rw[dJ]
    rfl
   have hcc:decide ((c.toNat:Int)=48)=(c==48):=(by rw[VZ];simp only[zXe,beq_iff_eq];constructor;intro h;exact XV (show c.toNat=(48:UInt8).toNat from by have:(48:UInt8).toNat=48:=rfl;omega);intro h;rw[h];rfl);rw[bG]at tail;simp only[hlt',GMw,dC,hcc];cases kX:(c==48)with|false=>rw[kX,WL]at tail;simp only[GMw];exact tail|true=>rw[kX,zXn]at tail;simp only[GMw];exact tail
def Ti (e:Int×zAa):Ab:=Th e.1 e.2
def PV (er:Er)(v:Ab):Res:=match er with
 |none=>.ret v
 |some e=>.pan (Ti e)
@[simp] theorem BA (v:Ab):PV none v=.ret v:=(rfl)
@[simp] theorem BO (e:Int×zAa)(v:Ab):PV (some e) v=.pan (Ti e):=(rfl)
theorem JS (b:zAa)(a:Nat)(s:zAa):QH b a s=Ti (Fi b a s):=by unfold QH Ti Fi;split<;>rfl
section
variable {H:Aa}{p a:Nat}{b:zAa}{r:List Ab}
theorem IS (h:Lx H p b a r)(s:zAa):Ucz (.ptr p 0 0) (.str s) H=some (.pan (Ti (Fi b a s)),H):=by rw[N5 h,<-JS];rfl
theorem VfA (h:Lx H p b a r)(ha:a<=b.length)(hb:b.length<1152921504606846976)(rest:zAa)(hr:rest.length<=1000000):Ua5 (.ptr p 0 0) (.str rest) H=some (PV (EA b a rest).1 (.tup []),Ci H p b r (EA b a rest).2):=by
 rw[Vn9 h ha hb rest hr];unfold VpM EA MN;by_cases e:a=b.length;have hs:=Ec h;rw[e]at hs;simp only[e,zYd,BA,hs];simp only[zYb e];cases hs:AE b (crN b a) [10]with|true=>simp only[zYd,BA]|false=>simp only[VL,zYe,BO,JS]
theorem ME (h:Lx H p b a r)(ha:a<=b.length)(hb:b.length<1152921504606846976)(s rest:zAa)(hs:s.length<=1000000)(hr:rest.length<=1000000):Uf8 (.ptr p 0 0) (.str s) (.str rest) H=some (PV (BW b a s rest).1 (.tup []),Ci H p b r (BW b a s rest).2):=by
 rw[Vlx h ha hb s rest hs hr];unfold Vlo BW SU;by_cases e:cpN (b.drop a) s<s.length;simp only[zYc e,BO,JS];simp only[zYb e,BA]
theorem Vi0 (h:Lx H p b a r)(ha:a<=b.length)(hb:b.length<1152921504606846976)(rest:zAa)(hr:rest.length<=1000000):UaZ (.ptr p 0 0) (.str rest) H=some (PV (Gi b a rest).1 (.str ((b.take (Gi b a rest).2).drop a)),Ci H p b r (Gi b a rest).2):=by
 rw[Vlw h ha hb rest hr];unfold Ve6 Gi;by_cases e:Et b a 40 a=a;simp only[e,zYd,BO,JS];simp only[zYb e,BA]
theorem Vf3 (b:zAa)(f:Nat)(rest:zAa):∀n a,O4 b f rest n a=((FU b f rest n a).1.map Ti,(FU b f rest n a).2)
 |0,a=>rfl
 |n+1,a=>by
  rw[O4,FU];split
  ·split;rw[JS];rfl
   ·split
    ·rfl
    exact Vf3 b f rest n (a+1)
  ·split;rw[JS];rfl
   ·rfl
theorem Vi1 (h:Lx H p b a r):p<H.length:=by rcases W4 p H.length with h' | h';exact h';unfold Lx at h;rw[zYa h']at h;cases h
theorem UH {G:Aa}{e:Nat}(h:p<H.length):Ci (H++G) p b r e=Ci H p b r e++G:=by unfold Ci;rw[List.set_append_left _ _ h]
theorem Vd1 (h:Lx H p b a r){f e:Nat}(sQ:f<=e)(he:e<=b.length)(hb:b.length<1152921504606846976)(zb:List Ab)(hz:zb.length=2):∃G,UaY H (.ptr p 0 0) (.ptr H.length 0 0) (.i6 (f:Int)) (Ci H p b r e++[.c0 zb])=some (.ret (big (BQ ((b.take e).drop f))),Ci H p b r e++G):=by
 have hx:=GA (a':=e) h;have hl:=VbJ H p e b r;have wG:∀G,Ad false 1 (.ptr p 0 0) (Ci H p b r e++G)=some (.str b):=λG=>Rj (Lx.push hx);have oP:∀G,Ad false 1 (.ptr p 0 1) (Ci H p b r e++G)=some (.i6 (e:Int)):=λG=>Gl (Lx.push hx);unfold UaY;rw[<-hl];generalize Ci H p b r e=K at *;have hq:=λH=>VkK ((b.take e).drop f) H (by simp only[Wd,Wc];omega);obtain⟨sg,es,dS⟩:∃sg es,big (BQ ((b.take e).drop f))=.agg [.bool sg,.sl es .no]:=⟨_,_,JL _⟩;rw[dS]at hq⊢;refine⟨[.c0 [.bool sg,.sl es .no],.c0 [.bool sg,.sl es .no]],?_⟩;simp only[GMw,HPw,Nat.reduceAdd,wG,oP,IF sQ he,hq,hz]
 rfl

end
theorem Vf0 (b:zAa)(f:Nat)(rest:zAa):∀n a,a<=b.length->a<=(FU b f rest n a).2/\(FU b f rest n a).2<=b.length:=λn a h=>by have:=Vf2 b f rest n a h;rw[Vf3]at this;exact this
def Vl6 {b:zAa}{a:Nat}(ha:a<=b.length)(neg:Bool):a<=Pq b a neg/\Pq b a neg<=b.length:=by
 unfold Pq;cases neg with
 |false=>exact⟨VM _,ha⟩
 |true=>cases hs:AE b a [45]with|true=>have:=Ca hs;simp;omega|false=>simpa using ha
def Dk {b:zAa}{a:Nat}(ha:a<=b.length)(neg:Bool)(rest:zAa):a<=(Cv b a neg rest).2/\(Cv b a neg rest).2<=b.length:=by unfold Cv;have h1:=Vl6 ha neg;have h2:=Vf0 b (Pq b a neg) rest 402 (Pq b a neg) h1.2;split;rename_i h;simp only[VV]at h;have:=Ca h.2;exact⟨Nat.le_succ _,by omega⟩;omega
section
variable {H:Aa}{p a:Nat}{b:zAa}{r:List Ab}
theorem Vi (h:Lx H p b a r){f:Nat}(haf:a<=f)(hf:f<=b.length)(hb:b.length<1152921504606846976)(rest:zAa)(hr:rest.length<=1000000)(zb:List Ab)(hz:zb.length=2):∃G,Ucg H (.ptr p 0 0) (.str rest) (.ptr H.length 0 0) (.i6 (a:Int)) (Ci H p b r f++[.c0 zb])=some (PV (FU b f rest 402 f).1 (big (BQ ((b.take (FU b f rest 402 f).2).drop a))),Ci H p b r (FU b f rest 402 f).2++G):=by
 have hp:=Vi1 h;have hx:Lx (Ci H p b r f++[.c0 zb]) p b f r:=Lx.push (GA h);have key:=VaX (H0:=H) hx hf hb rest hr (.ptr H.length 0 0) (.i6 (a:Int));have hle:=Vf0 b f rest 402 f hf;unfold Ucg;simp only[GMw,HPw,Gl hx];rw[key,Vf3];generalize FU b f rest 402 f=R at *;obtain⟨er,e⟩:=R;have yD:∀G:Aa,Ci (Ci H p b r f++G) p b r e=Ci H p b r e++G:=λG=>by rw[UH (by rw[VbJ];exact hp),UG]
 cases er with
 |some v=>refine⟨[.c0 zb],?_⟩;show some (Res.pan (Ti v),Ci _ p b r e)=_;rw[yD];rfl
 |none=>obtain⟨G,hG⟩:=Vd1 h (f:=a) (e:=e) (by dsimp only at hle;omega) hle.2 hb zb hz;refine⟨G,?_⟩;show UaY H (.ptr p 0 0) (.ptr H.length 0 0) (.i6 (a:Int)) (Ci _ p b r e)=_;rw[yD,hG];rfl
theorem N7 (h:Lx H p b a r)(ha:a<=b.length)(hb:b.length<1152921504606846976)(neg:Bool)(rest:zAa)(hr:rest.length<=1000000):∃G,Uap (.ptr p 0 0) (.bool neg) (.str rest) H=some (PV (Cv b a neg rest).1 (big (BQ ((b.take (Cv b a neg rest).2).drop a))),Ci H p b r (Cv b a neg rest).2++G):=by
 have hx:Lx (H++[.c0 [.bool false,.sl [] .ti]]) p b a r:=Lx.push h;have Zc:=Ec h;unfold Uap;have plain:Pq b a neg=a->Cv b a neg rest=FU b a rest 402 a->∃G,Ucg H (.ptr p 0 0) (.str rest) (.ptr H.length 0 0) (.i6 (a:Int)) (H++[.c0 [.bool false,.sl [] .ti]])=some (PV (Cv b a neg rest).1 (big (BQ ((b.take (Cv b a neg rest).2).drop a))),Ci H p b r (Cv b a neg rest).2++G):=by intro e1 e2;have:=Vi h (VM a) ha hb rest hr [.bool false,.sl [] .ti] rfl;rw[Zc]at this;rw[e2];exact this
 cases neg with
 |false=>simp only[GMw,HPw,Gl hx];exact plain rfl rfl
 |true=>
  simp only[GMw,HPw,Gl hx,E5 hx ha];cases hs:AE b a [45]with
  |false=>simp only[GMw];exact plain (by simp[Pq,hs]) (by simp[Cv,Pq,hs])
  |true=>have hlt:=Ca hs;have hm:=KK (a':=a) hx (a+1);rw[Ec hx]at hm;have hx1:=GA (a':=a+1) hx;have yC:=UH (b:=b) (r:=r) (G:=[.c0 [.bool false,.sl [] .ti]]) (e:=a+1) (Vi1 h);simp only[GMw,Ar (show a<9223372036854775807 by omega),hm,E5 hx1 (show a+1<=b.length by omega)];have e1:Pq b a true=a+1:=(by simp[Pq,hs]);cases h0:AE b (a+1) [48]with|true=>have e2:Cv b a true rest=(some (Fi b (a+1) []),a+1):=(by simp[Cv,hs,h0]);rw[e2];refine⟨[.c0 [.bool false,.sl [] .ti]],?_⟩;simp only[GMw,HPw,IS hx1];rw[yC];rfl|false=>have e2:Cv b a true rest=FU b (a+1) rest 402 (a+1):=(by simp[Cv,hs,h0,e1]);rw[e2];have:=Vi h (f:=a+1) (by omega) hlt hb rest hr [.bool false,.sl [] .ti] rfl;simp only[GMw];rw[yC];exact this

end
section
variable {H:Aa}{b:zAa}{a:Nat}
theorem Ext.push (b id:Nat)(hb:b<=H.length)(G:Aa):Ext b id H (H++G):=
 ⟨by simp,λi c hi hc=>A1 hc,λi hi=>VN (by omega)⟩
theorem Cp {s rest:zAa}(ha:a<=b.length):(BW b a s rest).2<=b.length:=Vba ha s
theorem R7 {rest:zAa}(ha:a<=b.length):a<=(Gi b a rest).2/\(Gi b a rest).2<=b.length:=VbM 40 a ha
theorem NR (ha:a<=b.length):L4 b a<=b.length:=by unfold L4;have:=(XM (l:=b.drop a) λc=>!([13,10]:zAa).contains c).length_le;rw[Wd]at this;omega

end
def NL {b:zAa}{a:Nat}(ha:a<=b.length)(rest:zAa):a<=(EA b a rest).2/\(EA b a rest).2<=b.length:=by refine⟨?_,VlJ ha⟩;show a<=MN b a;unfold MN crN;split;exact VM _;split<;>split<;>omega
def Vky {s:zAa}{c:UInt8}{r:zAa}(dJ:BH s=c::r)(hlt:¬FX (BH s)<(BH s).length):Jl s=((c==48)&&(decide (1<r.length+1)||Iu s)):=by
 have hb:(BH s==[])=false:=by rw[dJ];rfl
 have bG:Jl s=((c==48) && !(s==[48])):=by
  simp only[Jl,hb,zXd hlt,zXo];rw[dJ]
  rfl
 rw[bG];by_cases hc:c=48;subst hc;simp only[zYj,zXn];cases hn:Iu s with|true=>have:s≠[48]:=λe=>(by rw[e]at hn;cases hn);simp[this]|false=>have hs:s=48::r:=(by rw[<-dJ];simp[BH,hn]);rw[hs];cases r<;>simp
 ·have:(c==48)=false:=by simpa using hc
  simp[this]
def Vho {c:UInt8}(h:Ha c=true):J_.wrap ((c.toNat:Int)-48)=((c.toNat-48:Nat):Int):=by rw[II]at h;rw[DW (by omega) (by omega)];omega
def VgT {es:List (List Ab)}{tk:Tok}:Az (some [(.bool false),(.sl [] .ti)]) [(1,1,.sl es tk)]=some (.agg [.bool false,.sl es tk]):=by simp[Az,Gy,D3]
def PY (s:zAa)(H:Aa)(hs:s.length<1152921504606846976):UdA (.str s) H=some (.ret (.tup [big (BQ s),.i6 (Dg s)]),H):=by
 unfold UdA;have jC:(BH s).length<=s.length:=by unfold BH;split<;>simp
 have jU:=Vdu (BH s) 0 (H++[Blk.c0 [.bool false,.sl [] .ti]]) (by omega) (by omega);have nL:(VjZ (BH s) 0:Int)=(FX (BH s):Int):=by simp[VjZ]
 rw[nL]at jU;have tail:UeF H (.ptr H.length 0 0) (.str (BH s)) (.bool (Iu s)) (H++[Blk.c0 [.bool false,.sl [] .ti]])=some (.ret (.tup [big (BQ s),.i6 (Dg s)]),H):=by
  unfold UeF;have bad:∀e:Int,Dg s=e->e≠0->((Az (some [(.bool false),(.sl [] .ti)]) []).bind λx35=>
      bP H (As (Ae 2 (.ptr H.length 0 0) x35 (H++[Blk.c0 [.bool false,.sl [] .ti]]))) λ_ H37=>
      (BV [Ad true 2 (.ptr H.length 0 0) H37,some (.i6 e)]).bind λx38=>rPN H x38 H37)=some (.ret (.tup [big (BQ s),.i6 (Dg s)]),H):=by
   intro e he hne;have hZ:BQ s=0:=(by simp[BQ,he,hne]);rw[he,hZ,<-Ns,OE,BI];exact NJ rfl
  cases dJ:BH s with
  |nil=>have hE:Dg s=2:=(by simp[Dg,Jl,dJ]);simp only[CW,zXk,GMw,show((0:Nat):Int)=0 from rfl];exact bad 2 hE (by decide)
  |cons c r=>
   have dC:Bc (.str (c::r)) (.i6 0)=some (.int .u8 (c.toNat:Int)):=Tf;have hcc:decide ((c.toNat:Int)=48)=(c==48):=(by rw[VZ];simp only[zXe,beq_iff_eq];constructor;intro h;exact XV (show c.toNat=(48:UInt8).toNat from by have:(48:UInt8).toNat=48:=rfl;omega);intro h;rw[h];rfl);have hl0:¬(((c::r).length:Int)=0):=(by simp;omega);rw[dJ]at jU;simp only[CW,hl0,GMw,jU];by_cases hlt:FX (c::r)<(c::r).length;have bG:Jl s=true:=(by simp only[Jl,dJ,zXc hlt,XP,Xc]);have hne:¬((FX (c::r):Int)=((c::r).length:Int)):=(by omega);have hE:Dg s=2:=(by simp[Dg,bG]);simp only[hne,GMw];exact bad 2 hE (by decide)
   ·have hle:=RM (c::r);have heq:(FX (c::r):Int)=((c::r).length:Int):=(by omega);have qN:=Vky dJ (by rw[dJ];exact hlt);have hgt:decide (((c::r).length:Int)>1)=decide (1<r.length+1):=(by rw[VZ];simp only[zXe,zXj];omega);have fin:(∀(K:Ab->Out),True)->(Ai (.bool (Jl s)) ((Az (some [(.bool false),(.sl [] .ti)]) []).bind λx35=>
      bP H (As (Ae 2 (.ptr H.length 0 0) x35 (H++[Blk.c0 [.bool false,.sl [] .ti]]))) λ_ H37=>
      (BV [Ad true 2 (.ptr H.length 0 0) H37,some (.i6 2)]).bind λx38=>rPN H x38 H37) (
      (BG (.str (c::r))).bind λx39=>
      (Af .n .gtr x39 (.i6 400)).bind λx40=>
      Ai x40 (
      (Az (some [(.bool false),(.sl [] .ti)]) []).bind λx41=>
      bP H (As (Ae 2 (.ptr H.length 0 0) x41 (H++[Blk.c0 [.bool false,.sl [] .ti]]))) λ_ H43=>
      (BV [Ad true 2 (.ptr H.length 0 0) H43,some (.i6 4)]).bind λx44=>rPN H x44 H43) (
      An (λaA vs H_1=>UbI H aA (ag vs 0) (ag vs 1) (ag vs 2) (ag vs 3) (ag vs 4) H_1) AI [.ptr H.length 0 0,.str (c::r),.bool (Iu s),(.sl [] .ti),(.i6 0)] (H++[Blk.c0 [.bool false,.sl [] .ti]]))))=some (.ret (.tup [big (BQ s),.i6 (Dg s)]),H):=by
     intro _;cases bG:Jl s with
     |true=>have hE:Dg s=2:=(by simp[Dg,bG]);simp only[GMw];exact bad 2 hE (by decide)
     |false=>
      obtain⟨n1,n2,n3⟩:=Rw bG;simp only[GMw,CW];by_cases hl:(BH s).length>400;have eT:((c::r).length:Int)>400:=(by rw[dJ]at hl;omega);have hE:Dg s=4:=(by simp[Dg,bG,hl]);simp only[eT,GMw];exact bad 4 hE (by decide)
      ·have eT:¬((c::r).length:Int)>400:=(by rw[dJ]at hl;omega);have hE:Dg s=0:=(by simp[Dg,bG,hl]);have hZ:BQ s=(if Iu s then -(EC (BH s):Int)else EC (BH s)):=(by simp[BQ,hE]);have aD:=P8 n2;have sT:=RN aD;rw[hE,hZ];rw[<-dJ];rw[<-dJ]at eT;generalize hd:BH s=d at *;simp only[eT,GMw];obtain⟨tkf,htk⟩:∃tkf:Nat->Tok,tkf=λi=>if i=0 then .ti else .no:=⟨_,rfl⟩
       have key:=Ct (G:=λaA vs H1=>UbI H aA (ag vs 0) (ag vs 1) (ag vs 2) (ag vs 3) (ag vs 4) H1) d.length (λi=>[.ptr H.length 0 0,.str d,.bool (Iu s),.sl (enL cU (A8 (EC (d.take i)))) (tkf i),.i6 (i:Int)])
        (λi=>H++[.c0 [.bool false,.sl [] .ti]]) (some (.ret (.tup [big (if Iu s then -(EC d:Int)else EC d),.i6 0]),H)) (by omega) (λrec i hi=>?_) (λrec=>?_)
       rw[List.take_zero,show EC []=0 from rfl,Ef,htk]at key;exact key;have sZ:=aD _ (VY hi);have wW:=(II _).1 sZ;have aE:(i:Int)<(d.length:Int):=(by omega);have hw:=Vho sZ;have hcv:A5 .u32 (.int .u8 ((d[i].toNat-48:Nat):Int))=some (.int .u32 ((d[i].toNat-48:Nat):Int)):=(by rw[AV,CX (by omega) (by omega)]);have lJ:=MJ (sT i (by omega)) (by omega);have hml:=λH=>VkS (l:=A8 (EC (d.take i))) (tk:=tkf i) (m:=10) (c:=d[i].toNat-48) H (Bw _) (by omega) (by omega) (by omega);simp only[B6,<-Qw,<-VU hi,show((10:Nat):Int)=10 from rfl]at hml;have nU:tkf (i+1)=.no:=(by rw[htk];rfl);have w6:I_.wrap ((i:Int)+1)=((i+1:Nat):Int):=(by rw[Am]<;>omega);unfold UbI;simp only[GMw,Ak,CW,aE,AQ hi,hw,hcv,hml,nU,w6]
       ·have lJ:=MJ (sT d.length (VM _)) (by omega);rw[Wx]at lJ;have hst:∀B:Aa,Ae 2 (.ptr B.length 0 0) (.agg [.bool false,.sl (enL cU (A8 (EC d))) (tkf d.length)]) (B++[.c0 [.bool false,.sl [] .ti]])=some (B++[.c0 [.bool false,.sl (enL cU (A8 (EC d))) (tkf d.length)]]):=λB=>by
         rw[IL,N0 (sz:=2) (cs:=[.bool false,.sl [] .ti]) (vs:=[.bool false,.sl (enL cU (A8 (EC d))) (tkf d.length)]) rfl rfl rfl]
         rfl
        have hld:∀B:Aa,Ad true 2 (.ptr B.length 0 0) (B++[.c0 [.bool false,.sl (enL cU (A8 (EC d))) (tkf d.length)]])=some (.agg [.bool false,.sl (enL cU (A8 (EC d))) (tkf d.length)]):=λB=>(by rw[EP];rfl);have pP:=λH=>PZ false (A8 (EC d)) (tkf d.length) H (by omega) (Bw _);have qB:El false (A8 (EC d))=(EC d:Int):=(by simp[El,B6]);simp only[qB]at pP;unfold UbI;simp only[GMw,Ak,CW,Wv,Wx,VgT,alloc_eq (cs:=[.bool false,.sl [] .ti]) rfl];rw[hst];simp only[GMw];cases hn:Iu s with|true=>simp only[GMw,zYd];rw[hld];simp only[GMw,pP];rw[JL,VP H];exact NJ rfl|false=>simp only[GMw,zYe];rw[hld];simp only[GMw];have hbo:Ab.agg [.bool false,.sl (enL cU (A8 (EC d))) .no]=big (EC d:Int):=Vkg (neg:=false) (λh=>by cases h);rw[VP H,<-hbo];exact NJ rfl
    have fin2:=fin (λ_=>trivial);simp only[heq,GMw,dC,hcc];rw[qN]at fin2;cases kX:(c==48)with
    |false=>rw[kX,WL]at fin2;simp only[GMw];exact fin2
    |true=>rw[kX,zXn]at fin2;simp only[GMw,CW,hgt];cases pT:decide (1<r.length+1)with|true=>rw[pT,Xc]at fin2;simp only[GMw];exact fin2|false=>rw[pT,zXo]at fin2;simp only[GMw];exact fin2
 simp only[alloc_eq (cs:=[.bool false,.sl [] .ti]) rfl,BD,GMw,CW];cases s with
 |nil=>simp only[zXk,show ¬(((0:Nat):Int)>0) from by decide,GMw];exact tail
 |cons c r=>
  have hgt:((c::r).length:Int)>0:=by simp
  have dC:Bc (.str (c::r)) (.i6 0)=some (.int .u8 (c.toNat:Int)):=Tf;have hcc:decide ((c.toNat:Int)=45)=Iu (c::r):=by rw[VZ];simp only[zXe,Iu,beq_iff_eq];constructor;intro h;exact XV (show c.toNat=(45:UInt8).toNat from by have:(45:UInt8).toNat=45:=rfl;omega);intro h;rw[h];rfl
  simp only[hgt,GMw,dC,hcc];cases hn:Iu (c::r)with|true=>have h2:BP (.str (c::r)) (some (.i6 1)) none=some (.str ((c::r).drop 1)):=D0 (l:=1) (by simp);rw[hn]at tail;have ht:BH (c::r)=(c::r).drop 1:=(by simp[BH,hn]);rw[ht]at tail;simp only[GMw,h2];exact tail|false=>rw[hn]at tail;have ht:BH (c::r)=c::r:=(by simp[BH,hn]);rw[ht]at tail;simp only[GMw];exact tail
def Vip {s:zAa}(h:Dg s=0):Jl s=false/\(BH s).length<=400:=by
 unfold Dg at h;cases hs:Jl s with
 |true=>rw[hs]at h;simp at h
 |false=>
  rw[hs]at h;simp only[VL,zYe]at h;refine⟨rfl,?_⟩;split at h
  cases h;omega
theorem Vfo (k:Nat):Int.natAbs 0<10^k:=XE (by omega)
def Gx (s:zAa):(BQ s).natAbs<10^400:=by unfold BQ;split;rename_i h;obtain⟨h1,h2⟩:=Vip h;have aD:=P8 (Rw h1).2.1;have:=RN aD (BH s).length (VM _);rw[Wx]at this;have h3:=WO this (VbZ h2);split;rw[Int.natAbs_neg,Int.natAbs_natCast];exact h3;rw[Int.natAbs_natCast];exact h3;exact Vfo 400
theorem IQ {b:zAa}{a:Nat}(s rest:zAa):a<=(BW b a s rest).2:=Nat.le_add_right a (cpN (b.drop a) s)
structure BSt where
 law:zAa
 block:Bool
 x:Int
 y:Int
 rows:Nat
 cells:List Cl
def Vmc {x y:Int}{u v n:Nat}(hx:x.natAbs<10^400)(hy:y.natAbs<10^400)(hu:u<=n)(hv:v<=n)(hn:n<=1152921504606846976):Cl.ok ⟨x+u,y+v,1⟩:=by
 have h:(10:Nat)^400+1152921504606846976<4294967296^100:=by decide +kernel
 unfold Cl.ok SB;constructor<;>dsimp only<;>omega
def Vhd {b:zAa}{a:Nat}:a<=L4 b a:=by unfold L4;omega
structure LSt where
 law:zAa
 x:Int
 y:Int
 col:Nat
 row:Nat
 cells:List Cl
def B9:zAa:=[120,32,61,32,48,44,32,121,32,61,32,48,44,32,114,117,108,101,32,61,32,97,10,33]
def Jm:zAa:=[35,67,88,82,76,69,32]
def JZ:zAa:=[80,111,115,61]
def Ik (b:zAa)(a:Nat)(rest:zAa):Er×Nat:=if a=b.length then (some (Fi b a (10::rest)),a)else EA b a rest
def M0 (b:zAa)(a:Nat)(st:LSt):(Er×Nat)×LSt:=
 if cpN (b.drop a) Jm<7 then (Ik b (L4 b a) B9,st)
 else match BW b (a+7) JZ ([48,44,48,10]++B9)with
 |(some e,c)=>((some e,c),st)
 |(none,c)=>match Cv b c true ([44,48,10]++B9)with
  |(some e,d)=>((some e,d),st)
  |(none,d)=>match BW b d [44] ([48,10]++B9)with
   |(some e,f)=>((some e,f),{st with x:=BQ ((b.take d).drop c)})
   |(none,f)=>match Cv b f true (10::B9)with
    |(some e,g)=>((some e,g),{st with x:=BQ ((b.take d).drop c)})
    |(none,g)=>(Ik b g B9,{st with x:=BQ ((b.take d).drop c),y:=BQ ((b.take g).drop f)})
def Mz (b:zAa):Nat->Nat->LSt->(Er×Nat)×LSt
 |0,a,st=>((none,a),st)
 |k+1,a,st=>if AE b a [35]then match M0 b a st with
   |((some e,c),st')=>((some e,c),st')
   |((none,c),st')=>Mz b k c st'
  else ((none,a),st)
def szA:zAa:=[120,32,61,32]
def szB:zAa:=[44,32,121,32,61,32]
def szC:zAa:=[44,32,114,117,108,101,32,61,32]
def Mw:zAa:=[48,44,32,121,32,61,32,48,44,32,114,117,108,101,32,61,32,97,10,33]
def Oz:zAa:=[44,32,121,32,61,32,48,44,32,114,117,108,101,32,61,32,97,10,33]
def NU:zAa:=[48,44,32,114,117,108,101,32,61,32,97,10,33]
def Oy:zAa:=[44,32,114,117,108,101,32,61,32,97,10,33]
def Rg (b:zAa)(a:Nat)(st:LSt):(Er×Nat)×LSt:=
 match BW b a szA Mw with
 |(some e,c)=>((some e,c),st)
 |(none,c)=>match Cv b c false Oz with
  |(some e,d)=>((some e,d),st)
  |(none,d)=>match BW b d szB NU with
   |(some e,f)=>((some e,f),st)
   |(none,f)=>match Cv b f false Oy with
    |(some e,g)=>((some e,g),st)
    |(none,g)=>match BW b g szC [97,10,33]with
     |(some e,h)=>((some e,h),st)
     |(none,h)=>match Gi b h [10,33]with
      |(some e,i)=>((some e,i),st)
      |(none,i)=>(Ik b i [33],{st with law:=(b.take i).drop h})
def ViI (b:zAa)(a:Nat)(st:LSt):(Er×Nat)×LSt:=
 match Mz b (b.length+1) a st with
 |((some e,c),st')=>((some e,c),st')
 |((none,c),st')=>Rg b c st'
def Ij (b:zAa)(f:Nat):Nat->Nat->Nat->Er×Nat×Nat
 |0,a,n=>(none,a,n)
 |k+1,a,n=>
  if AE b a DU then
   if decide (n=0)&&AE b a [48]then (some (Fi b a []),a,n)
   else if a-f=9 then (some (4,[]),a,n)
   else Ij b f k (a+1) (10*n+Jo b a)
  else (none,a,n)
def Ir:zAa:=[65,66,67,68,69,70,71,72,73,74,75,76,77,78,79,80,81,82,83,84,85,86,87,88]
def Ph:zAa:=[112,113,114,115,116,117,118,119,120,121]
def Vp:zAa:=[80,81,82,83,84,85,86,87,88]
def atV (b:zAa)(a:Nat):Nat:=(b.getD a 0).toNat
def Fe (b:zAa)(a:Nat):Er×Nat×Nat:=
 if AE b a [46,98]then (none,a,0)
 else if AE b a [111]then (none,a,1)
 else if AE b a Ir then (none,a,atV b a-65+1)
 else if AE b a Ph then
  if !AE b (a+1) Ir||(decide (b[a]? = some 121)&&AE b (a+1) Vp)then (some (Fi b (a+1) [65,33]),a+1,0)
  else (none,a+1,24*(atV b a-112)+(atV b (a+1)-65)+25)
 else (some (Fi b a [98,33]),a,0)
def Qb (st:LSt)(n s:Nat):List Cl:=(List.range n).map λi=>⟨st.x+((st.col+i:Nat):Int),st.y+(st.row:Int),UInt8.ofNat s⟩
def Ix (bx:Int)(n s:Nat)(st:LSt):Er×LSt:=
 if s=0 then (none,{st with col:=st.col+n})
 else if decide ((st.row:Int)>=bx)||decide ((st.col:Int)+n>bx)then (some (4,[]),st)
 else (none,{st with col:=st.col+n,cells:=st.cells++Qb st n s})
def JP (b:zAa)(bx:Int)(a:Nat)(st:LSt):((Er×Nat)×LSt)×Bool:=
 match Ij b a 11 a 0 with
 |(some e,c,_)=>(((some e,c),st),false)
 |(none,c,t)=>
  if AE b c [36]then (((none,c+1),{st with row:=st.row+max t 1,col:=0}),false)
  else if AE b c [33]&&decide (t=0)then (((none,c),st),true)
  else match Fe b c with
   |(some e,d,_)=>(((some e,d),st),false)
   |(none,d,s)=>match Ix bx (max t 1) s st with
    |(some e,st')=>(((some e,d),st'),false)
    |(none,st')=>(((none,d+1),st'),false)
def Ov (b:zAa)(bx:Int):Nat->Nat->LSt->(Er×Nat)×LSt
 |0,a,st=>((none,a),st)
 |k+1,a,st=>
  if a=b.length then ((some (Fi b a [33]),a),st)
  else if AE b a [32]then Ov b bx k (a+1) st
  else if AE b a [13,10]then match EA b a [33]with
   |(some e,c)=>((some e,c),st)
   |(none,c)=>Ov b bx k c st
  else match JP b bx a st with
   |(s,true)=>s
   |(((some e,c),st'),false)=>((some e,c),st')
   |(((none,c),st'),false)=>Ov b bx k c st'
def Mi (b:zAa)(bx:Int)(st:LSt):(Er×Nat)×LSt:=
 match ViI b 0 st with
 |((some e,c),st')=>((some e,c),st')
 |((none,c),st')=>Ov b bx (b.length+1) c st'
def Ff:LSt:=⟨[],0,0,0,0,[]⟩
def HR (b:zAa)(bx N:Int):(zAa×List Nd)×Int×Int:=
 if Iq bx N then
  match Mi b bx Ff with
  |((some e,c),_)=>(([],[]),(c:Int),e.1)
  |((none,_),st)=>
   if decide ((Iy st.cells).2=0)&&decide (((Iy st.cells).1.length:Int)<=N)then ((st.law,(Iy st.cells).1),0,0)
   else (([],[]),(b.length:Int),4)
 else (([],[]),0,1)
def Vw (b:zAa):zAa×Bool:=match (Mi b 1000 Ff).1.1 with
 |none=>([],true)
 |some e=>(e.2,decide (e.1=0)||decide (e.1=3))
structure LOk (n:Nat)(st:LSt):Prop where
 x:st.x.natAbs<10^400
 y:st.y.natAbs<10^400
 c:st.col<=1000000000*n
 r:st.row<=1000000000*n
 k:st.cells.length<=1000*n
 ok:∀c∈st.cells,c.ok
theorem LOk.mono {n m:Nat}{st:LSt}(h:LOk n st)(hm:n<=m):LOk m st:=⟨h.x,h.y,Wg h.c (Xd _ hm),Wg h.r (Xd _ hm),Wg h.k (Xd _ hm),h.ok⟩
def Vbr {b:zAa}{a:Nat}(ha:a<=b.length)(rest:zAa):a<=(Ik b a rest).2/\(Ik b a rest).2<=b.length:=by unfold Ik;split;exact⟨VM _,ha⟩;exact NL ha rest
def Vbs (b:zAa)(a:Nat)(rest:zAa):Dt (Ik b a rest).1:=by unfold Ik;split;exact .stp _ _ _;exact J4 _ _ _
structure Vjv (b:zAa)(a:Nat)(st:LSt)(s:(Er×Nat)×LSt):Prop where
 le:s.1.2<=b.length
 ge:a<=s.1.2
 er:Dt s.1.1
 ok:∀n,LOk n st->LOk n s.2
def VaK {b:zAa}{a:Nat}(ha:a<=b.length)(st:LSt):Vjv b a st (M0 b a st):=by
 unfold M0;split;have h1:=NR ha;have h2:=Vhd (b:=b) (a:=a);have h3:=Vbr h1 B9;exact⟨h3.2,by dsimp only;omega,Vbs _ _ _,λn h=>h⟩
 ·rename_i hc;have hle:=Hz (b.drop a) Jm;have h0:a+7<=b.length:=by rw[Wd]at hle;omega
  have h1:=Cp (s:=JZ) (rest:=[48,44,48,10]++B9) h0;have h2:=IQ (b:=b) (a:=a+7) JZ ([48,44,48,10]++B9);have hE:=Dh b (a+7) JZ ([48,44,48,10]++B9);generalize BW b (a+7) JZ ([48,44,48,10]++B9)=M at h1 h2 hE;obtain⟨er,c⟩:=M;dsimp only at h1 h2 hE;cases er with
  |some e=>exact⟨h1,by dsimp only;omega,hE,λn h=>h⟩
  |none=>
   have h3:=Dk h1 true ([44,48,10]++B9);have hE:=Fa b c true ([44,48,10]++B9);dsimp only;generalize Cv b c true ([44,48,10]++B9)=M at h3 hE;obtain⟨er,d⟩:=M;dsimp only at h3 hE;cases er with
   |some e=>exact⟨h3.2,by dsimp only;omega,hE,λn h=>h⟩
   |none=>
    have h4:=Cp (s:=[44]) (rest:=[48,10]++B9) h3.2;have h5:=IQ (b:=b) (a:=d) [44] ([48,10]++B9);have hE:=Dh b d [44] ([48,10]++B9);dsimp only;generalize BW b d [44] ([48,10]++B9)=M at h4 h5 hE;obtain⟨er,f⟩:=M;dsimp only at h4 h5 hE;cases er with
    |some e=>exact⟨h4,by dsimp only;omega,hE,λn h=>⟨Gx _,h.y,h.c,h.r,h.k,h.ok⟩⟩
    |none=>have h6:=Dk h4 true (10::B9);have hE:=Fa b f true (10::B9);dsimp only;generalize Cv b f true (10::B9)=M at h6 hE;obtain⟨er,g⟩:=M;dsimp only at h6 hE;cases er with|some e=>exact⟨h6.2,by dsimp only;omega,hE,λn h=>⟨Gx _,h.y,h.c,h.r,h.k,h.ok⟩⟩|none=>have h7:=Vbr h6.2 B9;exact⟨h7.2,by dsimp only;omega,Vbs _ _ _,λn h=>⟨Gx _,Gx _,h.c,h.r,h.k,h.ok⟩⟩
def Vbq {b:zAa}{a:Nat}(ha:a<=b.length)(rest:zAa)(h:(Ik b a rest).1=none):a<(Ik b a rest).2:=by
 unfold Ik at h⊢;by_cases he:a=b.length;rw[zYc he]at h;cases h
 ·rw[zYb he]at h⊢;unfold EA at h⊢;simp only[zYb he]at h;split at h
  rename_i hs;unfold MN;rw[zYb he,zYc hs];have:a<=crN b a:=(by unfold crN;split<;>omega);dsimp only;rw[zYb he,zYc hs];omega;cases h
def VaJ {b:zAa}{a:Nat}(ha:a<=b.length)(st:LSt)(h:(M0 b a st).1.1=none):a<(M0 b a st).1.2:=by
 unfold M0 at h⊢;split at h
 rename_i hc;rw[zYc hc];have h1:=NR ha;have h2:=Vhd (b:=b) (a:=a);have:=Vbq h1 B9 h;dsimp only;omega
 ·rename_i hc;rw[zYb hc];have hle:=Hz (b.drop a) Jm;have h0:a+7<=b.length:=by rw[Wd]at hle;omega
  have h1:=Cp (s:=JZ) (rest:=[48,44,48,10]++B9) h0;have h2:=IQ (b:=b) (a:=a+7) JZ ([48,44,48,10]++B9);generalize BW b (a+7) JZ ([48,44,48,10]++B9)=M at h h1 h2;obtain⟨er,c⟩:=M;dsimp only at h h1 h2⊢;cases er with
  |some e=>cases h
  |none=>
   have h3:=Dk h1 true ([44,48,10]++B9);dsimp only at h⊢;generalize Cv b c true ([44,48,10]++B9)=M at h h3;obtain⟨er,d⟩:=M;dsimp only at h h3⊢;cases er with
   |some e=>cases h
   |none=>
    have h4:=Cp (s:=[44]) (rest:=[48,10]++B9) h3.2;have h5:=IQ (b:=b) (a:=d) [44] ([48,10]++B9);dsimp only at h⊢;generalize BW b d [44] ([48,10]++B9)=M at h h4 h5;obtain⟨er,f⟩:=M;dsimp only at h h4 h5⊢;cases er with
    |some e=>cases h
    |none=>have h6:=Dk h4 true (10::B9);dsimp only at h⊢;generalize Cv b f true (10::B9)=M at h h6;obtain⟨er,g⟩:=M;dsimp only at h h6⊢;cases er with|some e=>cases h|none=>have:=Vbq h6.2 B9 h;dsimp only;omega
theorem VbN {b:zAa}:∀(k a:Nat)(st:LSt),a<=b.length->Vjv b a st (Mz b k a st)
 |0,a,st,ha=>⟨ha,VM _,.none,λn h=>h⟩
 |k+1,a,st,ha=>by
  unfold Mz;split;have h:=VaK ha st;generalize M0 b a st=M at h;obtain⟨⟨er,c⟩,st'⟩:=M;obtain⟨h1,h2,h3,h4⟩:=h;cases er with|some e=>exact⟨h1,h2,h3,h4⟩|none=>have ih:=VbN k c st' h1;exact⟨ih.le,Wg h2 ih.ge,ih.er,λn h=>ih.ok n (h4 n h)⟩
  exact⟨ha,VM _,.none,λn h=>h⟩
def Vk0 {b:zAa}{a:Nat}(ha:a<=b.length)(st:LSt):Vjv b a st (Rg b a st):=by
 unfold Rg;have h1:=Cp (s:=szA) (rest:=Mw) ha;have h2:=IQ (b:=b) (a:=a) szA Mw;have hE:=Dh b a szA Mw;generalize BW b a szA Mw=M at h1 h2 hE;obtain⟨er,c⟩:=M;dsimp only at h1 h2 hE;cases er with
 |some e=>exact⟨h1,h2,hE,λn h=>h⟩
 |none=>
  have h3:=Dk h1 false Oz;have hE:=Fa b c false Oz;dsimp only;generalize Cv b c false Oz=M at h3 hE;obtain⟨er,d⟩:=M;dsimp only at h3 hE;cases er with
  |some e=>exact⟨h3.2,by dsimp only;omega,hE,λn h=>h⟩
  |none=>
   have h4:=Cp (s:=szB) (rest:=NU) h3.2;have h5:=IQ (b:=b) (a:=d) szB NU;have hE:=Dh b d szB NU;dsimp only;generalize BW b d szB NU=M at h4 h5 hE;obtain⟨er,f⟩:=M;dsimp only at h4 h5 hE;cases er with
   |some e=>exact⟨h4,by dsimp only;omega,hE,λn h=>h⟩
   |none=>
    have h6:=Dk h4 false Oy;have hE:=Fa b f false Oy;dsimp only;generalize Cv b f false Oy=M at h6 hE;obtain⟨er,g⟩:=M;dsimp only at h6 hE;cases er with
    |some e=>exact⟨h6.2,by dsimp only;omega,hE,λn h=>h⟩
    |none=>
     have h7:=Cp (s:=szC) (rest:=[97,10,33]) h6.2;have h8:=IQ (b:=b) (a:=g) szC [97,10,33];have hE:=Dh b g szC [97,10,33];dsimp only;generalize BW b g szC [97,10,33]=M at h7 h8 hE;obtain⟨er,h⟩:=M;dsimp only at h7 h8 hE;cases er with
     |some e=>exact⟨h7,by dsimp only;omega,hE,λn h=>h⟩
     |none=>have h9:=R7 (rest:=[10,33]) h7;have hE:=VaF b h [10,33];dsimp only;generalize Gi b h [10,33]=M at h9 hE;obtain⟨er,i⟩:=M;dsimp only at h9 hE;cases er with|some e=>exact⟨h9.2,by dsimp only;omega,hE,λn h=>h⟩|none=>have hz:=Vbr h9.2 [33];exact⟨hz.2,by dsimp only;omega,Vbs _ _ _,λn h=>⟨h.x,h.y,h.c,h.r,h.k,h.ok⟩⟩
def Vbd {b:zAa}{a:Nat}(ha:a<=b.length)(st:LSt):Vjv b a st (ViI b a st):=by unfold ViI;have h:=VbN (b.length+1) a st ha;generalize Mz b (b.length+1) a st=M at h;obtain⟨⟨er,c⟩,st'⟩:=M;obtain⟨h1,h2,h3,h4⟩:=h;cases er with|some e=>exact⟨h1,h2,h3,h4⟩|none=>have hs:=Vk0 h1 st';exact⟨hs.le,Wg h2 hs.ge,hs.er,λn h=>hs.ok n (h4 n h)⟩
def Vg9 {b:zAa}{a:Nat}(h:AE b a DU=true):Jo b a<=9:=by
 have hl:=Ca h;unfold AE at h;unfold Jo;rw[VG hl]at h;rw[VO,VG hl];have:b[a]∈DU:=by simpa using h
 have key:∀x∈DU,x.toNat-48<=9:=by decide
 exact key _ this
structure Vqr (b:zAa)(a:Nat)(s:Er×Nat×Nat):Prop where
 le:s.2.1<=b.length
 ge:a<=s.2.1
 n:s.2.2<=999999999
 er:Dt s.1
def VgF {b:zAa}{f:Nat}:∀(k a n:Nat),a<=b.length->f<=a->a<=f+9->n<10^(a-f)->Vqr b a (Ij b f k a n)
 |0,a,n,h1,h2,h3,h4=>⟨h1,VM _,by have:=Wn (show 0<10 by decide) (show a-f<=9 by omega);unfold Ij;dsimp only;omega,.none⟩
 |k+1,a,n,h1,h2,h3,h4=>by
  have hn:n<=999999999:=by have:=Wn (show 0<10 by decide) (show a-f<=9 by omega);omega
  unfold Ij;split;rename_i hs;have hlt:=Ca hs;have hd:=Vg9 hs;split;exact⟨h1,VM _,hn,.stp _ _ _⟩;split;exact⟨h1,VM _,hn,.lim⟩;rename_i h9;have ih:=VgF (f:=f) (b:=b) k (a+1) (10*n+Jo b a) (by omega) (by omega) (by omega) (by rw[show a+1-f=a-f+1 by omega,Nat.pow_succ];omega);exact⟨ih.le,by have:=ih.ge;omega,ih.n,ih.er⟩;exact⟨h1,VM _,hn,.none⟩
theorem TB {b:zAa}{a:Nat}(h:a<=b.length):Vqr b a (Ij b a 11 a 0):=VgF 11 a 0 h (VM _) (by omega) (by simp)
structure Vq7 (b:zAa)(a:Nat)(s:Er×Nat×Nat):Prop where
 le:s.2.1<=b.length
 ge:a<=s.2.1
 up:s.1=none->s.2.1<b.length
 er:Dt s.1
def R5 {b:zAa}{a:Nat}(h:a<=b.length):Vq7 b a (Fe b a):=by
 unfold Fe;split;rename_i hs;have:=Ca hs;exact⟨h,VM _,λ_=>this,.none⟩
 ·split;rename_i hs;have:=Ca hs;exact⟨h,VM _,λ_=>this,.none⟩
  ·split;rename_i hs;have:=Ca hs;exact⟨h,VM _,λ_=>this,.none⟩
   ·split;rename_i hs;have hlt:=Ca hs;split;exact⟨by dsimp only;omega,by dsimp only;omega,λh=>(by cases h),.stp _ _ _⟩;rename_i hc;have mC:AE b (a+1) Ir=true:=(by cases hq:AE b (a+1) Ir with|true=>rfl|false=>rw[hq]at hc;exact zYf rfl hc);have:=Ca mC;exact⟨by dsimp only;omega,by dsimp only;omega,λ_=>this,.none⟩;exact⟨h,VM _,λh=>(by cases h),.stp _ _ _⟩
def Vcb (st:LSt)(n s:Nat):(Qb st n s).length=n:=by simp[Qb]
def VkZ {bx:Int}(hbx:bx<=1000){n s m:Nat}{st:LSt}(hn:n<=999999999)(hm:m<=1000000)(h:LOk m st):LOk (m+1) (Ix bx n s st).2/\Dt (Ix bx n s st).1:=by
 have hc:=h.c;have hr:=h.r;have hk:=h.k;unfold Ix;split;exact⟨⟨h.x,h.y,by dsimp only;omega,by dsimp only;omega,by dsimp only;omega,h.ok⟩,.none⟩
 ·split;exact⟨h.mono (by omega),.lim⟩;rename_i hq;simp only[WQ,zXe,not_or]at hq;refine⟨⟨h.x,h.y,by dsimp only;omega,by dsimp only;omega,?_,λc hc=>?_⟩,.none⟩;rw[VR,Vcb];omega;rcases Wk.1 hc with q | q;exact h.ok c q;obtain⟨i,hi,rfl⟩:=WZ.1 q;have aE:i<n:=(by simpa using hi);have key:=Vmc (x:=st.x) (y:=st.y) (u:=st.col+i) (v:=st.row) (n:=1000) h.x h.y (by omega) (by omega) (by decide);exact key
structure Vq6 (b:zAa)(a:Nat)(st:LSt)(s:((Er×Nat)×LSt)×Bool):Prop where
 le:s.1.1.2<=b.length
 ge:a<=s.1.1.2
 up:s.1.1.1=none->s.2=false->a<s.1.1.2
 er:Dt s.1.1.1
 ok:∀n,n<=1000000->LOk n st->LOk (n+1) s.1.2
 no:s.2=true->s.1.1.1=none
def Va5 {b:zAa}{bx:Int}(hbx:bx<=1000){a:Nat}(ha:a<=b.length)(st:LSt):Vq6 b a st (JP b bx a st):=by
 unfold JP;have h1:=TB ha;generalize Ij b a 11 a 0=M at h1;obtain⟨er,c,t⟩:=M;obtain⟨c1,c2,c3,c4⟩:=h1;dsimp only at c1 c2 c3 c4;cases er with
 |some e=>exact⟨c1,c2,λh=>(by cases h),c4,λn _ h=>h.mono (by omega),λh=>(by cases h)⟩
 |none=>
  dsimp only;have lN:max t 1<=999999999:=by omega
  split;rename_i hs;have:=Ca hs;exact⟨by dsimp only;omega,by dsimp only;omega,λ_ _=>by dsimp only;omega,.none,λn _ h=>⟨h.x,h.y,Wi _,by have:=h.r;dsimp only;omega,Wg h.k (Xd _ (by omega)),h.ok⟩,λh=>(by cases h)⟩
  ·split;exact⟨c1,c2,λ_ h=>(by cases h),.none,λn _ h=>h.mono (by omega),λ_=>rfl⟩
   ·have h2:=R5 c1;generalize Fe b c=M at h2;obtain⟨er,d,s⟩:=M;obtain⟨d1,d2,d3,d4⟩:=h2;dsimp only at d1 d2 d3 d4;cases er with
    |some e=>exact⟨d1,by dsimp only;omega,λh=>(by cases h),d4,λn _ h=>h.mono (by omega),λh=>(by cases h)⟩
    |none=>dsimp only;have d3:=d3 rfl;have hp:=λm hm h=>VkZ hbx (s:=s) (m:=m) (st:=st) lN hm h;have qY:Dt (Ix bx (max t 1) s st).1:=(by unfold Ix;split;exact .none;split;exact .lim;exact .none);generalize Ix bx (max t 1) s st=M at hp qY;obtain⟨er,st'⟩:=M;cases er with|some e=>exact⟨d1,by dsimp only;omega,λh=>(by cases h),qY,λn hn h=>(hp n hn h).1,λh=>(by cases h)⟩|none=>exact⟨by dsimp only;omega,by dsimp only;omega,λ_ _=>by dsimp only;omega,.none,λn hn h=>(hp n hn h).1,λh=>(by cases h)⟩
def Tw {b:zAa}{a:Nat}(h:AE b a [13,10]=true)(rest:zAa)(he:(EA b a rest).1=none):a<(EA b a rest).2:=by have hl:=Ca h;have:=Vbq (Nat.le_of_lt hl) rest (by unfold Ik;rw[zYb (by omega)];exact he);unfold Ik at this;rw[zYb (by omega)]at this;exact this
theorem Rv {b:zAa}{bx:Int}(hbx:bx<=1000):∀(k a:Nat)(st:LSt)(n:Nat),a<=b.length->n+(b.length-a)<=1000000->LOk n st->(Ov b bx k a st).1.2<=b.length/\Dt (Ov b bx k a st).1.1/\LOk (n+(b.length-a)+1) (Ov b bx k a st).2
 |0,a,st,n,ha,hn,h=>⟨ha,.none,h.mono (by omega)⟩
 |k+1,a,st,n,ha,hn,h=>by
  unfold Ov;split;exact⟨ha,.stp _ _ _,h.mono (by omega)⟩
  ·rename_i he;split;have ih:=Rv (b:=b) hbx k (a+1) st n (by omega) (by omega) h;exact⟨ih.1,ih.2.1,ih.2.2.mono (by omega)⟩
   ·split;rename_i hs;have h1:=NL ha [33];have h2:=Tw hs [33];have h3:=J4 b a [33];generalize EA b a [33]=M at h1 h2 h3;obtain⟨er,c⟩:=M;dsimp only at h1 h2 h3;cases er with|some e=>exact⟨h1.2,h3,h.mono (by omega)⟩|none=>have h2:=h2 rfl;have ih:=Rv hbx k c st n h1.2 (by omega) h;exact⟨ih.1,ih.2.1,ih.2.2.mono (by omega)⟩
    ·have ht:=Va5 hbx ha st;generalize JP b bx a st=M at ht;obtain⟨⟨⟨er,c⟩,st'⟩,d⟩:=M;obtain⟨t1,t2,t3,t4,t5,t6⟩:=ht;dsimp only at t1 t2 t3 t4 t5 t6;have t5:=t5 n (by omega) h;cases d with
     |true=>exact⟨t1,t4,t5.mono (by omega)⟩
     |false=>cases er with|some e=>exact⟨t1,t4,t5.mono (by omega)⟩|none=>have:=t3 rfl rfl;have ih:=Rv hbx k c st' (n+1) t1 (by omega) t5;exact⟨ih.1,ih.2.1,ih.2.2.mono (by omega)⟩
def Vmq {b:zAa}{bx:Int}(hbx:bx<=1000)(hb:b.length<=1000000){st:LSt}(h:LOk 0 st):(Mi b bx st).1.2<=b.length/\Dt (Mi b bx st).1.1/\LOk (b.length+1) (Mi b bx st).2:=by unfold Mi;have h1:=Vbd (Wi b.length) st;generalize ViI b 0 st=M at h1;obtain⟨⟨er,c⟩,st'⟩:=M;obtain⟨h1,h2,h3,h4⟩:=h1;dsimp only at h1 h2 h3 h4;cases er with|some e=>exact⟨h1,h3,(h4 0 h).mono (by omega)⟩|none=>have:=Rv hbx (b.length+1) c st' 0 h1 (by omega) (h4 0 h);exact⟨this.1,this.2.1,this.2.2.mono (by omega)⟩
theorem RE:LOk 0 Ff:=⟨by decide +kernel,by decide +kernel,VM _,VM _,VM _,λc hc=>by cases hc⟩
set_option exponentiation.threshold 5000
theorem Sv (n:Nat):Gj (A8 n)=true:=(O0 (Bw n)).2 (Kc n)
def Vje (n:Nat)(tk:Tok)(H:Aa)(hl:(A8 n).length<=1099511627776):Ubn (.sl (enL cU (A8 n)) tk) H=some (.ret (.sl (enL cU (A8 n)) .no),H):=by have hr:=VaR (A8 n) tk H hl;rw[Sv]at hr;unfold Ubn;rw[Dx Eh];unfold Uao;simp only[At,GMw,hr,forget,E9,fgt]
def VdX (k:Nat):(4294967296:Nat)^k=2^(32*k):=by rw[show(4294967296:Nat)=2^32 from by decide,<-Yh]
def Vmh {l':zAb}{x:Nat}(hx:Lim (l'++[x]))(h0:x≠0):blN (val (l'++[x]))=32*l'.length+blN x:=by
 have h1:=Gu (l:=l') λy hy=>hx y (by simp[hy]);rw[C5,IK];rw[VdX]at h1⊢;have hp:0<2^(32*l'.length):=XE (by decide);have h2:2^(32*l'.length)<=val l'+2^(32*l'.length)*x:=by have:2^(32*l'.length)*1<=2^(32*l'.length)*x:=Xd _ (by omega);omega
 rw[Vbw h2,Yy _ _ hp,Xj h1,VK,Yq]
def Vnv (n:Nat)(tk:Tok)(H:Aa)(hl:(A8 n).length<=1000000):Uc8 (.sl (enL cU (A8 n)) tk) H=some (.ret (.i6 (blN n:Int)),H):=by
 have hc:=Vje n tk H (by omega);unfold Uc8;simp only[GMw,hc,Ax];have hx:=Bw n;have hn:=(Kc n).last;have hv:=B6 n;generalize A8 n=l at *;rcases Hm l with rfl | ⟨l',x,rfl⟩;have:n=0:=hv.symm;subst this;simp[blN]
 ·simp only[VR,zXi]at hl;have zM:x≠0:=hn x (by simp);have h1:l'.length<(l'++[x]).length:=by simp
  have h3:I_.wrap ((((l'++[x]).length:Nat):Int)-1)=(l'.length:Int):=by rw[Am]<;>simp<;>omega
  have hne:((((l'++[x]).length:Nat):Int)==0)=false:=by simp;omega
  have oI:decide ((((l'++[x]).length:Nat):Int)=0)=false:=zXd (by simp;omega);have h4:I_.wrap ((l'.length:Int)*32)=((32*l'.length:Nat):Int):=by rw[Am]<;>omega
  have lH:=hx x (by simp);have hb:blN x<=32:=J6.2 (by simpa using lH);have h5:I_.wrap (((32*l'.length:Nat):Int)+(blN x:Int))=(blN n:Int):=by rw[<-hv,Vmh hx zM,Am]<;>omega
  have wH:=λK=>Vld lH K;simp only[oI,AM,h3,A4 h1,AA,zXh,WN (VM _),Wu,List.getElem_cons_zero,GMw,h4,wH,h5]
def Vly {l:zAb}(hx:Lim l){q:Nat}(hq:q<l.length):l[q]=val l / 2^(32*q)%4294967296:=by
 have e:l=l.take q++(l[q]::l.drop (q+1)):=by rw[<-Wl hq,WD]
 have h1:=Gu (l:=l.take q) λy hy=>hx y (WV hy);have h2:=hx l[q] (VY hq);have hv:val l=val (l.take q)+4294967296^q*(l[q]+4294967296*val (l.drop (q+1))):=by
  conv=>lhs;rw[e]
  rw[C5,Wc,WK (by omega)]
  rfl
 rw[Wc,WK (by omega)]at h1;have hp:0<4294967296^q:=XE (by decide);rw[hv,<-VdX,Yy _ _ hp,Xj h1,VK,Nat.add_mul_mod_self_left,WJ h2]
theorem Vh4 (x k:Nat)(hk:k<=32):Af .n .shr (.int .u32 (x:Int)) (.i6 (k:Int))=some (.int .u32 ((x / 2^k:Nat):Int)):=VaD x k hk
def Vmo {x:Nat}(hx:x<4294967296):Af .n .and (.int .u32 (x:Int)) (.int .u32 1)=some (.int .u32 ((x%2:Nat):Int)):=by have h:=(Ky (BitVec.ofNat 32 x) (BitVec.ofNat 32 1)).1;rw[BitVec.toNat_and,Xp,Xp,WJ hx,WJ (by decide),Nat.and_one_is_mod]at h;rw[Nr .and rfl _ _ (λ_ _ _=>rfl)];exact h
def Vnx (n i:Nat)(tk:Tok)(H:Aa)(hl:(A8 n).length<=1000000)(hi:i<1000000):UaN (.sl (enL cU (A8 n)) tk) (.i6 (i:Int)) H=some (.ret (.bool (n.testBit i)),H):=by
 have d0:decide ((i:Int)>=0)=true:=zXc (by omega);have hq:Af .n .quo (.i6 (i:Int)) (.i6 32)=some (.i6 ((i / 32:Nat):Int)):=by show some (Ab.i6 (I_.wrap (((i / 32:Nat):Int))))=_;rw[Am (by omega) (by omega)]
 have uZ:Af .n .rem (.i6 (i:Int)) (.i6 32)=some (.i6 ((i%32:Nat):Int)):=rfl;unfold UaN;by_cases h:i / 32<(A8 n).length
 ·have d1:decide (((i / 32:Nat):Int)<((A8 n).length:Int))=true:=zXc (by omega);have hx:=Bw n _ (VY h);have ha:=Vly (Bw n) h;rw[B6]at ha;have hs:=Vh4 (A8 n)[i / 32] (i%32) (by omega);have han:=Vmo (x:=(A8 n)[i / 32] / 2^(i%32)) (WE (Nat.div_le_self _ _) hx);have ht:((((A8 n)[i / 32] / 2^(i%32)%2:Nat):Int)==1)=n.testBit i:=by have e1:n.testBit i=(A8 n)[i / 32].testBit (i%32):=(by rw[ha,show(4294967296:Nat)=2^32 from by decide,Nat.testBit_mod_two_pow,Nat.testBit_div_two_pow,zXc (show i%32<32 by omega),zXn,show i%32+32*(i / 32)=i by omega]);rw[e1,Xu];generalize (A8 n)[i / 32] / 2^(i%32)%2=z;rw[VZ];simp;omega
  simp only[GMw,d0,hq,Ax,d1,A4 h,AA,zXh,uZ,hs,han,ht]
 have d1:decide (((i / 32:Nat):Int)<((A8 n).length:Int))=false:=zXd (by omega);have h1:=Gu (Bw n);rw[B6,VdX]at h1;have hf:n.testBit i=false:=Nat.testBit_lt_two_pow (WO h1 (Wn (by decide) (by omega)));simp only[GMw,d0,hq,Ax,d1,hf]
def Vj9 {z:Int}(H:Aa)(hz:LB z)(hl:z.natAbs<4294967296^100):Ubq (big z) H=some (.ret (.i6 ((1+blN (if z<0 then z.natAbs-1 else z.natAbs):Nat):Int)),H):=by
 have key:∀w:Nat,w<=z.natAbs->(A8 w).length<=1000000:=λw hw=>Wg (Fr (WE hw hl)) (by decide);have hbl:∀w:Nat,w<=z.natAbs->I_.wrap (1+(blN w:Int))=((1+blN w:Nat):Int):=λw hw=>by have:blN w<=32*100:=J6.2 (WE hw (by rw[VdX]at hl;exact hl));rw[Am]<;>omega
 have one:∀K,Uaq (.i6 1) K=some (.ret (big 1),K):=λK=>Vpz 1 K (by decide) (by decide);have l1:LB 1:=by unfold LB;exact Wg (Fr (k:=1) (by decide)) (by decide)
 unfold Ubq UeT;by_cases h:z<0
 ·have e:(-z-1).natAbs=z.natAbs-1:=by omega
  have hs:=λK=>Vnq K hz.neg l1;have aZ:=λK=>Vnv (z.natAbs-1) .no K (key _ (by omega));have hb:=hbl (z.natAbs-1) (by omega);simp[F4,h,AL,Vfw,one,hs,e,aZ,hb]
 have aZ:=λK=>Vnv z.natAbs .no K (key _ (by omega));have hb:=hbl z.natAbs (by omega);simp[F4,h,AL,aZ,hb]
def Pc (z:Int):Nat:=1+blN (if z<0 then z.natAbs-1 else z.natAbs)
def Vm7 (w:Nat):(2:Int)^w=((2^w:Nat):Int):=by simp
def Vc1 {v:Nat}{z:Int}(h:1<=v):inZ v z=decide (Pc z<=v):=by
 have hp:0<2^(v-1):=XE (by decide);have key:∀u,1+blN u<=v↔u<2^(v-1):=λu=>by rw[<-J6];omega
 unfold inZ Pc;rw[VZ];simp only[VV,zXe,Vm7,key];generalize 2^(v-1)=P at *;by_cases hz:z<0;rw[zYc hz];omega;rw[zYb hz];omega
def QM (c:Cl):Nat:=max (Pc c.x) (Pc c.y)
def Va0 {v:Nat}{c:Cl}(h:1<=v):EX v c=decide (QM c<=v):=by unfold EX QM;rw[Vc1 h,Vc1 h,VZ];simp only[VV,zXe];omega
theorem Vj:∀f v c,1<=v->Jn f v c=max v (min (QM c) (v+f))
 |0,v,c,h=>by unfold Jn;omega
 |f+1,v,c,h=>by unfold Jn;rw[Va0 h];by_cases q:QM c<=v;rw[zYc (zXc q)];omega;rw[zYb (by simpa using q),Vj f (v+1) c (by omega)];omega
def mxN:List Cl->Nat
 |[]=>0
 |c::l=>max (QM c) (mxN l)
theorem Vgr:∀(l:List Cl)(v:Nat),1<=v->v<=1330->l.foldl (λv c=>Jn (1330-v) v c) v=max v (min 1330 (mxN l))
 |[],v,h1,h2=>by simp only[List.foldl_nil,mxN];omega
 |c::l,v,h1,h2=>by have h:=Vj (1330-v) v c h1;rw[List.foldl_cons,Vgr l _ (by omega) (by omega),h];simp only[mxN];omega
def E4 (l:List Cl):Nat->Nat
 |0=>1
 |i+1=>match l[i]? with | some c=>max (E4 l i) (QM c) | none=>E4 l i
theorem Qe (l:List Cl):∀i,E4 l i=max 1 (mxN (l.take i))
 |0=>rfl
 |i+1=>by
  have hs:∀(m:List Cl)(c:Cl),mxN (m++[c])=max (mxN m) (QM c):=λm c=>by
   induction m with
   |nil=>simp only[List.nil_append,mxN];omega
   |cons d m ih=>simp only[List.cons_append,mxN,ih];omega
  unfold E4;rw[Qe l i];rcases W4 i l.length with h | h;rw[VG h,VU h,hs];dsimp only;omega;rw[zYa h,VW (show l.length<=i+1 by omega),VW h]
def Val (l:List Cl):Bp l=min 1330 (E4 l l.length):=by unfold Bp;rw[Vgr l 1 (by omega) (by omega),Qe,Wx];omega
structure Sp where
 a:Nat
 b:Nat
 s:UInt8
def cSp (p:Sp):List Ab:=[.sl (enL cU (A8 p.a)) .no,.sl (enL cU (A8 p.b)) .no,.int .u8 (p.s.toNat:Int)]
instance:Sz cSp 3:=⟨λ_=>rfl⟩
def spot (h:Int)(c:Cl):Sp:=⟨(c.x+h).toNat,(c.y+h).toNat,c.s⟩
def qOf (v:Nat)(p:Sp):Nat:=(if p.a.testBit v then 1 else 0)+(if p.b.testBit v then 2 else 0)
def qSp (v k:Nat)(S:List Sp):List Sp:=S.filter λp=>decide (qOf v p=k)
def VlC:List Sp->Int
 |[]=>0
 |p::_=>(p.s.toNat:Int)
def lyK (rec:List Nd->List Sp->List Nd×Nat)(v:Nat)(S:List Sp):Nat->List Nd->List Nd×Nd
 |0,out=>(out,⟨((v+1:Nat):Int),0,0,0,0⟩)
 |k+1,out=>
  if v=0 then ((lyK rec v S k out).1,(lyK rec v S k out).2.setKid k (VlC (qSp v k S)))
  else ((rec (lyK rec v S k out).1 (qSp v k S)).1,(lyK rec v S k out).2.setKid k ((rec (lyK rec v S k out).1 (qSp v k S)).2:Int))
def CJ:Nat->List Nd->List Sp->List Nd×Nat
 |0,out,_=>(out,0)
 |v+1,out,S=>if S=[]then (out,0)else ((lyK (CJ v) v S 4 out).1++[(lyK (CJ v) v S 4 out).2],(lyK (CJ v) v S 4 out).1.length+1)
def Vkf {A X v m:Nat}(hX:X=2^(v+1)*m)(h1:X<=A)(h2:A<X+2^(v+1)):A.testBit v=decide (X+2^v<=A):=by
 have hp:0<2^v:=XE (by decide);have e:2^(v+1)=2^v*2:=Nat.pow_succ _ _;obtain⟨r,rfl⟩:∃r,A=X+r:=⟨A-X,by omega⟩;rw[Xu,hX,e,Xn,Nat.mul_add_div hp,Nat.mul_add_mod];have hr:r<2^v*2:=by omega
 by_cases q:2^v<=r
 ·have:r / 2^v=1:=by rw[show r=2^v*1+(r-2^v)by omega,Nat.mul_add_div hp,Xj (by omega)]
  rw[this,VZ];simp;omega
 rw[Xj (by omega),VZ];simp;omega
def VeS {v k:Nat}{x y h:Int}{X Y m n:Nat}{c:Cl}(hk:k<4)(hx:(X:Int)=x+h)(hy:(Y:Int)=y+h)(hX:X=2^(v+1)*m)(hY:Y=2^(v+1)*n)(hc:Vjx (v+1) x y c):inQ (v+1) (qa (v+1) x k) (qb (v+1) y k) c=decide (qOf v (spot h c)=k):=by
 obtain⟨c1,c2,c3,c4⟩:=hc;have e:(2:Int)^(v+1)=((2^(v+1):Nat):Int):=Vm7 _;rw[e]at c2 c4;have b1:=Vkf (A:=(c.x+h).toNat) hX (by omega) (by omega);have b2:=Vkf (A:=(c.y+h).toNat) hY (by omega) (by omega);have e2:2^(v+1)=2^v*2:=Nat.pow_succ _ _;rw[e2]at c2 c4;unfold qOf spot;dsimp only;rw[b1,b2];unfold inQ qa qb;rw[Wr,Vm7];generalize 2^v=P at *;clear hX hY b1 b2 e e2;have t1:(X+P<=(c.x+h).toNat)↔x+P<=c.x:=by omega
 have t2:(Y+P<=(c.y+h).toNat)↔y+P<=c.y:=by omega
 simp only[t1,t2,zXe];rw[VZ];simp only[VV,zXe];by_cases q1:x+P<=c.x
 ·by_cases q2:y+P<=c.y
  ·rw[zYc q1,zYc q2]
   match k,hk with
   |0,_=>simp;omega
   |1,_=>simp;omega
   |2,_=>simp;omega
   |3,_=>simp;omega
  ·rw[zYc q1,zYb q2]
   match k,hk with
   |0,_=>simp;omega
   |1,_=>simp;omega
   |2,_=>simp;omega
   |3,_=>simp;omega
 ·by_cases q2:y+P<=c.y
  ·rw[zYb q1,zYc q2]
   match k,hk with
   |0,_=>simp;omega
   |1,_=>simp;omega
   |2,_=>simp;omega
   |3,_=>simp;omega
  ·rw[zYb q1,zYb q2]
   match k,hk with
   |0,_=>simp;omega
   |1,_=>simp;omega
   |2,_=>simp;omega
   |3,_=>simp;omega
def Vge (h:Int)(l:List Cl):VlC (l.map (spot h))=ViJ l:=by cases l<;>rfl
def VhS {v k:Nat}{x y h:Int}{X Y m n:Nat}{l:List Cl}(hk:k<4)(hx:(X:Int)=x+h)(hy:(Y:Int)=y+h)(hX:X=2^(v+1)*m)(hY:Y=2^(v+1)*n)(hc:∀c∈l,Vjx (v+1) x y c):qSp v k (l.map (spot h))=(ER (v+1) x y k l).map (spot h):=by
 unfold qSp ER;rw[List.filter_map]
 congr 1
 refine List.filter_congr λc aG=>?_;exact(VeS hk hx hy hX hY (hc c aG)).symm
def Vo {h:Int}:∀(v:Nat)(out:List Nd)(x y:Int)(l:List Cl)(X Y m n:Nat),(X:Int)=x+h->(Y:Int)=y+h->X=2^v*m->Y=2^v*n->(∀c∈l,Vjx v x y c)->CJ v out (l.map (spot h))=Br v out x y l
 |0,out,x,y,l,X,Y,m,n,_,_,_,_,_=>rfl
 |v+1,out,x,y,l,X,Y,m,n,hx,hy,hX,hY,hc=>by
  have e2:2^(v+1)=2^v*2:=Nat.pow_succ _ _;have key:∀k,k<=4->lyK (CJ v) v (l.map (spot h)) k out=plK (Br v) (v+1) x y l k out:=by
   intro k
   induction k with
   |zero=>intro _;rfl
   |succ k ih=>
    intro hk;have hq:=VhS (k:=k) (by omega) hx hy hX hY hc;unfold lyK plK;rw[ih (by omega),hq,Vge];by_cases h0:v=0;rw[zYc h0,zYc (by omega)]
    ·rw[zYb h0,zYb (by omega)];have hrec:=Vo (h:=h) v (plK (Br v) (v+1) x y l k out).1 (qa (v+1) x k) (qb (v+1) y k) (ER (v+1) x y k l)
      (if k%2=1 then X+2^v else X) (if 1<k then Y+2^v else Y) (if k%2=1 then m*2+1 else m*2) (if 1<k then n*2+1 else n*2)
      (by unfold qa;rw[Wr,Vm7];split<;>omega) (by unfold qb;rw[Wr,Vm7];split<;>omega)
      (by rw[hX,e2];split<;>(simp only[WT,Wa,Xn,WY 2 m])) (by rw[hY,e2];split<;>(simp only[WT,Wa,Xn,WY 2 n]))
      (λc hc=>VhN hc)
     rw[hrec]
  unfold CJ Br;rw[key 4 (by omega)];by_cases h0:l=[];rw[zYc (by rw[h0];rfl),zYc h0];rw[zYb (by simpa using h0),zYb h0]
def Vme {L:List Nd}{tk:Tok}{i:Nat}(hi:i<L.length)(h1:1<=L[i].lv)(h2:L[i].lv<=1329)(c:Int)(H:Aa)(hL:L.length<1152921504606846976):UcD (.sl (enL cNd L) tk) (.i6 (i:Int)) (.i6 c) H=some (.ret (.bool (Du L i L[i] c)),H):=by
 unfold UcD;simp only[GMw,HPw,Nat.reduceAdd,A4 hi,Jz,Eu,Kv,Jg];generalize L[i]=x at h1 h2;by_cases hc:c=0
 ·have:Du L i x c=true:=by unfold Du;simp only[VV,zXe];exact⟨⟨by omega,λ_=>by omega⟩,λ_ h=>by omega⟩
  rw[this];simp only[hc,GMw,HPw]
 ·simp only[hc,GMw];by_cases hl:x.lv=1;have:Du L i x c=(decide (c>0)&&decide (c<=255)):=(by unfold Du;rw[VZ];simp only[VV,zXe];exact⟨λh=>⟨by omega,h.1.2 hl⟩,λh=>⟨⟨by omega,λ_=>h.2⟩,λh'=>by omega⟩⟩);rw[this];by_cases h0:c>0;simp only[hl,h0,GMw,HPw];simp only[hl,h0,GMw,HPw];simp only[hl,GMw];by_cases h0:c>0;by_cases iW:c<=(i:Int);obtain⟨m,rfl⟩:∃m:Nat,c=((m+1:Nat):Int):=⟨(c-1).toNat,by omega⟩;have hm:m<L.length:=(by omega);have hw:I_.wrap (((m+1:Nat):Int)-1)=(m:Int):=(by rw[Am]<;>omega);have cA:I_.wrap (x.lv-1)=x.lv-1:=Am (by omega) (by omega);have:Du L i x ((m+1:Nat):Int)=decide (L[m].lv=x.lv-1):=(by unfold Du;rw[VZ];simp only[VV,zXe,show(((m+1:Nat):Int)-1).toNat=m by omega,VG hm,VT];exact⟨λh=>(h.2 (by omega) h0).2 _ rfl,λh=>⟨⟨by omega,λh'=>zYf h' hl⟩,λ_ _=>⟨iW,λy e=>by rw[<-e];exact h⟩⟩⟩);rw[this];simp only[h0,iW,GMw,HPw,hw,cA,A4 hm,A2,AA,Eu];have:Du L i x c=false:=(by unfold Du;rw[Xq];right;rw[zYl];intro h;exact iW (h (by omega) h0).1);rw[this];simp only[h0,iW,GMw,HPw];have:Du L i x c=false:=(by unfold Du;rw[Xq,Xq];left;left;rw[zYl];omega);rw[this];simp only[h0,GMw,HPw]
def VgQ (L:List Nd)(tk:Tok)(H:Aa)(hL:L.length<1152921504606846976):Ubs (.sl (enL cNd L) tk) H=some (.ret (.bool (AY L)),H):=by
 unfold Ubs;rw[show AY L=(List.range L.length).all (G5 L) from rfl];simp only[GMw,Ax];have key:∀(d i:Nat)(G:Aa),i+d=L.length->(∀j,j<i->G5 L j=true)->∀n,d<n->An (λrec1 vs H1=>Uav H rec1 (ag vs 0) (ag vs 1) (ag vs 2) (ag vs 3) H1) n [.sl (enL cNd L) tk,.sl (enL cNd L) tk,.i6 (L.length:Int),.i6 (i:Int)] (H++G)=some (.ret (.bool ((List.range L.length).all (G5 L))),H):=by
  intro d
  induction d with
  |zero=>intro i G hi aD n hn;obtain⟨n,rfl⟩:∃k,n=k+1:=⟨n-1,by omega⟩;have:(List.range L.length).all (G5 L)=true:=(by rw[Wf];intro j hj;exact aD j (by have:=XN.1 hj;omega));rw[Bx,this];generalize An (λrec1 vs H1=>Uav H rec1 (ag vs 0) (ag vs 1) (ag vs 2) (ag vs 3) H1) n=rec;unfold Uav;have aE:¬(i:Int)<(L.length:Int):=(by omega);simp only[GMw,HPw,aE]
  |succ d ih=>
   intro i G hi aD n hn;obtain⟨n,rfl⟩:∃k,n=k+1:=⟨n-1,by omega⟩;have hlt:i<L.length:=(by omega);have aE:(i:Int)<(L.length:Int):=(by omega);rw[Bx];have bT:G5 L i=false->(List.range L.length).all (G5 L)=false:=λh=>(by rw[X7];exact⟨i,by simpa using hlt,by simp[h]⟩);have qF:G5 L i=true->∀G',An (λrec1 vs H1=>Uav H rec1 (ag vs 0) (ag vs 1) (ag vs 2) (ag vs 3) H1) n [.sl (enL cNd L) tk,.sl (enL cNd L) tk,.i6 (L.length:Int),.i6 ((i+1:Nat):Int)] (H++G')=some (.ret (.bool ((List.range L.length).all (G5 L))),H):=λh G'=>ih (i+1) G' (by omega) (λj hj=>by
    by_cases e:j=i;rw[e];exact h
    ·exact aD j (by omega)) n (by omega)
   generalize An (λrec1 vs H1=>Uav H rec1 (ag vs 0) (ag vs 1) (ag vs 2) (ag vs 3) H1) n=rec at qF;unfold Uav;have hg:L[i]? = some L[i]:=VG hlt;simp only[GMw,HPw,Nat.reduceAdd,Ak,aE,A4 hlt,Jz,Eu,Kv,Jg,Pn];by_cases h1:L[i].lv<1;have:G5 L i=false:=(by simp only[G5,hg];simp;intro;omega);rw[bT this];simp only[h1,GMw,HPw]
   ·by_cases h2:L[i].lv>1329;have:G5 L i=false:=(by simp only[G5,hg];simp;intro;omega);rw[bT this];simp only[h1,h2,GMw,HPw,Eu]
    ·have hd:G5 L i=(List.range 4).all λk=>Du L i L[i] (L[i].kid k):=(by simp only[G5,hg];rw[zXc (by omega)];rfl);simp only[h1,h2,GMw,HPw,Eu];have:=EN 4 (λk=>Du L i L[i] (L[i].kid k)) (λk=>[.sl (enL cNd L) tk,.i6 (i:Int),.sl (enL cNd L) tk,.i6 (L.length:Int),.i6 (i:Int),.agg (J0 L[i]),.i6 (k:Int)]) (H++(G++[.c0 (cNd L[i])])) (rec [.sl (enL cNd L) tk,.sl (enL cNd L) tk,.i6 (L.length:Int),.i6 ((i+1:Nat):Int)] (H++(G++[.c0 (cNd L[i])]))) (some (.ret (.bool false),H)) (by decide) (λaA k hk=>?_) (λaA=>?_)
      (G:=λaA vs H1=>UcE H rec aA (ag vs 0) (ag vs 1) (ag vs 2) (ag vs 3) (ag vs 4) (ag vs 5) (ag vs 6) H1)
     refine this.trans ?_;rw[<-hd];cases hb:G5 L i with|true=>simp only[zYd];exact qF hb _|false=>simp only[VL,zYe];rw[bT hb]
     have hk':(k:Int)<4:=(by omega);unfold UcE;simp only[GMw,HPw,Ak,hk',VcX _ hk,Vme hlt (by omega) (by omega) (L[i].kid k) _ hL];cases Du L i L[i] (L[i].kid k)with|true=>simp only[GMw,HPw,Ar (show k<9223372036854775807 by omega),zYd]|false=>simp only[GMw,HPw,zYe]
     unfold UcE;simp only[GMw,HPw,Ak,show ¬(((4:Nat):Int)<4) from by decide,Ar (show i<9223372036854775807 by omega)]
 have:=key L.length 0 [] (by omega) (λj hj=>by omega) AI (by rw[Cw];exact hL);rw[Wm]at this;exact this
def Qn (F:List Bool)(x:Nd)(k:Nat):Bool:=!decide (x.kid k=0)&&(decide (x.lv=1)||F.getD (x.kid k).toNat false)
def ViN (F:List Bool)(x:Nd):Bool:=(List.range 4).any (Qn F x)
def VlG {E:List Bool}{x:Nd}(h1:1<=x.lv)(hE:∀k,k<4->1<x.lv->(x.kid k).toNat<E.length):ViN (E.map (!·)) x = !P5 E x:=by
 unfold ViN P5;have each:∀k,k<4->Qn (E.map (!·)) x k = !(decide (x.kid k=0)||(decide (1<x.lv)&&E.getD (x.kid k).toNat true)):=by intro k hk;unfold Qn;by_cases hl:x.lv=1;have:¬1<x.lv:=(by omega);simp[hl];have cT:1<x.lv:=(by omega);have:=hE k hk cT;simp[hl,cT,VO,VG this]
 show((Qn _ x 0||(Qn _ x 1||(Qn _ x 2||(Qn _ x 3||false))))) = !(_&&(_&&(_&&(_&&true))));rw[each 0 (by omega),each 1 (by omega),each 2 (by omega),each 3 (by omega)];simp only[Bool.not_and,Wp]
def VgR {H:Aa}{pn po q m:Nat}{x:Nd}{F:List Bool}(hn:H[pn]? = some (.c0 (cNd x)))(ho:H[po]? = some (.c0 [.ms q 0 0 m m 1 true]))(hq:H[q]? = some (.c0 (flat cB F)))(hm:F.length=m){k:Nat}(hk:k<4)(h0:0<=x.kid k)(hb:x.lv≠1->x.kid k≠0->(x.kid k).toNat<m):UcG (.i6 (x.kid k)) (.ptr pn 0 0) (.ptr po 0 0) H=some (.ret (.bool (Qn F x k)),H):=by
 have l1:=ST hn;have l2:=Bt (o:=0) (sz:=1) ho;unfold UcG Qn;by_cases hc:x.kid k=0;simp only[hc,GMw,HPw];by_cases hl:x.lv=1;simp only[hc,hl,l1,GMw,HPw];have hlt:=hb hl hc;obtain⟨c,hcc⟩:∃c:Nat,x.kid k=(c:Int):=⟨(x.kid k).toNat,by omega⟩;rw[hcc,zXl]at hlt;have hi:=CZ (sz:=1) (id:=q) (g:=0) (off:=0) (n:=m) (cap:=m) (ex:=true) (K:=.i64) hlt;have hld:=I3 (f:=cB) (l:=F) (A0 hq) (show c<F.length by omega);simp only[VK,Wa]at hi;rw[hcc]at hc⊢;simp only[hc,hl,l1,l2,GMw,HPw,hi,hld,zXl,VO,VG (show c<F.length by omega),Option.getD_some,zXh]
def Vmf {H:Aa}{pn po q m:Nat}{x:Nd}{F:List Bool}(hn:H[pn]? = some (.c0 (cNd x)))(ho:H[po]? = some (.c0 [.ms q 0 0 m m 1 true]))(hq:H[q]? = some (.c0 (flat cB F)))(hm:F.length=m)(h0:∀k,k<4->0<=x.kid k)(hb:∀k,k<4->x.lv≠1->x.kid k≠0->(x.kid k).toNat<m):UcJ (.ms pn 0 1 4 4 1 true) (.fn 238 [.ptr pn 0 0,.ptr po 0 0]) H=some (.ret (.bool (ViN F x)),H):=by
 unfold UcJ UcI;simp only[GMw,VjJ,show((4:Nat):Int)=4 from rfl];have key:=O6 (G:=λrec1 vs H1=>UcH H rec1 (ag vs 0) (ag vs 1) (ag vs 2) (ag vs 3) H1) 4 (Qn F x) (λk=>[.ms pn 0 1 4 4 1 true,.fn 238 [.ptr pn 0 0,.ptr po 0 0],.i6 4,.i6 (k:Int)]) H (some (.ret (.i6 (-1)),H)) (λk=>some (.ret (.i6 (k:Int)),H)) (by decide) (λrec k hk=>?_) (λrec=>?_);rw[show(((0:Nat):Int))=0 from rfl]at key;rw[key];cases hf:(List.range 4).find? (Qn F x)with|none=>have:ViN F x=false:=(by unfold ViN;rw[List.any_eq_false];intro k hk;exact XD.1 hf k hk);simp only[GMw,this,show decide ((-1:Int)>=0)=false from by decide]|some k=>have:ViN F x=true:=(by unfold ViN;rw[List.any_eq_true];exact⟨k,List.mem_of_find?_eq_some hf,List.find?_some hf⟩);simp only[GMw,this,show decide ((k:Int)>=0)=true from by simp]
 ·have hk':(k:Int)<4:=by omega
  have hi:=CZ (sz:=1) (id:=pn) (g:=0) (off:=1) (n:=4) (cap:=4) (ex:=true) (K:=.i64) hk;have hld:=Vm hn hk;have sP:=VgR hn ho hq hm hk (h0 k hk) (hb k hk);simp only[Wa]at hi;unfold UcH CL;simp only[GMw,Ak,hk',hi,hld,DP,ent,zYd,List.cons_append,List.nil_append,ap3,sP];cases Qn F x k with|true=>simp only[GMw,zYd]|false=>simp only[GMw,zYe,Ar (show k<9223372036854775807 by omega)]
 unfold UcH;simp only[GMw,Ak,show ¬(((4:Nat):Int)<4) from by decide]
def Vaj (L:List Nd)(i:Nat)(hi:i<L.length):((AG (L.take i)).map (!·)++List.replicate (L.length-i) false).set (i+1) (!P5 (AG (L.take i)) L[i])=(AG (L.take (i+1))).map (!·)++List.replicate (L.length-(i+1)) false:=by
 have hl:((AG (L.take i)).map (!·)).length=i+1:=by rw[WP,DL,Wc];omega
 rw[Wy _ _ (by omega),hl,Wu,V4 L hi,List.map_append,show L.length-i=(L.length-(i+1))+1 by omega,zXm,List.set_cons_zero,VP]
 rfl
def VcP (L:List Nd)(tk:Tok)(H:Aa)(hL:L.length<140737488355327)(hl:AY L=true):Ubt (.sl (enL cNd L) tk) H=some (.ret (.sl (enL cB ((AG L).map (!·))) .no),H):=by
 have dE:=F9 (f:=cB) (a:=false) (n:=L.length+1) (bytes:=1) (H:=H) (by omega) (by omega);unfold Ubt;simp only[Ax,GMw,HPw,Nat.reduceLT,Ar (show L.length<9223372036854775807 by omega),dE];have key:=Bf (G:=λrec1 vs H1=>Uez H rec1 (ag vs 0) (ag vs 1) (ag vs 2) (ag vs 3) H1) (σ:=Nat×Aa) (λs=>s.1<=L.length)
  (λs=>[.ptr (H.length+1) 0 0,.sl (enL cNd L) tk,.i6 (L.length:Int),.i6 (s.1:Int)]) (λs=>H++(.c0 (flat cB ((AG (L.take s.1)).map (!·)++List.replicate (L.length-s.1) false))::.c0 [.ms H.length 0 0 (L.length+1) (L.length+1) 1 true]::s.2)) (λs=>L.length-s.1)
  (λ_=>some (.ret (.sl (enL cB ((AG L).map (!·))) .no),H)) (λs rec hs hrec=>?_) (0,[]) (Wi _) (by dsimp only;omega)
 ·rw[List.take_zero]at key;have e:(AG []).map (!·)++List.replicate (L.length-0) false=List.replicate (L.length+1) false:=by simp[AG,zXm]
  rw[e]at key;exact key
 ·obtain⟨i,G⟩:=s;dsimp only at hs hrec⊢;unfold Uez;by_cases hi:i<L.length
  ·have aE:(i:Int)<(L.length:Int):=(by omega);obtain⟨l1,l2,l3⟩:=AZ hl hi;have hElen:(AG (L.take i)).length=i+1:=(by rw[DL,Wc];omega);have hFlen:((AG (L.take i)).map (!·)++List.replicate (L.length-i) false).length=L.length+1:=(by rw[VR,WP,hElen,XQ];omega);have pW:ViN ((AG (L.take i)).map (!·)++List.replicate (L.length-i) false) L[i] = !P5 (AG (L.take i)) L[i]:=by
    rw[<-VlG l1 (λk hk h1=>by
     obtain⟨q1,q2,q3⟩:=l3 k hk;rw[hElen];by_cases h0:0<L[i].kid k;have:=(q3 h1 h0).1;omega
     ·omega)]
    unfold ViN Qn
    congr 1
    funext k
    by_cases aV:L[i].lv=1;simp[aV]
    ·by_cases hk:k<4;obtain⟨q1,q2,q3⟩:=l3 k hk;have:(L[i].kid k).toNat<((AG (L.take i)).map (!·)).length:=(by rw[WP,hElen];by_cases h0:0<L[i].kid k;have:=(q3 (by omega) h0).1;omega;omega);rw[VO,VN this,VO]
     ·have e3:L[i].kid k=L[i].kid 3:=by
       match k,hk with
       |0,h=>exact zYf (by decide) h
       |1,h=>exact zYf (by decide) h
       |2,h=>exact zYf (by decide) h
       |n+3,_=>rfl
      obtain⟨q1,q2,q3⟩:=l3 3 (by decide);rw[e3];have:(L[i].kid 3).toNat<((AG (L.take i)).map (!·)).length:=(by rw[WP,hElen];by_cases h0:0<L[i].kid 3;have:=(q3 (by omega) h0).1;omega;omega);rw[VO,VN this,VO]
   have yJ:=Vaj L i hi;generalize hF:(AG (L.take i)).map (!·)++List.replicate (L.length-i) false=F at *;have any:=Vmf (H:=H++(.c0 (flat cB F)::.c0 [.ms H.length 0 0 (L.length+1) (L.length+1) 1 true]::(G++[.c0 (cNd L[i])]))) (pn:=H.length+(G.length+1+1)) (po:=H.length+1) (q:=H.length) (m:=L.length+1) (x:=L[i]) (F:=F) (by simp) (by simp) (by simp) hFlen (λk hk=>(l3 k hk).1) (λk hk h1 h0=>by obtain⟨q1,q2,q3⟩:=l3 k hk;have:=(q3 (by omega) (by omega)).1;omega);have hsl:JT 4 1 (.ptr (H.length+(G.length+1+1)) 0 1) none none=some (.ms (H.length+(G.length+1+1)) 0 1 4 4 1 true):=(by simp[JT,B5]);have dC:=CZ (sz:=1) (id:=H.length) (g:=0) (off:=0) (n:=L.length+1) (cap:=L.length+1) (ex:=true) (K:=.i64) (i:=i+1) (by omega);simp only[VK,Wa]at dC;have hst:∀G' t,Ae 1 (.ptr H.length 0 (i+1)) (.bool t) (H++(.c0 (flat cB F)::G'))=some (H++(.c0 (flat cB (F.set (i+1) t))::G')):=λG' t=>by
    rw[IL,PO rfl (by rw[show flat cB F=F.map Ab.bool from by
     clear pW yJ any hF hFlen
     induction F with
     |nil=>rfl
     |cons c l ih=>rw[DF,ih];rfl];simp;omega)]
    simp only[zXb]
    congr 3
    have e:∀l:List Bool,flat cB l=l.map Ab.bool:=λl=>by
     induction l with
     |nil=>rfl
     |cons c l ih=>rw[DF,ih];rfl
    rw[e,e,List.map_set]
   have next:=hrec (i+1,G++[.c0 (cNd L[i])]) hi (by dsimp only;omega)
   dsimp only at next
   rw[<-yJ]at next
   simp only[GMw,HPw,Nat.reduceAdd,Kv,Jg,Ak,aE,A4 hi,Jz,hsl,any,Ar (show i<9223372036854775807 by omega),dC,hst,pW];exact next
  have aE:¬(i:Int)<(L.length:Int):=(by omega);have:i=L.length:=(by omega);subst this;rw[Wx,Wu,List.replicate_zero,Wm];have nK:=Vbh (f:=cB) (l:=(AG L).map (!·)) (H:=H++(.c0 (flat cB ((AG L).map (!·)))::.c0 [.ms H.length 0 0 (L.length+1) (L.length+1) 1 true]::G)) (id:=H.length) (b:=H.length) (d:=5) (cap:=L.length+1) (ex:=true) (by simp) (VM _);rw[WP,DL]at nK;simp only[GMw,HPw,Nat.reduceAdd,Ak,aE,nK]
def VlF (L:List Nd){n:Nat}(hn:n<L.length+1):((AG L).map (!·)).getD n false = !(AG L).getD n true:=by
 have h:n<(AG L).length:=by rw[DL];exact hn
 rw[VO,VO,Wq,VG h];rfl
def Vgk (L:List Nd){n:Nat}(hn:n<L.length+1)(H:Aa)(K:IntKind):∃e,Aw 1 (.sl (enL cB ((AG L).map (!·))) .no) (.int K (n:Int))=some e/\Ad false 1 e H=some (.bool (!(AG L).getD n true)):=by
 have h:n<((AG L).map (!·)).length:=by rw[WP,DL];exact hn
 refine⟨_,A4 h,?_⟩;have e:=VlF L hn;rw[VO,VG h]at e;simp only[AA,zXh];rw[<-e];rfl
def V9 (L:List Nd)(tk:Tok)(n:Nat)(H:Aa)(hL:L.length<140737488355327)(hl:AY L=true)(hn:n<=L.length):UcK (.sl (enL cNd L) tk) (.i6 (n:Int)) H=some (.ret (.bool ((AG L).getD n true)),H):=by obtain⟨e,h1,h2⟩:=Vgk L (n:=n) (by omega) H .i64;unfold UcK;simp only[GMw,HPw,VcP L tk H hL hl,h1,h2,Bool.not_not]
def VdM (L:List Nd)(tk:Tok)(n:Nat)(H:Aa)(hL:L.length<140737488355327)(hl:AY L=true)(hn:n<=L.length):UcN (.sl (enL cNd L) tk) (.i6 (n:Int)) H=some (.ret (.bool (FB L n)),H):=by
 unfold UcN FB;cases n with
 |zero=>simp only[GMw,HPw,show((0:Nat):Int)=0 from rfl,ne_eq,not_true_eq_false]
 |succ n=>
  have hi:n<L.length:=hn;have e0:¬((n+1:Nat):Int)=0:=by omega
  obtain⟨l1,l2,l3⟩:=AZ hl hi;rw[F8 rfl hi];generalize hx:L[n]=x at l1 l2 l3;have hw:I_.wrap (((n+1:Nat):Int)-1)=(n:Int):=by rw[Am]<;>omega
  simp only[GMw,HPw,Eu,e0,hw,A4 hi,hx,A2,AA];by_cases h2:x.lv=1;have:¬2<=x.lv:=(by omega);simp only[h2,GMw,HPw,show ¬(2:Int)<=1 from by decide]
  ·have iO:2<=x.lv:=(by omega);simp only[h2,iO,GMw,HPw,VcP L tk H hL hl,VfN,ne_eq,X0,zYk];have key:=EN (G:=λrec1 vs H1=>UcM H rec1 (ag vs 0) (ag vs 1) (ag vs 2) (ag vs 3) H1) 4 (λk=>decide (x.kid k=0)||(List.range 4).all (Tg L (AG L) x k))
    (λk=>[.sl (enL cNd L) tk,.sl (enL cB ((AG L).map (!·))) .no,.agg (J0 x),.i6 (k:Int)]) H (some (.ret (.bool true),H)) (some (.ret (.bool false),H)) (by decide) (λrec k hk=>?_) (λrec=>?_)
   refine key.trans ?_;rw[show hol L (AG L) x=(List.range 4).all λk=>decide (x.kid k=0)||(List.range 4).all (Tg L (AG L) x k) from rfl];cases(List.range 4).all λk=>decide (x.kid k=0)||(List.range 4).all (Tg L (AG L) x k)<;>rfl
   ·have hk':(k:Int)<4:=(by omega);obtain⟨q1,q2,q3⟩:=l3 k hk;have aP:I_.wrap ((k:Int)+1)=((k+1:Nat):Int):=Ar (by omega);unfold UcM;simp only[GMw,Ak,hk',VcX _ hk];by_cases hc:x.kid k=0;simp only[hc,GMw,aP,zYd]
    ·obtain⟨m,hm⟩:∃m:Nat,x.kid k=((m+1:Nat):Int):=⟨(x.kid k-1).toNat,by omega⟩;have h1:1<x.lv:=(by omega);obtain⟨r1,r2⟩:=q3 h1 (by omega);have hml:m<L.length:=(by omega);have hy:=r2 L[m] (by rw[show(x.kid k-1).toNat=m from by omega];exact VG hml);obtain⟨y1,y2,y3⟩:=AZ hl hml;have hp:Tg L (AG L) x k=λj=>decide (j=3-k)||(if x.lv=2 then decide (L[m].kid j=0)else (AG L).getD (L[m].kid j).toNat true):=(by funext j;unfold Tg;rw[F8 hm hml]);have cZ:I_.wrap (((m+1:Nat):Int)-1)=(m:Int):=(by rw[Am]<;>omega);have cE:¬((m+1:Nat):Int)=0:=(by omega);rw[hm];simp only[hp,cE,GMw,cZ,A4 hml,A2,VK,VfN];refine EN (G:=λaA vs H1=>UcL H rec aA (ag vs 0) (ag vs 1) (ag vs 2) (ag vs 3) (ag vs 4) (ag vs 5) (ag vs 6) (ag vs 7) H1) 4 _
      (λj=>[.sl (enL cNd L) tk,.sl (enL cB ((AG L).map (!·))) .no,.i6 (k:Int),.i6 ((m+1:Nat):Int),.agg (J0 x),.i6 (k:Int),.agg (J0 L[m]),.i6 (j:Int)]) H _ _ (by decide) (λaA j hj=>?_) (λaA=>?_)
     ·have hj':(j:Int)<4:=(by omega);have jW:I_.wrap (3-(k:Int))=3-(k:Int):=Am (by omega) (by omega);have sG:I_.wrap ((j:Int)+1)=((j+1:Nat):Int):=Ar (by omega);have Zy:decide ((j:Int)=3-(k:Int))=decide (j=3-k):=(by rw[VZ];simp only[zXe];omega);unfold UcL;simp only[GMw,Ak,hj',VcX _ hj,jW,Zy];by_cases sH:j=3-k;simp only[sH,GMw,zYd];simp only[<-sH,sG];by_cases hg:L[m].kid j=0;have:(if x.lv=2 then decide (L[m].kid j=0)else (AG L).getD (L[m].kid j).toNat true)=true:=(by split;simp[hg];rw[hg];exact Ia L);simp only[sH,this,GMw,zYd];simp only[hg,sG,GMw];by_cases cT:L[m].lv=1;have h22:x.lv=2:=(by omega);simp only[sH,h22,GMw,hg,cZ,A4 hml,A2,AA,VK,Eu,cT,zYd,zYe];have h22:¬x.lv=2:=(by omega);obtain⟨s1,s2,s3⟩:=y3 j hj;have hlt:=(s3 (by omega) (by omega)).1;obtain⟨g,mM⟩:∃g:Nat,L[m].kid j=(g:Int):=⟨(L[m].kid j).toNat,by omega⟩;obtain⟨e,f1,f2⟩:=Vgk L (n:=g) (by omega) H .i64;rw[mM]at hg;simp only[sH,h22,GMw,mM,hg,cZ,A4 hml,A2,AA,VK,Eu,cT,zYe,f1,f2,zXl];cases(AG L).getD g true with|true=>simp only[GMw,zYd,sG]|false=>simp only[GMw,zYe]
     unfold UcL;simp only[GMw,Ak,show ¬(((4:Nat):Int)<4) from by decide,aP]
   unfold UcM;simp only[GMw,Ak,show ¬(((4:Nat):Int)<4) from by decide]
def VgP (L:List Nd)(tk:Tok)(n k:Nat)(H:Aa)(hL:L.length<140737488355327)(hl:AY L=true)(hn:n<L.length)(h2:2<=L[n].lv)(hk:k<4):UcO (.sl (enL cNd L) tk) (.i6 ((n+1:Nat):Int)) (.i6 (k:Int)) H=some (.ret (.i6 (Ke L L[n] k)),H):=by
 obtain⟨l1,l2,l3⟩:=AZ hl hn;obtain⟨q1,q2,q3⟩:=l3 k hk;have hw:I_.wrap (((n+1:Nat):Int)-1)=(n:Int):=by rw[Am]<;>omega
 unfold UcO Ke;simp only[GMw,hw,A4 hn,A2,Fb hk,AA,VK,Wa,EE hk];by_cases hc:L[n].kid k=0;simp only[hc,GMw,show ¬((0:Int)>0) from by decide,zYd]
 ·obtain⟨m,hm⟩:∃m:Nat,L[n].kid k=((m+1:Nat):Int):=⟨(L[n].kid k-1).toNat,by omega⟩;obtain⟨r1,r2⟩:=q3 (by omega) (by omega);have hml:m<L.length:=by omega
  have cZ:I_.wrap (((m+1:Nat):Int)-1)=(m:Int):=by rw[Am]<;>omega
  have jW:I_.wrap (3-(k:Int))=((3-k:Nat):Int):=by rw[Am]<;>omega
  have hgt:((m+1:Nat):Int)>0:=by omega
  have cE:¬((m+1:Nat):Int)=0:=by omega
  simp only[F8 (c:=((m+1:Nat):Int)) rfl hml,hm,hgt,cE,GMw,cZ,jW,A4 hml,A2,VK,Fb (show 3-k<4 by omega),AA,Wa,EE (show 3-k<4 by omega),zYe]
def Vmd (L:List Nd)(tk:Tok)(H:Aa)(hL:L.length<3518437208883):UcF (.sl (enL cNd L) tk) H=some (if L=[]then (.ret (.sl [] .ti),H)else (.ret (.sl (enL cNd L) (.own H.length)),H++[.tok L.length AO 5])):=by
 have hb:AK 5 []=some (.sl (enL cNd []) .ti):=rfl;unfold UcF;cases L with
 |nil=>have ha:AS AO 5 40 (.sl (enL cNd []) .ti) (.sl (enL cNd []) tk) H=some (.sl (enL cNd []) .ti,H):=F6 (by simp[C8,enL]);have hn:Ri .eql (.sl (enL cNd []) tk)=some .ubool:=rfl;have hu:∀x:Out,Ai .ubool x x=x:=λx=>zYc rfl;simp only[hn,GMw,hb,ha];exact hu _
 |cons x l=>
  have ha:AS AO 5 40 (.sl (enL cNd []) .ti) (.sl (enL cNd (x::l)) tk) H=some (.sl (enL cNd (x::l)) (.own H.length),H++[.tok (x::l).length AO 5]):=by have:=De (f:=cNd) (l:=[]) (m:=x::l) (ty:=AO) (bytes:=40) (tk:=tk) (H:=H) (by simp) (by simp only[zXk];omega) (by simp only[zXk];omega);simpa using this
  have hn:Ri .eql (.sl (enL cNd (x::l)) tk)=some (.bool false):=rfl;simp only[hn,GMw,hb,ha,reduceCtorEq,zYe]
def VdK (L:List Nd)(tk:Tok)(n:Nat)(H:Aa)(hL:L.length<3518437200000)(hl:AY L=true)(hn:n<=L.length):Ubu (.sl (enL cNd L) tk) (.i6 (n:Int)) H=some (.ret (.tup [.sl (enL cNd (Ex L n).1) .no,.i6 ((Ex L n).2:Int)]),H):=by
 unfold Ubu;rw[Vmd L tk H (by omega)];by_cases h0:L=[]
 ·subst h0;have dQ:n=0:=by simpa using hn
  subst dQ;have he:=V9 [] .ti 0 H (by simp) hl (VM _);have oY:(AG ([]:List Nd)).getD 0 true=true:=rfl;have hs:Ex [] 0=([],0):=rfl;rw[show Ab.sl (enL cNd []) .ti=Ab.sl [] .ti from rfl,oY]at he;rw[hs];have:=M8 (H0:=H) (v:=.tup [.sl [] .ti,.i6 0]);simp only[GMw,HPw,Nat.reduceAdd,zYd,he,this]
  rfl
 ·simp only[GMw,h0,zYe,V9 L _ n _ (show L.length<140737488355327 by omega) hl hn];unfold Ex;cases sS:(AG L).getD n true with
  |true=>simp only[GMw,HPw,Nat.reduceAdd,zYd];rfl
  |false=>
   simp only[GMw,HPw,Nat.reduceAdd,zYe];have aV:(Bm L n).lv<=1329:=(by cases n with|zero=>exfalso;rw[Ia]at sS;cases sS|succ m=>rw[BK hn];exact(AZ hl hn).2.1);have key:=Bf (G:=λrec1 vs H1=>Ue0 H rec1 (ag vs 0) (ag vs 1) H1) (σ:=List Nd×Nat×Aa) (λs=>AY s.1=true/\s.2.1<=s.1.length/\s.1.length+(Bm s.1 s.2.1).lv.toNat<3518437208883/\s.1.length+(Bm s.1 s.2.1).lv.toNat<3518437208883)
    (λs=>[.sl (enL cNd s.1) (.own H.length),.i6 (s.2.1:Int)]) (λs=>H++.tok s.1.length AO 5::s.2.2) (λs=>(Bm s.1 s.2.1).lv.toNat)
    (λs=>some (.ret (.tup [.sl (enL cNd (Db (Bm s.1 s.2.1).lv.toNat s.1 s.2.1).1) .no,.i6 ((Db (Bm s.1 s.2.1).lv.toNat s.1 s.2.1).2:Int)]),H)) (λs rec hs hrec=>?_) (L,n,[]) ⟨hl,hn,by dsimp only;omega,by dsimp only;omega⟩ (by dsimp only;omega)
   exact key
   ·obtain⟨M,i,G⟩:=s;obtain⟨hs1,mC,qS,uY⟩:=hs;simp only at hs1 mC qS uY hrec⊢;unfold Ue0;simp only[GMw,Ak,VdM M _ i _ (show M.length<140737488355327 by omega) hs1 mC];cases hh:FB M i with
    |false=>have:Db (Bm M i).lv.toNat M i=(M,i):=(by cases(Bm M i).lv.toNat with|zero=>rfl|succ f=>simp[Db,hh]);simp only[GMw,HPw,Nat.reduceAdd,this]
    |true=>
     obtain⟨jS,iA⟩:=Ql hh;obtain⟨m,rfl⟩:∃m,i=m+1:=⟨i-1,by omega⟩;have hm:m<M.length:=mC;obtain⟨l1,l2,l3⟩:=AZ hs1 hm;have hx:Bm M ((m+1:Nat):Int)=M[m]:=BK hm;rw[hx]at iA qS hrec⊢;have cZ:I_.wrap (((m+1:Nat):Int)-1)=(m:Int):=(by rw[Am]<;>omega);have lI:I_.wrap (M[m].lv-1)=M[m].lv-1:=Am (by omega) (by omega);have jY:Db M[m].lv.toNat M (m+1)=Db (M[m].lv-1).toNat (M++[FV M (m+1)]) (M.length+1):=(by rw[show M[m].lv.toNat=(M[m].lv-1).toNat+1 from by omega];simp only[Db,hh,zYd]);generalize hB:H++.tok M.length AO 5::G=B;simp only[GMw,A2,AA,Nat.add_zero,Eu,cZ,A4 hm,lI,TK,PI,JR (Ap (B:=B) (cs:=cNd nd0)) rfl,Bg];refine Ct (G:=λaA vs H1=>UcP H rec aA (ag vs 0) (ag vs 1) (ag vs 2) (ag vs 3) H1) 4 (λk=>[.sl (enL cNd M) (.own H.length),.i6 ((m+1:Nat):Int),.ptr B.length 0 0,.i6 (k:Int)]) (λk=>B++[.c0 (cNd (UJ (Ke M M[m]) ⟨M[m].lv-1,0,0,0,0⟩ k))]) _ (by decide) (λaA k hk=>?_) (λaA=>?_)
     ·have hk':(k:Int)<4:=(by omega);unfold UcP;have oU:=VgP M (.own H.length) m k (B++[.c0 (cNd (UJ (Ke M M[m]) ⟨M[m].lv-1,0,0,0,0⟩ k))]) (by omega) hs1 hm iA hk;simp only[GMw,Ak,hk',oU,Aj,VK,HY hk,Fj (Ap (B:=B)) hk,Bg,Ar (show k<9223372036854775807 by omega)]
      rfl
     have hf:¬(((4:Nat):Int)<4):=(by decide);have oX:(⟨M[m].lv-1,Ke M M[m] 0,Ke M M[m] 1,Ke M M[m] 2,Ke M M[m] 3⟩:Nd)=FV M (m+1):=(by unfold FV;rw[hx]);unfold UcP;rw[UI];simp only[GMw,Ak,hf,HV (Ap (B:=B)),Kx];rw[<-hB,VP,List.cons_append,VB (by omega)];simp only[GMw,Ax,VR,zXi,oX];have eH:(Bm (M++[FV M (m+1)]) ((M.length+1:Nat):Int)).lv=M[m].lv-1:=(by rw[BK (by simp),show(M++[FV M (m+1)])[M.length]'(by simp)=FV M (m+1) from by simp];show(Bm M ((m+1:Nat):Int)).lv-1=_;rw[hx]);have:=hrec (M++[FV M (m+1)],M.length+1,G++[.c0 (cNd (FV M (m+1)))]) ⟨Qk hs1 hm iA,by simp,by dsimp only;rw[eH];simp;omega,by dsimp only;rw[eH];simp;omega⟩ (by dsimp only;rw[eH];omega);simp only[VR,zXi]at this;rw[this,eH,jY]
section
variable {α β:Type}{f:α->List Ab}{g:β->List Ab}{ty ty2:TypeId}{sz sz2:Nat}
structure Vqa (v v':Ab)(H H':Aa):Prop where
 len:H.length<=H'.length
 keep:∀i,i<H.length->(∀es,v≠.sl es (.own i))->H'[i]? = H[i]?
 own:∀i es,v'=.sl es (.own i)->H.length<=i\/∃es',v=.sl es' (.own i)
theorem RS.snoc2 [hf:Sz f sz]{bytes b:Nat}{out:List α}{v:Ab}{H:Aa}(h:RS f ty sz b out v H)(hb:b<=H.length)(x:α)(tk:Tok)(hl:(out.length+1)*bytes<=140737488355328)(gO:out.length+1<=140737488355328):∃v' H',AS ty sz bytes v (.sl (enL f [x]) tk) H=some (v',H')/\RS f ty sz b (out++[x]) v' H'/\Kp b H H'/\Vqa v v' H H':=by
 rcases h with ⟨rfl,rfl⟩ | ⟨t,h1,rfl,h3⟩;have:=De (f:=f) (l:=[]) (m:=[x]) (ty:=ty) (bytes:=bytes) (tk:=tk) (H:=H) (by simp) (by simpa using hl) (by simp);refine⟨_,_,this,.inr ⟨H.length,hb,rfl,by simp⟩,Kp.app hb _,by simp,λi hi _=>VN hi,λi es e=>?_⟩;injection e with _ e;injection e with e;exact .inl (by omega);have:=F5 (f:=f) (l:=out) (m:=[x]) (ty:=ty) (bytes:=bytes) (tk:=tk) (H:=H) (t:=t) (by simp) h3 (by simpa using hl) (by simpa using gO);have jC:=(VJ.1 h3).1;refine⟨_,_,this,.inr ⟨t,h1,rfl,by simp[jC]⟩,⟨by simp,λi cs hc=>?_,λi hi=>?_⟩,by simp,λi hi hne=>?_,λi es e=>?_⟩;have:t≠i:=λe=>(by rw[<-e,h3]at hc;cases hc);rw[VH this];exact hc;rw[VH (by omega)];have:t≠i:=λe=>hne _ (by rw[e]);rw[VH this];injection e with _ e;injection e with e;exact .inr ⟨_,by rw[e]⟩
theorem RS.notok {b i:Nat}{out:List α}{v:Ab}{H:Aa}{B:Blk}(h:RS f ty sz b out v H)(hB:H[i]? = some B)(hn:∀n e s,B≠.tok n e s):∀es,v≠.sl es (.own i):=by intro es e;rcases h with ⟨_,k1⟩ | ⟨t,_,k1,k2⟩;rw[k1]at e;injection e with _ e;cases e;rw[k1]at e;injection e with _ e;injection e with e;rw[e,hB]at k2;injection k2 with k2;exact hn _ _ _ k2
theorem RS.setB {b i:Nat}{out:List α}{v:Ab}{H:Aa}{B B':Blk}(h:RS f ty sz b out v H)(hB:H[i]? = some B)(hn:∀n e s,B≠.tok n e s):RS f ty sz b out v (H.set i B'):=by have hne:=h.notok hB hn;rcases h with h1 | ⟨t,h1,h2,h3⟩;exact .inl h1;refine .inr ⟨t,h1,h2,?_⟩;have:i≠t:=λe=>hne _ (by rw[h2,e]);rw[VH this];exact h3
theorem RS.one {b:Nat}{out:List α}{v:Ab}{H:Aa}(h:RS f ty sz b out v H):v.isScal=true:=by obtain⟨tk,rfl⟩:=h.sl;rfl
theorem RS.len {b:Nat}{out:List α}{v:Ab}{H:Aa}(h:RS f ty sz b out v H):A9 v=some (.i6 (out.length:Int)):=by obtain⟨tk,rfl⟩:=h.sl;exact Ax

end
def Vit:∀(N:Nat)(l:zAb),l.Nodup->(∀x∈l,x<N)->l.length<=N:=by
 intro N
 induction N with
 |zero=>intro l _ h;cases l with|nil=>simp|cons a l=>have:=h a (by simp);omega
 |succ N ih=>intro l hn h;by_cases hN:N∈l;have h1:=List.length_erase_of_mem hN;have h2:=ih (l.erase N) (hn.erase N) (λx hx=>by rw[hn.mem_erase_iff]at hx;have:=h x hx.2;omega);have:=List.length_pos_of_mem hN;omega;have:=ih l hn (λx hx=>by have:=h x hx;have:x≠N:=λe=>hN (e ▸ hx);omega);omega
def knF:Nat->List Nd->List (Ab×Ab)
 |_,[]=>[]
 |s,x::l=>(.agg (cNd x),.i6 ((s+1:Nat):Int))::knF (s+1) l
def Tn (a:Nd)(l:List Nd)(y:Nd):CM (a::l) y=if a=y then 1 else if CM l y=0 then 0 else CM l y+1:=by
 by_cases h:a=y;rw[zYc h,Hu];exact⟨by simp[h],λj hj=>by omega⟩
 ·rw[zYb h];cases hf:CM l y with
  |zero=>rw[zYc rfl,KT];rw[KT]at hf;intro hm;rcases WF.1 hm with e | e;exact h e.symm;exact hf e
  |succ i=>rw[zYb (by omega),Hu];rw[Hu]at hf;refine⟨by simpa using hf.1,λj hj=>?_⟩;cases j with|zero=>simpa using h|succ j=>simpa using hf.2 j (by omega)
theorem Vcs (y:Nd):Eg true 5 (.agg (cNd y))=some (cNd y):=(rfl)
def Vk (y:Nd):∀(l:List Nd)(s:Nat),EZ true 5 (knF s l) (cNd y)=some (if CM l y=0 then none else some (.i6 ((s+CM l y:Nat):Int)))
 |[],s=>by
  have:CM [] y=0:=by rw[KT];simp
  simp[knF,EZ,this]
 |a::l,s=>by
  have ih:=Vk y l (s+1);simp only[knF,EZ,Vcs,BI,PA];rw[Tn];by_cases h:a=y;subst h;simp
  ·have h':¬y=a:=λe=>h e.symm;rw[zXd h',zYb h];simp only[VL,zYe,ih];by_cases h0:CM l y=0;simp[h0]
   ·rw[zYb h0,zYb (by rw[zYb h0];omega),zYb h0]
    congr 3;omega
def U4 (y:Nd):∀(l:List Nd)(s:Nat),CM l y=0->DH true 5 (knF s l) (.agg (cNd y)) (cNd y) (.i6 ((s+l.length+1:Nat):Int))=some (knF s (l++[y]))
 |[],s,_=>rfl
 |a::l,s,h=>by
  rw[Tn]at h;by_cases ha:a=y;rw[zYc ha]at h;omega
  ·rw[zYb ha]at h;have h0:CM l y=0:=(by by_cases h0:CM l y=0;exact h0;rw[zYb h0]at h;omega);have h':¬y=a:=λe=>ha e.symm;have ih:=U4 y l (s+1) h0;simp only[knF,DH,Vcs,BI,PA,List.cons_append];rw[zXd h'];simp only[VL,zYe];rw[zXj,show s+(l.length+1)+1=s+1+l.length+1 by omega,ih]
   rfl
def dnM (D:List (Nat×Nat)):List (Ab×Ab):=D.map λp=>(.i6 (p.1:Int),.i6 (p.2:Int))
def lkD (D:List (Nat×Nat))(n:Nat):Option Nat:=match D with
 |[]=>none
 |p::r=>if p.1=n then some p.2 else lkD r n
theorem VfI {n m:Nat}:∀ {D:List (Nat×Nat)},lkD D n=some m->(n,m)∈D
 |[],h=>by cases h
 |p::r,h=>by unfold lkD at h;by_cases hp:p.1=n;rw[zYc hp]at h;injection h with h;subst hp;subst h;exact List.mem_cons_self;rw[zYb hp]at h;exact List.mem_cons_of_mem _ (VfI h)
theorem Vcn {n:Nat}:∀ {D:List (Nat×Nat)},lkD D n=none->n ∉ D.map (·.1)
 |[],h=>by simp
 |p::r,h=>by unfold lkD at h;by_cases hp:p.1=n;rw[zYc hp]at h;cases h;rw[zYb hp]at h;have:=Vcn h;simp only[Xo,WF,not_or];exact⟨λe=>hp e.symm,this⟩
theorem VaZ {n:Nat}{p:Nat×Nat}:∀ {D:List (Nat×Nat)},lkD (D++[p]) n=(match lkD D n with | some m=>some m | none=>if p.1=n then some p.2 else none)
 |[]=>by simp[lkD]
 |q::r=>by have ih:=VaZ (n:=n) (p:=p) (D:=r);simp only[List.cons_append,lkD];by_cases hq:q.1=n;simp only[zYc hq];simp only[zYb hq,ih]
def Vch (a b:Nat):Cg [.i6 (a:Int)] [.i6 (b:Int)]=some (decide (a=b)):=by
 simp only[Cg,HA,zYd,BI]
 congr 1
 rw[VZ];simp;omega
theorem RF (a:Int):Eg false 1 (.i6 a)=some [.i6 a]:=(rfl)
theorem Vl (n:Nat):∀D:List (Nat×Nat),EZ false 1 (dnM D) [.i6 (n:Int)]=some ((lkD D n).map λm=>Ab.i6 (m:Int))
 |[]=>rfl
 |p::r=>by have ih:=Vl n r;simp only[dnM,Xo,EZ,RF,BI,Vch,lkD];by_cases hp:p.1=n;subst hp;simp;have:¬n=p.1:=λe=>hp e.symm;rw[zXd this,zYb hp];simpa[dnM]using ih
theorem U5 (n m:Nat):∀D:List (Nat×Nat),lkD D n=none->DH false 1 (dnM D) (.i6 (n:Int)) [.i6 (n:Int)] (.i6 (m:Int))=some (dnM (D++[(n,m)]))
 |[],_=>rfl
 |p::r,h=>by
  unfold lkD at h;by_cases hp:p.1=n;rw[zYc hp]at h;cases h
  ·rw[zYb hp]at h;have ih:=U5 n m r h;have:¬n=p.1:=λe=>hp e.symm;simp only[dnM,Xo,DH,RF,BI,Vch,List.cons_append]at ih⊢;rw[zXd this];simp only[VL,zYe,ih]
   rfl
def Vck {H:Aa}{id:Nat}{D:List (Nat×Nat)}(h:H[id]? = some (.map (dnM D)))(n:Nat):FA false 1 (some (.i6 0)) true (.mp id) (.i6 (n:Int)) H=some (match lkD D n with | some m=>.tup [.i6 (m:Int),.bool true] | none=>.tup [.i6 0,.bool false]):=by unfold FA;simp only[BI,RF,h,Vl,zXb];cases lkD D n<;>rfl
def Veb {H:Aa}{id:Nat}{D:List (Nat×Nat)}(h:H[id]? = some (.map (dnM D))){n:Nat}(m:Nat)(hn:lkD D n=none):Ev false 1 (.mp id) (.i6 (n:Int)) (.i6 (m:Int)) H=some (H.set id (.map (dnM (D++[(n,m)])))):=by unfold Ev;simp only[BI,RF,h,U5 n m D hn,zXb]
def Vi4 {H:Aa}{id:Nat}{out:List Nd}(h:H[id]? = some (.map (knF 0 out)))(y:Nd):FA true 5 (some (.i6 0)) true (.mp id) (.agg (cNd y)) H=some (if CM out y=0 then .tup [.i6 0,.bool false]else .tup [.i6 (CM out y:Int),.bool true]):=by unfold FA;simp only[BI,Vcs,h,Vk,zXb,VK];by_cases h0:CM out y=0<;>simp[h0]
def Vko {H:Aa}{id:Nat}{out:List Nd}(h:H[id]? = some (.map (knF 0 out))){y:Nd}(hn:CM out y=0):Ev true 5 (.mp id) (.agg (cNd y)) (.i6 ((out.length+1:Nat):Int)) H=some (H.set id (.map (knF 0 (out++[y])))):=by have:=U4 y out 0 hn;rw[VK]at this;unfold Ev;simp only[BI,Vcs,h,this,zXb]
def KI (y:Nd):Bool:=decide (y.k0=0)&&(decide (y.k1=0)&&(decide (y.k2=0)&&decide (y.k3=0)))
def Vg0 (y:Nd):Af (.flat 4) .eql (.agg (J0 y)) (.agg [.i6 0,.i6 0,.i6 0,.i6 0])=some (.bool (KI y)):=by
 show(eqA (.flat 4) (.agg (J0 y)) (.agg [.i6 0,.i6 0,.i6 0,.i6 0])).map Ab.bool=_;have h:eqA (.flat 4) (.agg (J0 y)) (.agg [.i6 0,.i6 0,.i6 0,.i6 0])=some (KI y):=by
  unfold eqA;simp only[];rw[zYc (show(J0 y).length=4 from rfl)];simp only[J0,Cg,HA,zYd,BI,Bool.and_true,GS]
  rfl
 rw[h];rfl
def I5 (out:List Nd)(y:Nd):List Nd×Nat:=if KI y then (out,0)else DA out y
structure AR (b ar km:Nat)(out:List Nd)(v:Ab)(H:Aa):Prop where
 cell:H[ar]? = some (.c0 [v,.mp km])
 row:RS cNd AO 5 b out v H
 known:H[km]? = some (.map (knF 0 out))
structure AX (b ar km:Nat)(H H':Aa):Prop where
 len:H.length<=H'.length
 cel:∀(i:Nat)(cs:List Ab),i≠ar->H[i]? = some (.c0 cs)->H'[i]? = some (.c0 cs)
 map:∀(i:Nat)(es:List (Ab×Ab)),i≠km->H[i]? = some (.map es)->H'[i]? = some (.map es)
 old:∀i,i<b->H'[i]? = H[i]?
theorem AX.trans {b ar km:Nat}{H H1 H2:Aa}(h:AX b ar km H H1)(k:AX b ar km H1 H2):AX b ar km H H2:=
 ⟨Wg h.len k.len,λi cs hi hc=>k.cel i cs hi (h.cel i cs hi hc),λi es hi hc=>k.map i es hi (h.map i es hi hc),λi hi=>(k.old i hi).trans (h.old i hi)⟩
theorem AX.push {b ar km:Nat}{H:Aa}(hb:b<=H.length)(G:Aa):AX b ar km H (H++G):=
 ⟨by simp,λi cs _ h=>A1 h,λi es _ h=>A1 h,λi hi=>VN (by omega)⟩
theorem AR.push {b ar km:Nat}{out:List Nd}{v:Ab}{H:Aa}(h:AR b ar km out v H)(G:Aa):AR b ar km out v (H++G):=
 ⟨A1 h.cell,h.row.left G,A1 h.known⟩
def VdL {b ar km:Nat}{out:List Nd}{v:Ab}{H:Aa}(h:AR b ar km out v H)(hba:b<=ar)(lQ:b<=km)(hb:b<=H.length)(y:Nd)(ho:out.length<3000000000000):∃v' H',Ubv (.ptr ar 0 0) (.agg (cNd y)) H=some (.ret (.i6 ((I5 out y).2:Int)),H')/\AR b ar km (I5 out y).1 v' H'/\AX b ar km H H':=by
 have hB:b<=(H++[Blk.c0 (cNd y)]).length:=by simp;omega
 have h1:=h.push [.c0 (cNd y)];have e1:AX b ar km H (H++[.c0 (cNd y)]):=AX.push hb _;have gI:Az (some [(.i6 0),(.i6 0),(.i6 0),(.i6 0)]) []=some (.agg [.i6 0,.i6 0,.i6 0,.i6 0]):=rfl;unfold Ubv I5;have l0:=Bt (o:=0) (sz:=1) h1.cell;have l1:=Bt (o:=1) (sz:=1) h1.cell;cases hz:KI y with
 |true=>simp only[GMw,HPw,Kv,Jg,Pn,gI,Vg0,hz,zYd];exact⟨v,_,rfl,h1,e1⟩
 |false=>simp only[GMw,HPw,Kv,Jg,Pn,gI,Vg0,hz,l1,Vi4 h1.known,zYe];unfold DA;by_cases h0:CM out y=0;obtain⟨v',H2,ha,hr,hk,hg⟩:=RS.snoc2 (bytes:=40) h1.row hB y .ti (by omega) (by omega);have iX:=hk.cel _ _ h1.cell;have hst:=Dm (o:=0) (v:=v') iX hr.one (by simp);have mJ:km≠ar:=λe=>(by have:=h.known;rw[e,h.cell]at this;cases this);have xH:ar<H.length:=(VJ.1 h.cell).1;have cX:km<H.length:=(VJ.1 h.known).1;have pQ:∀es,v≠.sl es (.own km):=h.row.notok (B:=.map (knF 0 out)) h.known (λ_ _ _ e=>by cases e);have hk2:H2[km]? = some (.map (knF 0 out)):=(by rw[hg.keep km (by simp;omega) pQ];exact h1.known);have hH1:H.length≠ar:=(by omega);have hbox:H2[H.length]? = some (.c0 (cNd y)):=hk.cel _ _ Ap;have gO:ar<H2.length:=(VJ.1 iX).1;have wI:km<H2.length:=(VJ.1 hk2).1;obtain⟨H3,hH3⟩:∃H3,H3=H2.set ar (.c0 ([v,.mp km].set 0 v')):=⟨_,rfl⟩;rw[<-hH3]at hst;have kY:H3[ar]? = some (.c0 [v',.mp km]):=(by rw[hH3,VX gO];rfl);have hk3:H3[km]? = some (.map (knF 0 out)):=(by rw[hH3,VH (Ne.symm mJ)];exact hk2);have xG:H3[H.length]? = some (.c0 (cNd y)):=(by rw[hH3,VH (Ne.symm hH1)];exact hbox);have l30:=Bt (o:=0) (sz:=1) kY;have l31:=Bt (o:=1) (sz:=1) kY;have aM:=Vko hk3 h0;obtain⟨H4,hH4⟩:∃H4,H4=H3.set km (.map (knF 0 (out++[y]))):=⟨_,rfl⟩;rw[<-hH4]at aM;have mO:H4[ar]? = some (.c0 [v',.mp km]):=(by rw[hH4,VH mJ];exact kY);have l40:=Bt (o:=0) (sz:=1) mO;have hlen:=hr.len;rw[VR,zXi]at hlen;refine⟨v',H4,?_,⟨mO,?_,?_⟩,e1.trans ⟨?_,λi cs hi hc=>?_,λi es hi hc=>?_,λi hi=>?_⟩⟩;simp only[h0,zYd,GMw,HPw,l0,Kx,ha,hst,l30,l31,HV xG,hlen,aM,l40];have r3:RS cNd AO 5 b (out++[y]) v' H3:=(by rw[hH3];exact hr.put iX);rw[hH4,zYc h0];exact r3.setB hk3 (λ_ _ _ e=>by cases e);rw[hH4,VX (by rw[hH3,zXp];exact wI)];simp only[h0,zYd];rw[hH4,zXp,hH3,zXp];exact hk.len;have c2:=hk.cel i cs hc;have hik:i≠km:=λe=>(by rw[e,hk2]at c2;cases c2);rw[hH4,VH (Ne.symm hik),hH3,VH (Ne.symm hi)];exact c2;have Zz:i≠ar:=λe=>(by rw[e,h1.cell]at hc;cases hc);have hil:i<(H++[Blk.c0 (cNd y)]).length:=(VJ.1 hc).1;have iV:∀es',v≠.sl es' (.own i):=h1.row.notok hc (λ_ _ _ e=>by cases e);rw[hH4,VH (Ne.symm hi),hH3,VH (Ne.symm Zz),hg.keep i hil iV];exact hc;rw[hH4,VH (by omega),hH3,VH (by omega)];exact hk.old i hi;simp only[h0,zYe,GMw,HPw];exact⟨v,_,rfl,h1,e1⟩
def O5 (y:Nd):KI y=(List.range 4).all λk=>decide (y.kid k=0):=by
 rw[O2];simp only[KI,Bool.and_assoc]
 rfl
def Kd {L:List Nd}{v n:Nat}{out:List Nd}(h:n=0\/(AG L).getD n true=true):Bu L (AG L) v n out=(out,0):=by
 have he:(AG L).getD n true=true:=by rcases h with h | h;rw[h];exact Ia L;exact h
 cases v with|zero=>rfl|succ v=>simp only[Bu,he,zYd]
def ViE {L:List Nd}{v n:Nat}{out:List Nd}(h:(AG L).getD n true=false):0<(Bu L (AG L) (v+1) n out).2:=by simp only[Bu,h,VL,zYe];split;exact SA _ _;exact SA _ _
theorem Qj (rec:Nat->List Nd->List Nd×Nat)(x:Nd)(out:List Nd):∀k,k<=4->∀j,j<k->(Cr rec x k out).2.kid j=((rec (x.kid j).toNat (Cr rec x j out).1).2:Int)
 |0,_,j,h=>by omega
 |k+1,hk,j,h=>by simp only[Cr];by_cases e:j=k;subst e;rw[VaE _ _ (by omega)];rw[GB _ _ (by omega) (by omega) e];exact Qj rec x out k (by omega) j (by omega)
theorem Vu {L:List Nd}{v:Nat}(x:Nd)(out:List Nd)(h:∀k,k<4->(x.kid k).toNat=0\/(AG L).getD (x.kid k).toNat true=true):∀k,k<=4->(Cr (Bu L (AG L) v) x k out).1=out
 |0,_=>rfl
 |k+1,hk=>by simp only[Cr];rw[Kd (h k (by omega))];exact Vu x out h k (by omega)
def Vd7 {L:List Nd}(hl:AY L=true){m v:Nat}(hm:m<L.length)(hv:L[m].lv.toNat=v+1)(out:List Nd):I5 (Cr (Bu L (AG L) v) L[m] (if 1<L[m].lv then 4 else 0) out).1 (Cr (Bu L (AG L) v) L[m] (if 1<L[m].lv then 4 else 0) out).2=Bu L (AG L) (v+1) (m+1) out:=by
 obtain⟨l1,l2,l3⟩:=AZ hl hm;have hx:Bm L ((m+1:Nat):Int)=L[m]:=BK hm;have he:=VlL hl (n:=m+1) (by omega) hm;rw[hx]at he;by_cases h1:1<L[m].lv
 ·rw[zYc h1];cases hE:(AG L).getD (m+1) true with
  |true=>
   rw[hE]at he;have hk:∀k,k<4->(L[m].kid k).toNat=0\/(AG L).getD (L[m].kid k).toNat true=true:=λk hk=>by
    have:=Wf.1 he.symm k (by simpa using hk);simp only[WQ,zXe,VV]at this;rcases this with h | h;left;rw[h];rfl
    exact .inr h.2
   have hn:KI (Cr (Bu L (AG L) v) L[m] 4 out).2=true:=(by rw[O5,Wf];intro k hk';have jH:k<4:=(by simpa using hk');rw[zXe,Qj _ _ _ 4 (by omega) k jH,Kd (hk k jH)];rfl);unfold I5;rw[hn,zYc rfl,Vu _ _ hk 4 (by omega)];simp only[Bu,hE,zYd]
  |false=>
   rw[hE]at he;have:¬ ∀k,k<4->(L[m].kid k=0\/(AG L).getD (L[m].kid k).toNat true=true):=λh=>(by have:((List.range 4).all λk=>decide (L[m].kid k=0)||(decide (1<L[m].lv)&&(AG L).getD (L[m].kid k).toNat true))=true:=(by rw[Wf];intro k hk;have:=h k (by simpa using hk);simp only[WQ,zXe,VV];rcases this with q | q;exact .inl q;exact .inr ⟨h1,q⟩);rw[this]at he;cases he);have⟨k,jH,iU⟩:∃k,k<4/\¬(L[m].kid k=0\/(AG L).getD (L[m].kid k).toNat true=true):=(by by_cases h:∃k,k<4/\¬(L[m].kid k=0\/(AG L).getD (L[m].kid k).toNat true=true);exact h;exact zYf (λk hk=>Decidable.byContradiction λhc=>h ⟨k,hk,hc⟩) this);have hn:KI (Cr (Bu L (AG L) v) L[m] 4 out).2=false:=by
    rw[O5,X7];refine⟨k,by simpa using jH,?_⟩;rw[zXe,Qj _ _ _ 4 (by omega) k jH];obtain⟨v',rfl⟩:∃v',v=v'+1:=⟨v-1,by omega⟩;have:=ViE (L:=L) (v:=v') (n:=(L[m].kid k).toNat) (out:=(Cr (Bu L (AG L) (v'+1)) L[m] k out).1) (by
     cases hq:(AG L).getD (L[m].kid k).toNat true with
     |false=>rfl
     |true=>exact zYf (.inr hq) iU)
    omega
   unfold I5;rw[hn];simp only[Bu,hE,VL,zYe,hx,zYc h1]
 ·rw[zYb h1];have hn:KI L[m]=(AG L).getD (m+1) true:=by rw[he,O5,O2,O2];simp[h1]
  unfold I5;simp only[Cr,Bu,hn,hx,zYb h1]
structure Vo3 where
 b:Nat
 pd:Nat
 pl:Nat
 pv:Nat
 pa:Nat
 ar:Nat
 km:Nat
 dm:Nat
structure VQ (s:Vo3)(L:List Nd)(tk:Tok)(out:List Nd)(D:List (Nat×Nat))(H:Aa):Prop where
 hb:s.b<=s.ar/\s.b<=s.km/\s.b<=s.dm/\s.km≠s.dm
 ne:s.pd≠s.ar/\s.pl≠s.ar/\s.pv≠s.ar/\s.pa≠s.ar
 done:H[s.pd]? = some (.c0 [.mp s.dm])
 list:H[s.pl]? = some (.c0 [.sl (enL cNd L) tk])
 self:H[s.pv]? = some (.c0 [.fn 161 [.ptr s.pd 0 0,.ptr s.pl 0 0,.ptr s.pv 0 0,.ptr s.pa 0 0]])
 arena:H[s.pa]? = some (.c0 [.ptr s.ar 0 0])
 nodes:∃v,AR s.b s.ar s.km out v H
 nums:H[s.dm]? = some (.map (dnM D))
structure VD (L out:List Nd)(D:List (Nat×Nat)):Prop where
 nd:(D.map (·.1)).Nodup
 le:∀p∈D,p.1<=L.length
 val:∀p∈D,Bu L (AG L) (Bm L (p.1:Int)).lv.toNat p.1 out=(out,p.2)
 cnt:out.length<D.length
 zero:lkD D 0=some 0
theorem VD.short {L out:List Nd}{D:List (Nat×Nat)}(h:VD L out D):out.length<=L.length:=by have:=Vit (L.length+1) (D.map (·.1)) h.nd (λx hx=>by obtain⟨p,hp,rfl⟩:=WZ.1 hx;have:=h.le p hp;omega);rw[WP]at this;have:=h.cnt;omega
theorem VQ.len {s:Vo3}{L:List Nd}{tk:Tok}{out:List Nd}{D:List (Nat×Nat)}{H:Aa}(h:VQ s L tk out D H):s.b<=H.length:=by obtain⟨v,h1⟩:=h.nodes;have:=(VJ.1 h1.cell).1;have:=h.hb.1;omega
theorem VQ.cells {s:Vo3}{L:List Nd}{tk:Tok}{out:List Nd}{D:List (Nat×Nat)}{H H':Aa}(h:VQ s L tk out D H)(hk:∀i,i<H.length->H'[i]? = H[i]?)(hl:H.length<=H'.length):VQ s L tk out D H':=by
 have g:∀ {i:Nat} {x:Blk},H[i]? = some x->H'[i]? = some x:=λhx=>by rw[hk _ (VJ.1 hx).1];exact hx
 obtain⟨v,h1⟩:=h.nodes;refine⟨h.hb,h.ne,g h.done,g h.list,g h.self,g h.arena,⟨v,g h1.cell,?_,g h1.known⟩,g h.nums⟩;rcases h1.row with r | ⟨t,r1,r2,r3⟩;exact .inl r;exact .inr ⟨t,r1,r2,g r3⟩
theorem VQ.put {s:Vo3}{L:List Nd}{tk:Tok}{out:List Nd}{D:List (Nat×Nat)}{H:Aa}{q:Nat}{x y:Nd}(h:VQ s L tk out D H)(hq:H[q]? = some (.c0 (cNd x))):VQ s L tk out D (H.set q (.c0 (cNd y))):=by
 obtain⟨v,h1⟩:=h.nodes;have n5:∀ {i:Nat} {c:List Ab},H[i]? = some (.c0 c)->c.length≠5->(H.set q (.c0 (cNd y)))[i]? = some (.c0 c):=λ{i c} hi hc=>by
  have:q≠i:=λe=>by rw[e,hi]at hq;injection hq with hq;injection hq with _ hq;rw[hq]at hc;exact hc rfl
  rw[VH this];exact hi
 have nm:∀ {i:Nat} {es:List (Ab×Ab)},H[i]? = some (.map es)->(H.set q (.c0 (cNd y)))[i]? = some (.map es):=λ{i es} hi=>by
  have:q≠i:=λe=>by rw[e,hi]at hq;cases hq
  rw[VH this];exact hi
 exact⟨h.hb,h.ne,n5 h.done (by simp),n5 h.list (by simp),n5 h.self (by simp),n5 h.arena (by simp),⟨v,n5 h1.cell (by simp),h1.row.put hq,nm h1.known⟩,nm h.nums⟩
theorem VD.grow {L out:List Nd}{D:List (Nat×Nat)}(h:VD L out D)(r:List Nd):∀p∈D,Bu L (AG L) (Bm L (p.1:Int)).lv.toNat p.1 (out++r)=(out++r,p.2):=by
 intro p hp;have h3:=h.val p hp;have:=IX (L:=L) (E:=AG L) (Bm L (p.1:Int)).lv.toNat p.1 out r
 rwa [h3]at this
def VgO {s:Vo3}{L:List Nd}{tk:Tok}(hL:L.length<2000000000000)(hl:AY L=true):∀(v n d:Nat)(out:List Nd)(D:List (Nat×Nat)) (H:Aa),n<=L.length->(n=0\/(Bm L (n:Int)).lv.toNat=v)->v<d->VQ s L tk out D H->VD L out D ->
  ∃H' D',Ufr d (.i6 (n:Int)) (.ptr s.pd 0 0) (.ptr s.pl 0 0) (.ptr s.pv 0 0) (.ptr s.pa 0 0) H=some (.ret (.i6 ((Bu L (AG L) v n out).2:Int)),H') /\
   VQ s L tk (Bu L (AG L) v n out).1 D' H'/\Ext s.b s.ar H H'/\VD L (Bu L (AG L) v n out).1 D'/\∀j,n<j->lkD D' j=lkD D j:=by
 intro v
 induction v with
 |zero=>
  intro n d out D H hn hv hd hQ hD;obtain⟨d,rfl⟩:∃e,d=e+1:=⟨d-1,by omega⟩;have dQ:n=0:=by rcases hv with h | h;exact h;cases n with|zero=>rfl|succ m=>rw[BK (show m<L.length from hn)]at h;have:=(AZ hl (show m<L.length from hn)).1;omega
  subst dQ;refine⟨H,D,?_,hQ,Ext.refl _ _ _,hD,λ_ _=>rfl⟩;show Ubw (Ufr d) _ _ _ _ _ _=_;have hlk:=Vck hQ.nums 0;rw[hD.zero]at hlk;unfold Ubw;simp only[GMw,HPw,Bt hQ.done,hlk]
  rfl
 |succ v ih=>
  intro n d out D H hn hv hd hQ hD;obtain⟨d,rfl⟩:∃e,d=e+1:=⟨d-1,by omega⟩;show ∃H' D',Ubw (Ufr d) _ _ _ _ _ _=_/\_;have hlk:=Vck hQ.nums n;unfold Ubw;simp only[GMw,HPw,Bt hQ.done,hlk];cases aZ:lkD D n with
  |some m=>have cM:=VfI aZ;have cG:=hD.val _ cM;dsimp only at cG;have eK:Bu L (AG L) (v+1) n out=(out,m):=(by rcases hv with h | h;have:=Kd (L:=L) (v:=(Bm L (n:Int)).lv.toNat) (out:=out) (n:=n) (.inl h);rw[cG]at this;rw[Kd (.inl h)];exact this.symm;rw[h]at cG;exact cG);rw[eK];exact⟨H,D,by simp only[GMw,HPw],hQ,Ext.refl _ _ _,hD,λ_ _=>rfl⟩
  |none=>
   obtain⟨m,rfl⟩:∃m,n=m+1:=⟨n-1,by
    cases n with
    |zero=>rw[hD.zero]at aZ;cases aZ
    |succ n=>rfl⟩
   have hm:m<L.length:=hn;have aQ:(Bm L ((m+1:Nat):Int)).lv.toNat=v+1:=(by rcases hv with h | h;omega;exact h);obtain⟨l1,l2,l3⟩:=AZ hl hm;have hx:Bm L ((m+1:Nat):Int)=L[m]:=BK hm;rw[hx]at aQ;have cZ:I_.wrap (((m+1:Nat):Int)-1)=(m:Int):=(by rw[Am]<;>omega);have xD:=hQ.len;have hQ1:VQ s L tk out D (H++[.c0 (cNd L[m])]):=hQ.cells (λi hi=>VN hi) (by simp);have hE1:Ext s.b s.ar H (H++[.c0 (cNd L[m])]):=Ext.snoc xD _;have hHar:H.length≠s.ar:=(by obtain⟨v,h1⟩:=hQ.nodes;have:=(VJ.1 h1.cell).1;omega);simp only[GMw,HPw,Nat.reduceAdd,Bt hQ.list,cZ,A4 hm,Jz,Eu,Kv,Jg,Pn];have fin:∀(Hc:Aa)(D1:List (Nat×Nat)),lkD D1 (m+1)=none->VQ s L tk (Cr (Bu L (AG L) v) L[m] (if 1<L[m].lv then 4 else 0) out).1 D1 Hc->Hc[H.length]? = some (.c0 (cNd (Cr (Bu L (AG L) v) L[m] (if 1<L[m].lv then 4 else 0) out).2))->Ext s.b s.ar H Hc->VD L (Cr (Bu L (AG L) v) L[m] (if 1<L[m].lv then 4 else 0) out).1 D1->(∀j,m<j->lkD D1 j=lkD D j) ->
     ∃H' D',UcQ H (.i6 ((m+1:Nat):Int)) (.ptr s.pd 0 0) (.ptr s.pa 0 0) (.ptr H.length 0 0) Hc=some (.ret (.i6 ((Bu L (AG L) (v+1) (m+1) out).2:Int)),H') /\
      VQ s L tk (Bu L (AG L) (v+1) (m+1) out).1 D' H'/\Ext s.b s.ar H H'/\VD L (Bu L (AG L) (v+1) (m+1) out).1 D'/\∀j,m+1<j->lkD D' j=lkD D j:=by
    intro Hc D1 cT hQc hbox hEc hDc Zx;have oT:=Vd7 hl hm aQ out;have cF:=IX (L:=L) (E:=AG L) (v+1) (m+1) out [];rw[Wm]at cF;generalize Cr (Bu L (AG L) v) L[m] (if 1<L[m].lv then 4 else 0) out=io at *;obtain⟨o,y⟩:=io;dsimp only at *;obtain⟨vv,hA⟩:=hQc.nodes;have lJ:=hDc.short;obtain⟨v',H2,i1,i2,i3⟩:=VdL hA hQc.hb.1 hQc.hb.2.1 hQc.len y (by omega);rw[oT]at i1 i2;have uD:s.dm≠s.km:=Ne.symm hQc.hb.2.2.2;have jN:=i3.map _ _ uD hQc.nums;have Zm:=i3.cel _ _ hQc.ne.1 hQc.done;have aM:=Veb (H:=H2) (n:=m+1) jN (Bu L (AG L) (v+1) (m+1) out).2 cT;have sM:∃r,(Bu L (AG L) (v+1) (m+1) out).1=o++r:=(by rw[<-oT];unfold I5 DA;split;exact⟨[],by simp⟩;split;exact⟨[y],rfl⟩;exact⟨[],by simp⟩);have yS:(Bu L (AG L) (v+1) (m+1) out).1.length<=o.length+1:=(by rw[<-oT];unfold I5 DA;split;dsimp only;omega;split;simp;dsimp only;omega);refine⟨H2.set s.dm (.map (dnM (D1++[(m+1,(Bu L (AG L) (v+1) (m+1) out).2)]))),D1++[(m+1,(Bu L (AG L) (v+1) (m+1) out).2)],?_,?_,hEc.trans ⟨?_,λi cs hi hc=>?_,λi hi=>?_⟩,?_,λj hj=>?_⟩;unfold UcQ;simp only[GMw,HPw,Bt hQc.arena,HV hbox,i1,Bt Zm,aM]
    ·have Z4:s.dm<H2.length:=(VJ.1 jN).1;have nc:∀ {i:Nat} {c:List Ab},i≠s.ar->Hc[i]? = some (.c0 c)->(H2.set s.dm (.map (dnM (D1++[(m+1,(Bu L (AG L) (v+1) (m+1) out).2)]))))[i]? = some (.c0 c):=λ{i c} hi hc=>(by have h2:=i3.cel i c hi hc;have:s.dm≠i:=λe=>(by rw[<-e,jN]at h2;cases h2);rw[VH this];exact h2);have pX:s.dm≠s.ar:=λe=>(by have:=i2.cell;rw[<-e,jN]at this;cases this);exact⟨hQc.hb,hQc.ne,nc hQc.ne.1 hQc.done,nc hQc.ne.2.1 hQc.list,nc hQc.ne.2.2.1 hQc.self,nc hQc.ne.2.2.2 hQc.arena,
      ⟨v',by rw[VH pX];exact i2.cell,i2.row.setB jN (λ_ _ _ e=>by cases e),by rw[VH uD];exact i2.known⟩,by rw[VX Z4]⟩
    rw[zXp];exact i3.len;have h2:=i3.cel i cs hi hc;have:s.dm≠i:=λe=>(by rw[<-e,jN]at h2;cases h2);rw[VH this];exact h2;have:=hQc.hb.2.2.1;rw[VH (by omega)];exact i3.old i hi;obtain⟨r,hr⟩:=sM;refine⟨?_,λp hp=>?_,λp hp=>?_,?_,?_⟩;rw[List.map_append,List.nodup_append];refine⟨hDc.nd,by simp,λa ha b hb=>?_⟩;have hbm:b=m+1:=(by simpa using hb);have:=Vcn cT;exact λe=>this (by rw[<-hbm,<-e];exact ha);rcases Wk.1 hp with h | h;exact hDc.le p h;rw[Wj.1 h];exact hn;rcases Wk.1 hp with h | h;rw[hr];exact hDc.grow r p h;rw[Wj.1 h];dsimp only;rw[hx,aQ];exact cF;rw[VR,zXi];have:=hDc.cnt;omega;rw[VaZ,hDc.zero];rw[VaZ,Zx j (by omega)];cases lkD D j with|some _=>rfl|none=>dsimp only;rw[zYb (by omega)]
   by_cases aV:L[m].lv>1
   ·simp only[aV,GMw];have pE:1<L[m].lv:=aV;rw[zYc pE]at fin;have loop:=Fp (G:=λaA vs H1=>UcR H (Ufr d) (λvs H=>UcQ H (ag vs 0) (ag vs 1) (ag vs 2) (ag vs 3) H) aA (ag vs 0) (ag vs 1) (ag vs 2) (ag vs 3) (ag vs 4) (ag vs 5) (ag vs 6) H1) 4
     (λk vs Hc=>∃D',vs=[.i6 ((m+1:Nat):Int),.ptr s.pd 0 0,.ptr s.pv 0 0,.ptr s.pa 0 0,.ptr H.length 0 0,.agg (J0 L[m]),.i6 (k:Int)]/\VQ s L tk (Cr (Bu L (AG L) v) L[m] k out).1 D' Hc/\Hc[H.length]? = some (.c0 (cNd (Cr (Bu L (AG L) v) L[m] k out).2))/\Ext s.b s.ar H Hc/\VD L (Cr (Bu L (AG L) v) L[m] k out).1 D'/\lkD D' (m+1)=none/\∀j,m<j->lkD D' j=lkD D j)
     (by decide) (λk vs Hc hk hI=>?_) (vs:=[.i6 ((m+1:Nat):Int),.ptr s.pd 0 0,.ptr s.pv 0 0,.ptr s.pa 0 0,.ptr H.length 0 0,.agg (J0 L[m]),.i6 0]) (H:=H++[Blk.c0 (cNd L[m])]) ⟨D,rfl,hQ1,by simp[Cr],hE1,hD,aZ,λ_ _=>rfl⟩
    obtain⟨vs',Hc,⟨D',rfl,hQc,hbox,hEc,hDc,oQ,mK⟩,rec,aB⟩:=loop;obtain⟨H',D2,f1,f2⟩:=fin Hc D' oQ hQc hbox hEc hDc mK;refine⟨H',D2,aB.trans ?_,f2⟩;unfold UcR;simp only[GMw,Ak,show ¬(((4:Nat):Int)<4) from by decide];exact f1;obtain⟨D1,rfl,hQc,hbox,hEc,hDc,oQ,mK⟩:=hI;have hk':(k:Int)<4:=(by omega);obtain⟨q1,q2,q3⟩:=l3 k hk;obtain⟨c,hc⟩:∃c:Nat,L[m].kid k=(c:Int):=⟨(L[m].kid k).toNat,by omega⟩;have jV:c<=m:=(by by_cases h0:0<L[m].kid k;have:=(q3 pE h0).1;omega;omega);have hcv:c=0\/(Bm L (c:Int)).lv.toNat=v:=(by by_cases h0:c=0;exact .inl h0;right;obtain⟨g,rfl⟩:∃g,c=g+1:=⟨c-1,by omega⟩;have lO:g<L.length:=(by omega);have:=(q3 pE (by omega)).2 L[g] (by rw[show(L[m].kid k-1).toNat=g by omega];exact VG lO);rw[BK lO];omega);obtain⟨H1,D',r1,r2,r3,r4,r5⟩:=ih c d (Cr (Bu L (AG L) v) L[m] k out).1 D1 Hc (by omega) hcv (by omega) hQc hDc;have kZ:=r3.cel _ _ hHar hbox;have hst:=Fj (c:=((Bu L (AG L) v c (Cr (Bu L (AG L) v) L[m] k out).1).2:Int)) kZ hk;have hstep:Cr (Bu L (AG L) v) L[m] (k+1) out=((Bu L (AG L) v c (Cr (Bu L (AG L) v) L[m] k out).1).1,(Cr (Bu L (AG L) v) L[m] k out).2.setKid k ((Bu L (AG L) v c (Cr (Bu L (AG L) v) L[m] k out).1).2:Int)):=(by simp only[Cr,hc,zXl]);rw[hstep];refine⟨_,H1.set H.length (.c0 (cNd ((Cr (Bu L (AG L) v) L[m] k out).2.setKid k ((Bu L (AG L) v c (Cr (Bu L (AG L) v) L[m] k out).1).2:Int)))),⟨D',rfl,r2.put kZ,?_,⟨by have:=hEc.len;have:=r3.len;rw[zXp];omega,λi cs hi hc=>?_,λi hi=>?_⟩,r4,?_,λj hj=>?_⟩,λrec=>?_⟩;rw[VX (VJ.1 kZ).1];have:=(VJ.1 hc).1;rw[VH (by omega)];exact r3.cel i cs hi (hEc.cel i cs hi hc);rw[VH (by omega),r3.old i hi];exact hEc.old i hi;rw[r5 (m+1) (by omega)];exact oQ;rw[r5 j (by omega)];exact mK j hj;have dG:DP (Ii (Ufr d)) (.fn 161 [.ptr s.pd 0 0,.ptr s.pl 0 0,.ptr s.pv 0 0,.ptr s.pa 0 0]) [.i6 (c:Int)] Hc=Ufr d (.i6 (c:Int)) (.ptr s.pd 0 0) (.ptr s.pl 0 0) (.ptr s.pv 0 0) (.ptr s.pa 0 0) Hc:=rfl;unfold UcR;simp only[GMw,HPw,Ak,hk',VcX _ hk,hc,Bt hQc.self,dG,r1,HY hk,hst,Ar (show k<9223372036854775807 by omega)]
   simp only[aV,GMw];rw[zYb aV]at fin;exact fin _ D aZ hQ1 (by simp[Cr]) hE1 hD (λ_ _=>rfl)
def Vor (L:List Nd)(tk:Tok)(n:Int)(H:Aa)(hL:L.length<1000000000000):Ubx (.sl (enL cNd L) tk) (.i6 n) H =
  some (.ret (if VjF L n then .tup [En (Q2 L n.toNat),.i6 0]else .tup [En [],.i6 1]),H):=by
 unfold Ubx;have hbx:Bj true 1 (.sl (enL cNd L) tk) H=some (.ptr H.length 0 0,H++[.c0 [.sl (enL cNd L) tk]]):=by unfold Bj;simp only[QC,alloc_eq (cs:=[.sl (enL cNd L) tk]) rfl];rfl
 have vD:Ab.agg [.sl [] .no]=En []:=rfl;simp only[hbx,GMw,HPw,Nat.reduceLT,VgQ L tk _ (show L.length<1152921504606846976 by omega)];unfold VjF;have eB:Az (some [(.sl [] .ti)]) []=some (.agg [.sl [] .ti]):=rfl;cases hl:AY L with
 |false=>simp only[GMw,HPw,Nat.reduceAdd,eB,vD,zYe]
 |true=>
  by_cases dQ:n<0;have:¬0<=n:=(by omega);simp only[GMw,HPw,Nat.reduceAdd,eB,vD,dQ,this,zYe]
  ·have dT:0<=n:=(by omega);by_cases eR:n>L.length;have:¬n<=L.length:=(by omega);simp only[GMw,HPw,Nat.reduceAdd,eB,vD,dQ,dT,eR,this,Ax,zYe]
   ·obtain⟨n,rfl⟩:=WI dT;have hle:n<=L.length:=(by omega);have jF:(n:Int)<=(L.length:Int):=(by omega);have vQ:¬(n:Int)>(L.length:Int):=eR;obtain⟨s1,s2,s3⟩:=UE hl hle;unfold Q2;simp only[GMw,HPw,Nat.reduceLT,dQ,dT,vQ,jF,Ax,VdK L tk n _ (show L.length<3518437200000 by omega) hl hle,zYd,zXl];generalize Ex L n=S at s1 s2 s3;obtain⟨M,r⟩:=S;dsimp only at s1 s2 s3⊢;have oL:(Bm M (r:Int)).lv.toNat<AI:=(by rw[Cw];by_cases hr:0<r;have:=QO s1 hr s2;omega;obtain rfl:r=0:=(by omega);unfold Bm;rw[VO];by_cases hM:0<M.length;rw[show(((0:Nat):Int)-1).toNat=0 from rfl,VG hM];have:=(AZ s1 hM).2.1;simp only[Option.getD_some];omega;rw[show(((0:Nat):Int)-1).toNat=0 from rfl,zYa (by omega)];simp);have dE:∀K:Aa,EM K=some (.mp K.length,K++[.map []]):=λ_=>rfl;have gT:∀x,Az (some [.sl [] .ti,.nilmap]) [(1,1,.mp x)]=some (.agg [.sl [] .ti,.mp x]):=λ_=>rfl;have aM:Ev false 1 (.mp (H.length+5)) (.i6 0) (.i6 0) (H++[.c0 [.sl (enL cNd M) .no],.c0 [.sl [] .ti],.map [],.c0 [.sl [] .ti,.mp (H.length+2)],.c0 [.ptr (H.length+3) 0 0],.map []]) =
      some (H++[.c0 [.sl (enL cNd M) .no],.c0 [.sl [] .ti],.map [],.c0 [.sl [] .ti,.mp (H.length+2)],.c0 [.ptr (H.length+3) 0 0],.map (dnM [(0,0)])]):=by
     have:=Veb (H:=H++[.c0 [.sl (enL cNd M) .no],.c0 [.sl [] .ti],.map [],.c0 [.sl [] .ti,.mp (H.length+2)],.c0 [.ptr (H.length+3) 0 0],.map []]) (id:=H.length+5) (D:=[]) (by simp[dnM]) (n:=0) 0 rfl;rw[show((0:Nat):Int)=0 from rfl]at this;rw[this,Wy _ _ (by omega),show H.length+5-H.length=5 by omega]
     rfl
    have hf:∀l:List Ab,Ae 1 (.ptr 0 0 0) (.fn 161 l) [Blk.c0 [.nilfn]]=some [.c0 [.fn 161 l]]:=λl=>PO rfl (by simp);obtain⟨F,hF⟩:∃F:Aa,F=H++[.c0 [.sl (enL cNd M) .no],.c0 [.sl [] .ti],.map [],.c0 [.sl [] .ti,.mp (H.length+2)],.c0 [.ptr (H.length+3) 0 0],.map (dnM [(0,0)]),.c0 [.mp (H.length+5)],.c0 [.fn 161 [.ptr (H.length+6) 0 0,.ptr H.length 0 0,.ptr (H.length+7) 0 0,.ptr (H.length+4) 0 0]]]:=⟨_,rfl⟩;have hQ:VQ ⟨H.length,H.length+6,H.length,H.length+7,H.length+4,H.length+3,H.length+2,H.length+5⟩ M .no [] [(0,0)] F:=(by refine⟨⟨by dsimp only;omega,by dsimp only;omega,by dsimp only;omega,by dsimp only;omega⟩,⟨by dsimp only;omega,by dsimp only;omega,by dsimp only;omega,by dsimp only;omega⟩,?_,?_,?_,?_,⟨.sl [] .ti,?_,.inl ⟨rfl,rfl⟩,?_⟩,?_⟩ <;> (rw[hF];simp[knF]));have hD:VD M [] [(0,0)]:=⟨by simp,λp hp=>by rw[Wj.1 hp];exact Wi _,λp hp=>by rw[Wj.1 hp];exact Kd (.inl rfl),by simp,rfl⟩;obtain⟨H',D',v1,v2,v3,v4,v5⟩:=VgO (s:=⟨H.length,H.length+6,H.length,H.length+7,H.length+4,H.length+3,H.length+2,H.length+5⟩) (L:=M) (tk:=.no) (by omega) s1 (Bm M (r:Int)).lv.toNat r AI [] [(0,0)] F s2 (.inr rfl) oL hQ hD;dsimp only at v1 v3;have dG:DP JE (.fn 161 [.ptr (H.length+6) 0 0,.ptr H.length 0 0,.ptr (H.length+7) 0 0,.ptr (H.length+4) 0 0]) [.i6 (r:Int)] F=Ufr AI (.i6 (r:Int)) (.ptr (H.length+6) 0 0) (.ptr H.length 0 0) (.ptr (H.length+7) 0 0) (.ptr (H.length+4) 0 0) F:=rfl;rw[v1]at dG;rw[hF]at dG;have hres:H'[H.length+1]? = some (.c0 [.sl [] .ti]):=v3.cel _ _ (by omega) (by rw[hF];simp);have hold:∀i,i<H.length->H'[i]? = H[i]? := λi hi=>(by rw[v3.old i hi,hF,VN hi]);obtain⟨v,hA⟩:=v2.nodes;have tT:=Bt (o:=0) (sz:=1) v2.arena;have xH:=Bt (o:=0) (sz:=1) hA.cell;dsimp only at tT xH;obtain⟨tk3,rfl⟩:=hA.row.sl;generalize (Bu M (AG M) (Bm M (r:Int)).lv.toNat r []).1=Q at *;have hb:Az (some [(.sl [] .ti)]) [(0,1,.sl (enL cNd Q) tk3)]=some (.agg [.sl (enL cNd Q) tk3]):=(by simp[Az,Gy,D3]);have hst:=Dz (sz:=1) (ws:=[.sl (enL cNd Q) tk3]) hres rfl rfl rfl;have aG:=(VJ.1 hres).1;have hld:=CV (sz:=1) (H:=H'.set (H.length+1) (.c0 [.sl (enL cNd Q) tk3])) (p:=H.length+1) (by rw[VX aG]) rfl;have bD:(H'.set (H.length+1) (.c0 [.sl (enL cNd Q) tk3])).take H.length=H:=Cu λi hi=>(by rw[VH (by omega)];exact hold i hi);simp only[GMw,HPw,Nat.reduceAdd,Nat.reduceLT,dE,gT,aM,dG,tT,xH,hb,hst,hld,Fl bD]
    rfl
structure Q4 (b p:Nat)(S:Nat->List Sp)(W:Nat->Ab)(T:Nat->Nat)(H:Aa):Prop where
 blk:H[p]? = some (.c0 [W 0,W 1,W 2,W 3])
 row:∀k,k<4->(S k=[]/\W k=.sl [] .ti)\/(S k≠[]/\b<=T k/\W k=.sl (enL cSp (S k)) (.own (T k))/\H[T k]? = some (.tok (S k).length Ch 3))
 ne:∀i j,i<4->j<4->i≠j->S i≠[]->S j≠[]->T i≠T j
def up {α:Type}(f:Nat->α)(k:Nat)(a:α):Nat->α:=λj=>if j=k then a else f j
theorem K9 {α:Type}(f:Nat->α)(k:Nat)(a:α):up f k a k=a:=zYc rfl
theorem Fh {α:Type}(f:Nat->α){j k:Nat}(a:α)(h:j≠k):up f k a j=f j:=zYb h
def VbC (W:Nat->Ab){k:Nat}(hk:k<4)(w:Ab):[W 0,W 1,W 2,W 3].set k w=[up W k w 0,up W k w 1,up W k w 2,up W k w 3]:=by
 match k,hk with
 |0,_=>rfl
 |1,_=>rfl
 |2,_=>rfl
 |3,_=>rfl
def Vgi (W:Nat->Ab){k:Nat}(hk:k<4):[W 0,W 1,W 2,W 3][k]? = some (W k):=by
 match k,hk with
 |0,_=>rfl
 |1,_=>rfl
 |2,_=>rfl
 |3,_=>rfl
theorem Q4.push {b p:Nat}{S:Nat->List Sp}{W:Nat->Ab}{T:Nat->Nat}{H:Aa}(h:Q4 b p S W T H)(G:Aa):Q4 b p S W T (H++G):=
 ⟨A1 h.blk,λk hk=>by
  rcases h.row k hk with q | ⟨q0,q1,q2,q3⟩;exact .inl q
  ·exact .inr ⟨q0,q1,q2,A1 q3⟩,h.ne⟩
theorem Q4.add {b p:Nat}{S:Nat->List Sp}{W:Nat->Ab}{T:Nat->Nat}{H:Aa}(h:Q4 b p S W T H)(hb:b<=p){k:Nat}(hk:k<4)(s:Sp)(hl:(S k).length<1000000000):∃w' H1 T',Ad false 1 (.ptr p 0 k) H=some (W k)/\AS Ch 3 56 (W k) (.sl (enL cSp [s]) .ti) H=some (w',H1)/\Ae 1 (.ptr p 0 k) w' H1=some (H1.set p (.c0 [up W k w' 0,up W k w' 1,up W k w' 2,up W k w' 3])) /\
   Q4 b p (up S k (S k++[s])) (up W k w') T' (H1.set p (.c0 [up W k w' 0,up W k w' 1,up W k w' 2,up W k w' 3]))/\H.length<=H1.length/\∀i,i<b->H1[i]? = H[i]? := by
 have bO:p<H.length:=(VJ.1 h.blk).1;have hld:Ad false 1 (.ptr p 0 k) H=some (W k):=by rw[Bt h.blk];exact Vgi W hk
 have nE:k<[W 0,W 1,W 2,W 3].length:=hk;rcases h.row k hk with ⟨q1,q2⟩ | ⟨q0,q1,q2,q3⟩
 ·have ha:=De (f:=cSp) (sz:=3) (l:=[]) (m:=[s]) (ty:=Ch) (bytes:=56) (tk:=.ti) (H:=H) (by simp) (by simp) (by simp);simp only[List.nil_append,zXk,zXi,VK,HI]at ha;have lA:(H++[Blk.tok 1 Ch 3])[p]? = some (.c0 [W 0,W 1,W 2,W 3]):=A1 h.blk;have hst:=Dm (v:=.sl (enL cSp [s]) (.own H.length)) lA rfl nE;rw[VbC W hk]at hst;refine⟨.sl (enL cSp [s]) (.own H.length),H++[Blk.tok 1 Ch 3],up T k H.length,hld,by rw[q2];exact ha,hst,⟨?_,λj hj=>?_,λi j hi hj hij mB nY=>?_⟩,by simp,λi hi=>VN (by omega)⟩;rw[VX (by simp;omega)];by_cases e:j=k;subst e;right;rw[K9,K9,K9,q1,VH (by omega)];exact⟨by simp,by omega,rfl,by simp⟩;rw[Fh _ _ e,Fh _ _ e,Fh _ _ e];rcases h.row j hj with r | ⟨r0,r1,r2,r3⟩;exact .inl r;have:p≠T j:=λe=>(by rw[<-e,h.blk]at r3;cases r3);exact .inr ⟨r0,r1,r2,by rw[VH this];exact A1 r3⟩;have lt:∀i,i<4->S i≠[]->T i<H.length:=λi hi hs=>(by rcases h.row i hi with r | ⟨r0,r1,r2,r3⟩;exact zYf r.1 hs;exact(VJ.1 r3).1);by_cases e1:i=k;have e2:j≠k:=λe=>hij (by omega);rw[e1,K9,Fh _ _ e2];rw[Fh _ _ e2]at nY;have:=lt j hj nY;omega;rw[Fh _ _ e1]at mB⊢;by_cases e2:j=k;rw[e2,K9];have:=lt i hi mB;omega;rw[Fh _ _ e2]at nY⊢;exact h.ne i j hi hj hij mB nY
 ·have ha:=F5 (f:=cSp) (sz:=3) (l:=S k) (m:=[s]) (ty:=Ch) (bytes:=56) (tk:=.ti) (H:=H) (t:=T k) (by simp) q3 (by simp;omega) (by simp;omega);simp only[zXi]at ha;have jC:T k<H.length:=(VJ.1 q3).1;have tS:T k≠p:=λe=>by rw[e,h.blk]at q3;cases q3
  have lA:(H.set (T k) (Blk.tok ((S k).length+1) Ch 3))[p]? = some (.c0 [W 0,W 1,W 2,W 3]):=by rw[VH tS];exact h.blk
  have hst:=Dm (v:=.sl (enL cSp (S k++[s])) (.own (T k))) lA rfl nE;rw[VbC W hk]at hst;refine⟨.sl (enL cSp (S k++[s])) (.own (T k)),H.set (T k) (Blk.tok ((S k).length+1) Ch 3),T,hld,by rw[q2];exact ha,hst,⟨?_,λj hj=>?_,λi j hi hj hij mB nY=>?_⟩,by simp,λi hi=>VH (by omega)⟩;rw[VX (by simp;omega)];by_cases e:j=k;subst e;right;rw[K9,K9,VH (Ne.symm tS),VX jC];exact⟨by simp,q1,rfl,by simp⟩;rw[Fh _ _ e,Fh _ _ e];rcases h.row j hj with r | ⟨r0,r1,r2,r3⟩;exact .inl r;have:p≠T j:=λe=>(by rw[<-e,h.blk]at r3;cases r3);have h2:T k≠T j:=h.ne k j hk hj (Ne.symm e) q0 r0;exact .inr ⟨r0,r1,r2,by rw[VH this,VH h2];exact r3⟩;have b1:S i≠[]:=(by by_cases e1:i=k;rw[e1];exact q0;rw[Fh _ _ e1]at mB;exact mB);have b2:S j≠[]:=(by by_cases e1:j=k;rw[e1];exact q0;rw[Fh _ _ e1]at nY;exact nY);exact h.ne i j hi hj hij b1 b2
def Vpb (p:Sp):Prop:=(A8 p.a).length<=1000000/\(A8 p.b).length<=1000000
def No (s:Sp):AK 3 [.agg (cSp s)]=some (.sl (enL cSp [s]) .ti):=by simp[AK,Df,C0,cSp,Ab.isScal,KP,Cq,enL]
def Vj7 (v:Nat)(p:Sp):qOf v p<4:=by unfold qOf;split<;>split<;>omega
def VhT {v k:Nat}{S:List Sp}{s:Sp}:qSp v k (S++[s])=if k=qOf v s then qSp v k S++[s]else qSp v k S:=by unfold qSp;rw[W9];by_cases h:k=qOf v s;rw[zYc h];simp[h];rw[zYb h];have:¬qOf v s=k:=λe=>h e.symm;simp[this]
def Vi9 {self:Ab->Ab->Ab->Aa->Out}{pb v:Nat}{S:List Sp}{tk:Tok}{H B Hc:Aa}{W:Nat->Ab}{T:Nat->Nat}{i:Nat}(hi:i<S.length)(hok:∀p∈S,Vpb p)(hS:S.length<1000000000)(hv:v<100000)
  (hBb:H.length=B.length)(hq:Q4 B.length B.length (λk=>qSp v k (S.take i)) W T Hc)(hlen:B.length<=Hc.length)(hold:∀i,i<B.length->Hc[i]? = B[i]?):∃W' T' Hd,(∀rec:LK,Ubr H self rec (.ptr pb 0 0) (.i6 ((v+1:Nat):Int)) (.ptr B.length 0 0) (.sl (enL cSp S) tk) (.i6 (S.length:Int)) (.i6 (i:Int)) Hc=rec [.ptr pb 0 0,.i6 ((v+1:Nat):Int),.ptr B.length 0 0,.sl (enL cSp S) tk,.i6 (S.length:Int),.i6 ((i+1:Nat):Int)] Hd) /\
   Q4 B.length B.length (λk=>qSp v k (S.take (i+1))) W' T' Hd/\B.length<=Hd.length/\(∀i,i<B.length->Hd[i]? = B[i]?):=by
 have d1:decide ((i:Int)<(S.length:Int))=true:=zXc (by omega);have mB:=hok _ (VY hi);have hlt:=Vj7 v S[i];have nA:Q4 B.length B.length (λk=>qSp v k (S.take i)) W T (Hc++[.c0 (cSp S[i])]):=hq.push _;have rT:(qSp v (qOf v S[i]) (S.take i)).length<1000000000:=WE (Xh _ _) (by rw[Wc];omega);obtain⟨w',H1,T',a1,a2,a3,a4,a5,a6⟩:=nA.add (VM _) hlt S[i] rT;have hw:=Ar (show i<9223372036854775807 by omega);have w1:I_.wrap (((v+1:Nat):Int)-1)=(v:Int):=by rw[Am]<;>omega
 have bx:=λK=>Vnx S[i].a v .no K mB.1 (by omega);have bY:=λK=>Vnx S[i].b v .no K mB.2 (by omega);have e1:(Hc++[Blk.c0 [Ab.sl [] .ti,.sl [] .ti,.int .u8 0]])[Hc.length]? = some (.c0 [.sl [] .ti,.sl [] .ti,.int .u8 0]):=Ap;have e2:(Hc++[Blk.c0 (cSp S[i])])[Hc.length]? = some (.c0 (cSp S[i])):=Ap;have hst:Ae 3 (.ptr Hc.length 0 0) (.agg (cSp S[i])) (Hc++[Blk.c0 [Ab.sl [] .ti,.sl [] .ti,.int .u8 0]])=some (Hc++[Blk.c0 (cSp S[i])]):=by rw[Dz (sz:=3) (ws:=cSp S[i]) e1 rfl rfl rfl,Bg]
 have ldA:Ad true 3 (.cptr (cSp S[i]) 0) Hc=some (.agg (cSp S[i])):=rfl;have ld0:Ad false 1 (.ptr Hc.length 0 0) (Hc++[Blk.c0 (cSp S[i])])=some (.sl (enL cU (A8 S[i].a)) .no):=by rw[Bt e2];rfl
 have ld1:Ad false 1 (.ptr Hc.length 0 1) (Hc++[Blk.c0 (cSp S[i])])=some (.sl (enL cU (A8 S[i].b)) .no):=by rw[Bt e2];rfl
 have ldG:Ad true 3 (.ptr Hc.length 0 0) (Hc++[Blk.c0 (cSp S[i])])=some (.agg (cSp S[i])):=CV e2 rfl;have hal:Av (some [(.sl [] .ti),(.sl [] .ti),(.int .u8 0)]) Hc=some (.ptr Hc.length 0 0,Hc++[.c0 [Ab.sl [] .ti,.sl [] .ti,.int .u8 0]]):=alloc_eq rfl;have dC:=HY (K:=.i64) (id:=B.length) (g:=0) (o:=0) hlt;rw[VK]at dC;have w2:I_.wrap (0+1)=1:=rfl;have w3:I_.wrap (0+2)=2:=rfl;have w4:I_.wrap (1+2)=3:=rfl;refine⟨up W (qOf v S[i]) w',T',H1.set B.length (.c0 [up W (qOf v S[i]) w' 0,up W (qOf v S[i]) w' 1,up W (qOf v S[i]) w' 2,up W (qOf v S[i]) w' 3]),λrec=>?_,?_,?_,?_⟩
 ·unfold Ubr UeV UeU;simp only[GMw,d1,A4 hi,ldA,hal,hst,AL,Aj,VK,ld0,w1,bx];have fin:∀k:Int,k=((qOf v S[i]:Nat):Int)->(BM 4 1 (.ptr B.length 0 0) (.i6 k))=some (.ptr B.length 0 (qOf v S[i])):=λk hk=>by rw[hk];exact dC
  cases hA:S[i].a.testBit v with
  |true=>cases hB:S[i].b.testBit v with|true=>have f:=fin 3 (by unfold qOf;rw[hA,hB];rfl);simp only[GMw,w2,ld1,bY,hB,w4,f,a1,ldG,No,a2,a3,hw,Ak]|false=>have f:=fin 1 (by unfold qOf;rw[hA,hB];rfl);simp only[GMw,w2,ld1,bY,hB,f,a1,ldG,No,a2,a3,hw,Ak]
  |false=>cases hB:S[i].b.testBit v with|true=>have f:=fin 2 (by unfold qOf;rw[hA,hB];rfl);simp only[GMw,w3,ld1,bY,hB,f,a1,ldG,No,a2,a3,hw,Ak]|false=>have f:=fin 0 (by unfold qOf;rw[hA,hB];rfl);simp only[GMw,ld1,bY,hB,f,a1,ldG,No,a2,a3,hw,Ak]
 ·have hs:(λk=>qSp v k (S.take (i+1)))=up (λk=>qSp v k (S.take i)) (qOf v S[i]) (qSp v (qOf v S[i]) (S.take i)++[S[i]]):=by
   funext k
   rw[VU hi,VhT];unfold up;by_cases h:k=qOf v S[i];rw[zYc h,zYc h,h];rw[zYb h,zYb h]
  rw[hs];exact a4
 rw[zXp];simp at a5;omega;intro j hj;rw[VH (by omega),a6 j hj,VN (by omega)];exact hold j hj
end Go.Gm
