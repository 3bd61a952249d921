/- Texts of this proof, joined. -/
import Derived.Test.YtagddbecnkbcdaaGreatJ4
import Derived.Test.YtagddbecnkbcdaaGreatJ5
import Derived.Test.YtagddbecnkbcdaaGreatJ6
import Derived.Lib.ItoaNum
import Derived.Lib.Repeat
import Derived.Lib.Join
import Derived.Lib.TrimByte
import Derived.Laws.RangeAny
import Derived.Laws.RangeString
set_option linter.unusedVariables false
set_option linter.unusedSimpArgs false
namespace Go.Gm

def Q1 (b:List UInt8) (f:Nat) (rest:List UInt8):Nat→Nat→Option Ab×Nat
 | 0,a=>(none,a)
 | n+1,a=>
  if BI b a JU then
   if f<a∧b[f]? = some 48 then (some (Te b a []),a)
   else if a-f=400 then (some (VR 4 []),a)
   else Q1 b f rest n (a+1)
  else if a=f then (some (Te b a (49::rest)),a)else (none,a)
theorem numR_le (b:List UInt8) (f:Nat) (rest:List UInt8):∀n a,a≤b.length→a≤(Q1 b f rest n a).2∧(Q1 b f rest n a).2≤b.length
 | 0,a,h=>⟨Yz _,h⟩
 | n+1,a,h=>by
  unfold Q1
  by_cases hs:BI b a JU=true
  ·rw [if_pos hs]
   by_cases h1:f<a∧b[f]? = some 48
   ·rw [if_pos h1];exact ⟨Yz _,h⟩
   ·rw [if_neg h1]
    by_cases h2:a-f=400
    ·rw [if_pos h2];exact ⟨Yz _,h⟩
    ·rw [if_neg h2]
     have:=numR_le b f rest n (a+1) (F9 hs)
     exact ⟨by omega,this.2⟩
  ·rw [if_neg hs]
   by_cases h1:a=f
   ·rw [if_pos h1];exact ⟨Yz _,h⟩
   ·rw [if_neg h1];exact ⟨Yz _,h⟩
theorem numR_on {b:List UInt8} {f a:Nat} {rest:List UInt8} {n:Nat} (hs:BI b a JU=true) (h1:¬(f<a∧b[f]? = some 48)) (h2:¬a-f=400):Q1 b f rest (n+1) a=Q1 b f rest n (a+1):=by
 rw [Q1,if_pos hs,if_neg h1,if_neg h2]
noncomputable def numO (H0 K:Aa) (p:Nat) (b:List UInt8) (r:List Ab) (q from_:Ab):Option Ab×Nat→Out
 | (some v,e)=>some (.pan v,C7 K p b r e)
 | (none,e)=>Sh.f4p H0 (.ptr p 0 0) q from_ (C7 K p b r e)
theorem lx_num_loop {H0 K:Aa} {p f:Nat} {b:List UInt8} {r:List Ab} (h:Lx K p b f r) (hf:f≤b.length) (hb:b.length<1152921504606846976) (rest:List UInt8) (hr:rest.length≤1000000) (q from_:Ab) :
  Ao (fun rec2 vs H=>Sh.f5i H0 rec2 (ag vs 0) (ag vs 1) (ag vs 2) (ag vs 3) (ag vs 4) H) AK [.ptr p 0 0,.str rest,q,from_,.int .i64 (f:Int)] K=numO H0 K p b r q from_ (Q1 b f rest 402 f):=by
 have key:=Bk (G:=fun rec2 vs H=>Sh.f5i H0 rec2 (ag vs 0) (ag vs 1) (ag vs 2) (ag vs 3) (ag vs 4) H) (σ:=Nat) (fun i=>f≤i∧i≤b.length∧i-f≤400) (fun _=>[.ptr p 0 0,.str rest,q,from_,.int .i64 (f:Int)]) (fun i=>C7 K p b r i) (fun i=>b.length-i)
  (fun i=>numO H0 K p b r q from_ (Q1 b f rest (402-(i-f)) i)) (fun i rec hi hrec=>?_) f ⟨Yz _,hf,by omega⟩ (by omega)
 ·rw [Fi h,YV,Nat.sub_zero]at key;exact key
 ·obtain ⟨h1,h2,h3⟩:=hi
  have hx:=Hx (a':=i) h
  have e:402-(i-f)=(401-(i-f))+1:=by omega
  have hcat:Ae .none .add (.str [49]) (.str rest)=some (.str (49::rest)):=FO (by simp only [List.length_cons,List.length_nil];omega)
  unfold Sh.f5i
  have hsee:=OT hx h2 JU
  unfold JU at hsee
  rw [e]
  have hseesd:BI b i [48,49,50,51,52,53,54,55,56,57]=BI b i JU:=rfl
  simp only [GMb,GMc,hsee,hseesd]
  cases hs:BI b i JU with
  | true=>
   have hlt:=F9 hs
   have hfl:f<b.length:=by omega
   have hw:IntKind.i64.wrap ((i:Int)-(f:Int))=((i-f:Nat):Int):=by rw [Am] <;> omega
   have tail:¬(f<i∧b[f]? = some 48)→((Ae .none .sub (.int .i64 (i:Int)) (.int .i64 (f:Int))).bind fun x56=>
     (Ae .none .eql x56 (.int .i64 400)).bind fun x57=>
     Aj x57 (bK H0 (Sh.f2q (.ptr p 0 0) (C7 K p b r i)) fun x58 H59=>Sh.f5h H0 rec (.ptr p 0 0) (.str rest) q from_ (.int .i64 (f:Int)) H59)
      (Sh.f5h H0 rec (.ptr p 0 0) (.str rest) q from_ (.int .i64 (f:Int)) (C7 K p b r i)))=numO H0 K p b r q from_ (Q1 b f rest (401-(i-f)+1) i):=by
    intro hn
    simp only [GMb,GMc,hw]
    by_cases h4:i-f=400
    ·have h4':((i-f:Nat):Int)=400:=by omega
     rw [Q1,if_pos hs,if_neg hn,if_pos h4]
     simp only [h4',GMb,GMc,lx_limit]
     rfl
    ·have h4':¬((i-f:Nat):Int)=400:=by omega
     rw [numR_on hs hn h4]
     unfold Sh.f5h
     simp only [h4',GMb,GMc,At,Ah,Yy,IW hx,Av (show i<9223372036854775807 by omega),OU h]
     have:=hrec (i+1) ⟨by omega,by omega,by omega⟩ (by omega)
     rw [show 402-(i+1-f)=401-(i-f)by omega]at this
     exact this
   by_cases hfi:f<i
   ·have hfi':(i:Int)>(f:Int):=by omega
    simp only [GMb,GMc,At,Ah,Yy,IW hx,lx_b hx,hfi',B9 hfl,Ai]
    by_cases h0:b[f]=48
    ·rw [Q1,if_pos hs,if_pos ⟨hfi,by rw [Yu hfl,h0]⟩]
     simp only [h0,GMb,GMc,OS hx]
     rfl
    ·have h0':¬((b[f].toNat:Int)=48):=fun hc=>h0 (Qay.1 (by show b[f].toNat=48;omega))
     simp only [h0',GMb,GMc]
     exact tail (fun hc=>h0 (by have:=hc.2;rw [Yu hfl]at this;exact Z9 this))
   ·have hfi':¬(i:Int)>(f:Int):=by omega
    simp only [GMb,GMc,At,Ah,Yy,IW hx,hfi',Ai]
    exact tail (fun hc=>hfi hc.1)
  | false=>
   rw [Q1,if_neg (by rw [hs];exact Bool.false_ne_true)]
   simp only [GMb,GMc,At,Ah,Yy,IW hx,Ai]
   by_cases he:i=f
   ·have he':(i:Int)=(f:Int):=by omega
    rw [if_pos he]
    simp only [he',GMb,GMc,hcat,OS hx]
    rfl
   ·have he':¬(i:Int)=(f:Int):=by omega
    rw [if_neg he]
    simp only [he',GMb,GMc]
    rfl
theorem q01_mul {l:List Nat} {tk:Tok} {m c:Nat} (H:Aa) (hx:Lim l) (hl:l.length≤1099511627775) (hm:m<4294967296) (hc:c<4294967296) :
  Sh.f4c (.sl (enL cU l) tk) (.int .u32 (m:Int)) (.int .u32 (c:Int)) H=some (.ret (.sl (enL cU (A4 (val l*m+c))) .no),H):=by
 unfold Sh.f4c
 have hcc:AD .u64 (.int .u32 (c:Int))=some (.int .u64 (c:Int)):=by rw [Bq,BR (by omega) (by omega)]
 have hcm:AD .u64 (.int .u32 (m:Int))=some (.int .u64 (m:Int)):=by rw [Bq,BR (by omega) (by omega)]
 simp only [GMb,GMc,hcc]
 refine Ca l.length (fun i=>[.sl (enL cU l) tk,.int .u32 (m:Int),Eb cU H (CZ l m c i).1,.int .u64 ((CZ l m c i).2:Int),.int .i64 (i:Int)])
  (fun i=>DR cU B4 1 H (CZ l m c i).1) _ (by omega) (fun rec i hi=>?_) (fun rec=>?_)
 ·obtain ⟨h1,h2,h3,h4⟩:=Rc hx hm hc i (by omega)
  have hi':(i:Int)<(l.length:Int):=by omega
  have hxi:=hx _ (Y8 hi)
  have hg:l[i]?.getD 0=l[i]:=by rw [Yu hi];rfl
  have ht:=V6 hxi hm h2
  obtain ⟨t,htt⟩:∃t,t=(CZ l m c i).2+l[i]*m:=⟨_,rfl⟩
  have hP:l[i]*m≤4294967295*4294967295:=Qa8 (by omega) (by omega)
  have w1:AD .u64 (.int .u32 (l[i]:Int))=some (.int .u64 (l[i]:Int)):=by rw [Bq,BR (by omega) (by omega)]
  have w2:IntKind.u64.wrap ((l[i]:Int)*(m:Int))=((l[i]*m:Nat):Int):=by rw [←Int.natCast_mul,BR (by omega) (by omega)]
  have w3:IntKind.u64.wrap (((l[i]*m:Nat):Int)+((CZ l m c i).2:Int))=(t:Int):=by rw [BR] <;> omega
  have w7:(t:Int).tmod 4294967296=((t%4294967296:Nat):Int):=rfl
  have w4:AD .u32 (.int .u64 ((t%4294967296:Nat):Int))=some (.int .u32 ((t%4294967296:Nat):Int)):=by rw [Bq,CL (by omega) (by omega)]
  have w5:IntKind.u64.wrap ((t:Int).tdiv 4294967296)=((t / 4294967296:Nat):Int):=by rw [show (t:Int).tdiv 4294967296=((t / 4294967296:Nat):Int) from rfl,BR (by omega) (by omega)]
  have w6:IntKind.i64.wrap ((i:Int)+1)=((i+1:Nat):Int):=by rw [Am] <;> omega
  have hap:=DD (f:=cU) (ty:=B4) (sz:=1) (tk:=.tight) (bytes:=4) (B:=H) (l:=(CZ l m c i).1) (m:=[t%4294967296]) (by simp) (by simp;omega) (by simp;omega)
  unfold Sh.f7s
  simp only [GMb,GMc,Ai,Aw,hi',Ay hi,A9,List.getElem?_cons_zero,w1,hcm,w2,w3,HD (show (4294967296:Int)≠0 by decide),RH (show (4294967296:Int)≠0 by decide),w7,w4,build_U,hap,w5,w6]
  simp only [CZ,hg,←htt]
 ·obtain ⟨h1,h2,h3,h4⟩:=Rc hx hm hc l.length (Yz _)
  have w4:AD .u32 (.int .u64 ((CZ l m c l.length).2:Int))=some (.int .u32 ((CZ l m c l.length).2:Int)):=by rw [Bq,CL (by omega) (by omega)]
  have hap:=DD (f:=cU) (ty:=B4) (sz:=1) (tk:=.tight) (bytes:=4) (B:=H) (l:=(CZ l m c l.length).1) (m:=[(CZ l m c l.length).2]) (by simp) (by simp;omega) (by simp;omega)
  obtain ⟨o,ho⟩:∃o,o=(CZ l m c l.length).1++[(CZ l m c l.length).2]:=⟨_,rfl⟩
  have hox:Lim o:=by
   intro x hxx
   rw [ho]at hxx
   rcases YN.1 hxx with h | h
   ·exact h3 x h
   ·rw [YI.1 h];exact h2
  have hov:val o=val l*m+c:=by
   rw [ho,Ci,h1,I4]
   rw [YY]at h4
   exact h4
  have hol:o.length≤1099511627776:=by rw [ho];simp;omega
  rw [←ho]at hap
  obtain ⟨G,hG⟩:=G9 (f:=cU) (ty:=B4) (sz:=1) H o
  have hn:=Ve o (outK H o) (H++G) hol hox
  rw [hov]at hn
  unfold Sh.f7s
  simp only [GMb,GMc,Ai,Zl,Aw,w4,build_U,hap]
  simp only [FQ,hG,hn,GMb,GMc,Co,Ft,Option.map_some]
section
variable {H:Aa} {id g i:Nat} {L:List (List UInt8)}
end
theorem pow10_up {a b:Nat} (h:a≤b):10^a≤10^b:=YT (by omega) h
def GV (c:UInt8):Bool:=decide (48≤c.toNat)&&decide (c.toNat≤57)
def FJ (s:List UInt8):Nat:=(s.takeWhile GV).length
theorem Ux (s:List UInt8):FJ s≤s.length:=(List.takeWhile_sublist GV).length_le
theorem SK (c:UInt8) (s:List UInt8):FJ (c::s)=if GV c then FJ s+1 else 0:=by
 unfold FJ
 rw [Qa1]
 split <;> simp
theorem byteAt (s:List UInt8) (pos:Nat) (h:pos<s.length):((⟨s.toArray⟩:ByteArray)[pos]'(by show pos<s.toArray.size;simpa using h))=s[pos]:=by
 show s.toArray[pos]=s[pos]
 simp
theorem idx_from (s:List UInt8):∀(f pos:Nat),pos≤s.length→s.length-pos≤f→Lib.idxFuncFrom LJ true ⟨s.toArray⟩ f pos=if pos+FJ (s.drop pos)<s.length then ((pos+FJ (s.drop pos):Nat):Int)else -1
 | 0,pos,h1,h2=>by
  have:pos=s.length:=by omega
  subst this
  rw [Lib.idxFuncFrom,if_neg (by omega)]
 | f+1,pos,h1,h2=>by
  have hsz:(⟨s.toArray⟩:ByteArray).size=s.length:=by simp [ByteArray.size]
  unfold Lib.idxFuncFrom
  rw [hsz]
  by_cases hp:pos<s.length
  ·rw [if_pos hp,YS hp,SK]
   have hb:=byteAt s pos hp
   by_cases ha:s[pos].toNat<128
   ·rw [decode_ascii ⟨s.toArray⟩ pos (by omega) (by rw [hb];exact ha),hb]
    simp only []
    by_cases hd:GV s[pos]=true
    ·have hnd:LJ s[pos].toNat=false:=by
      simp only [GV,Y7,decide_eq_true_eq]at hd
      simp only [LJ,Bool.or_eq_false_iff,decide_eq_false_iff_not]
      omega
     rw [hnd,if_neg (by simp),if_pos hd,idx_from s f (pos+1) (by omega) (by omega)]
     rw [show pos+(FJ (s.drop (pos+1))+1)=pos+1+FJ (s.drop (pos+1))by omega]
    ·have hnd:LJ s[pos].toNat=true:=by
      simp only [GV,Y7,decide_eq_true_eq]at hd
      simp only [LJ,Z4,decide_eq_true_eq]
      omega
     rw [hnd,if_pos rfl,if_neg hd,if_pos (by omega)]
     rfl
   ·obtain ⟨k1,k2⟩:=decode_high ⟨s.toArray⟩ pos (by omega) (by rw [hb];omega)
    have hd:¬GV s[pos]=true:=by
     simp only [GV,Y7,decide_eq_true_eq]
     omega
    have hnd:LJ (Utf8.decode ⟨s.toArray⟩ pos).1=true:=by
     simp only [LJ,Z4,decide_eq_true_eq]
     omega
    rw [hnd,if_pos rfl,if_neg hd,if_pos (by omega)]
    rfl
  ·rw [if_neg hp,if_neg (by omega)]
theorem idx_dig (s:List UInt8):Lib.idxFunc LJ true ⟨s.toArray⟩=if FJ s<s.length then (FJ s:Int)else -1:=by
 have hsz:(⟨s.toArray⟩:ByteArray).size=s.length:=by simp [ByteArray.size]
 have:=idx_from s s.length 0 (YL _) (by omega)
 rw [Yy,ZJ]at this
 rw [Lib.idxFunc,hsz,this]
def digA (s:List UInt8) (at':Int):Nat:=if at'<0 then 0 else FJ (s.drop at'.toNat)
theorem q_digits (s:List UInt8) (at':Int) (H:Aa) (hs:s.length<1152921504606846976):Sh.f2t (.str s) (.int .i64 at') H=some (.ret (.int .i64 (digA s at')),H):=by
 unfold Sh.f2t digA
 by_cases h0:at'<0
 ·simp only [GMb,GMc,h0,if_true]
  rfl
 ·obtain ⟨a,rfl⟩:∃a:Nat,at'=(a:Int):=⟨at'.toNat,by omega⟩
  simp only [GMb,GMc,h0,if_false,DH,Int.toNat_natCast]
  by_cases h1:a≤s.length
  ·have h1':¬((a:Int)>(s.length:Int)):=by omega
   have hsl:BF (.str s) (some (.int .i64 (a:Int))) none=some (.str (s.drop a)):=by
    simp [BF,Bt,h1]
   have hi:Sh.f2k (.str (s.drop a)) (.fn 235 []) H=some (.ret (.int .i64 (if FJ (s.drop a)<(s.drop a).length then (FJ (s.drop a):Int)else -1)),H):=by
    unfold Sh.f2k
    simp only [idx_dig]
   have hle:=Ux (s.drop a)
   simp only [h1',GMb,GMc,hsl]
   by_cases hd:FJ (s.drop a)<(s.drop a).length
   ·have:¬((FJ (s.drop a):Int)<0):=by omega
    rw [hi,if_pos hd]
    simp only [this,GMb,GMc]
   ·have e:FJ (s.drop a)=(s.drop a).length:=by omega
    rw [hi,if_neg hd]
    simp only [show ((-1:Int)<0) from by decide,GMb,GMc,DH,←e]
  ·have h1':(a:Int)>(s.length:Int):=by omega
   rw [Z6 (by omega)]
   simp only [h1',GMb,GMc]
   rfl
theorem q03_digits (s:List UInt8) (at':Int) (H:Aa) (hs:s.length<1152921504606846976) (hat:-9223372036854775808≤at'∧at'≤9223372036854775807):Sh.f4b (.str s) (.int .i64 at') H=some (.ret (.int .i64 (digA s at')),H):=by
 unfold Sh.f4b digA
 by_cases h0:at'<0
 ·rw [Dd DU,if_pos h0]
  unfold Sh.f6n
  have h0':¬at'≥0:=by omega
  simp only [GMb,GMc,Ai,h0']
  rfl
 ·obtain ⟨a,rfl⟩:∃a:Nat,at'=(a:Int):=⟨at'.toNat,by omega⟩
  rw [if_neg h0,Int.toNat_natCast]
  have key:=Bk (G:=fun rec1 vs H1=>Sh.f6n H rec1 (ag vs 0) (ag vs 1) (ag vs 2) (ag vs 3) H1) (σ:=Nat) (fun k=>k≤FJ (s.drop a)∧FJ (s.drop a)=k+FJ (s.drop (a+k))) (fun k=>[.str s,.int .i64 (a:Int),.int .i64 (k:Int),.int .i64 ((a+k:Nat):Int)]) (fun _=>H) (fun k=>s.length-k)
   (fun _=>some (.ret (.int .i64 (FJ (s.drop a):Int)),H)) (fun k rec hk hrec=>?_) 0 ⟨YL _,by simp⟩ (by omega)
  ·simpa using key
  ·obtain ⟨h1,h2⟩:=hk
   have hle:=Ux (s.drop a)
   have hge:(a:Int)≥0:=by omega
   unfold Sh.f6n
   by_cases hlt:a+k<s.length
   ·have hlt':((a+k:Nat):Int)<(s.length:Int):=by omega
    rw [YS hlt,SK]at h2
    have w1:IntKind.i64.wrap ((k:Int)+1)=((k+1:Nat):Int):=by rw [Am] <;> omega
    have w2:IntKind.i64.wrap (((a+k:Nat):Int)+1)=((a+(k+1):Nat):Int):=by rw [Am] <;> omega
    simp only [GMb,GMc,Ai,hge,DH,hlt',B9 hlt]
    by_cases hd:GV s[a+k]=true
    ·rw [if_pos hd]at h2
     have hd2:=hd
     simp only [GV,Y7,decide_eq_true_eq]at hd2
     have c1:((s[a+k].toNat:Int)≥48):=by omega
     have c2:((s[a+k].toNat:Int)≤57):=by omega
     simp only [c1,GMb,GMc,B9 hlt,c2,w1,w2]
     exact hrec (k+1) ⟨by omega,by rw [show a+(k+1)=a+k+1 by omega];omega⟩ (by rw [YG]at hle;omega)
    ·rw [if_neg hd]at h2
     simp only [GV,Y7,decide_eq_true_eq]at hd
     by_cases c1:((s[a+k].toNat:Int)≥48)
     ·have c2:¬((s[a+k].toNat:Int)≤57):=by omega
      simp only [c1,GMb,GMc,B9 hlt,c2]
      rw [h2];rfl
     ·simp only [c1,GMb,GMc]
      rw [h2];rfl
   ·have hlt':¬((a+k:Nat):Int)<(s.length:Int):=by omega
    rw [Z6 (by omega:s.length≤a+k)]at h2
    simp only [GMb,GMc,Ai,hge,DH,hlt']
    rw [h2];rfl
def Ev (s:List UInt8):Nat:=s.foldl (fun v c=>v*10+(c.toNat-48)) 0
theorem SL (s:List UInt8) (c:UInt8):Ev (s++[c])=Ev s*10+(c.toNat-48):=by simp [Ev]
theorem R5 {s:List UInt8} (h:FJ s=s.length):∀c∈s,GV c=true:=by
 induction s with
 | nil=>intro c hc;cases hc
 | cons x s ih=>
  rw [SK]at h
  by_cases hx:GV x=true
  ·rw [if_pos hx,List.length_cons]at h
   intro c hc
   rcases Zc.1 hc with e | e
   ·rw [e];exact hx
   ·exact ih (by omega) c e
  ·rw [if_neg hx]at h
   simp at h
theorem Iy (c:UInt8):GV c=true↔48≤c.toNat∧c.toNat≤57:=by simp [GV]
theorem Uy {s:List UInt8} (h:∀c∈s,GV c=true):∀i,i≤s.length→Ev (s.take i)<10^i
 | 0,_=>by simp [Ev]
 | i+1,hi=>by
  have:=Uy h i (by omega)
  have hc:=(Iy _).1 (h _ (Y8 (show i<s.length by omega)))
  rw [Y5 (by omega),SL,Nat.pow_succ]
  omega
def Ic (s:List UInt8):Bool:=match s with
 | c::_=>c == 45
 | []=>false
def B3 (s:List UInt8):List UInt8:=if Ic s then s.drop 1 else s
def IR (s:List UInt8):Bool:=B3 s == []||decide (FJ (B3 s)<(B3 s).length)||((B3 s)[0]?.getD 0 == 48 && !(s == [48]))
def CQ (s:List UInt8):Int:=if IR s then 2 else if (B3 s).length>400 then 4 else 0
def Bv (s:List UInt8):Int:=if CQ s=0 then (if Ic s then -(Ev (B3 s):Int)else Ev (B3 s))else 0
theorem q_cutprefix (s:List UInt8) (H:Aa) (hs:s.length<1152921504606846976):Sh.f2s (.str s) (.str [45]) H=some (.ret (.tup [.str (B3 s),.bool (Ic s)]),H):=by
 have hp:Sh.f2r (.str s) (.str [45]) H=some (.ret (.bool (Ic s)),H):=by
  unfold Sh.f2r
  cases s with
  | nil=>simp [BE,Ic]
  | cons c r=>
   have h1:((c::r).length:Int)≥(([45]:List UInt8).length:Int):=by simp;omega
   have h2:BF (.str (c::r)) none (some (.int .i64 (([45]:List UInt8).length:Int)))=some (.str [c]):=by
    rw [slice_str_to (by simp)];rfl
   simp only [DH,GMb,GMc,h1,h2,OA]
   simp [Ic]
 unfold Sh.f2s Sh.f4o
 cases hb:Ic s with
 | false=>simp only [GMb,GMc,hp,hb,B1,B8,B3,Y4,if_false]
 | true=>
  have h2:BF (.str s) (some (.int .i64 (([45]:List UInt8).length:Int))) none=some (.str (s.drop 1)):=by
   refine EP (l:=1) ?_
   cases s with
   | nil=>cases hb
   | cons c r=>simp
  simp only [GMb,GMc,hp,hb,DH,h2,B1,B8,B3,if_true]
theorem next_dig {B:Aa} {d:List UInt8} {i:Nat} (h:i<d.length) (hd:d[i].toNat<128):Ra (.ptr B.length 0 0) (B++[.iter d i])=some (.tup [.bool true,.int .i64 (i:Int),.int .i32 (d[i].toNat:Int)],B++[.iter d (i+1)]):=by
 have hb:=byteAt d i h
 have hdec:=decode_ascii ⟨d.toArray⟩ i (by show i<d.toArray.size;simpa using h) (by rw [hb];exact hd)
 simp only [Ra,List.getElem?_concat_length,h,if_true,hdec,hb,Bd]
theorem next_end {B:Aa} {d:List UInt8}:Ra (.ptr B.length 0 0) (B++[.iter d d.length])=some (.tup [.bool false],B++[.iter d d.length]):=by
 simp [Ra]
theorem Pe {H G:Aa} {zb:List Ab} {neg:Bool} {l:List Nat} {tk:Tok} {e:Int} (hz:zb.length=2) :
  (bP H (A3 (Af 2 (.ptr H.length 0 0) (.agg [.bool neg,.sl (enL cU l) tk]) (H++(.cel 0 zb::G)))) fun _ H40=>(CU [Ac true 2 (.ptr H.length 0 0) H40,some (.int .i64 e)]).bind fun x=>rPN H x H40)=some (.ret (.tup [.agg [.bool neg,.sl (enL cU l) .no],.int .i64 e]),H):=by
 have h1:Af 2 (.ptr H.length 0 0) (.agg [.bool neg,.sl (enL cU l) tk]) (H++(.cel 0 zb::G))=some (H++(.cel 0 [.bool neg,.sl (enL cU l) tk]::G)):=by
  rw [I5,Is (vs:=[.bool neg,.sl (enL cU l) tk]) rfl hz rfl]
  rfl
 have h2:Ac true 2 (.ptr H.length 0 0) (H++(.cel 0 [.bool neg,.sl (enL cU l) tk]::G))=some (.agg [.bool neg,.sl (enL cU l) tk]):=by
  rw [Hi];rfl
 simp only [h1,GMb,GMc,h2,OO,Iu,JB,Option.map_some,Co,Dz,Cp,C9,Iz,Gv,Hl,JS,Q9,Fs]
theorem OC:Ab.agg [.bool false,.sl (enL cU []) .no]=big 0:=by
 rw [LD,show (0:Int).natAbs=0 from rfl,Du]
 rfl
theorem big_of {neg:Bool} {n:Nat} (h:neg=true→n≠0):Ab.agg [.bool neg,.sl (enL cU (A4 n)) .no]=big (if neg then -(n:Int)else n):=by
 have h1:=big_sgn neg n
 have h2:sgn neg n=neg:=by
  unfold sgn
  cases neg with
  | false=>rfl
  | true=>simp [h rfl]
 rw [h2]at h1
 rw [h1]
 rfl
theorem QD:A2 (some [(.bool false),(.sl [] .tight)]) []=some (.agg [.bool false,.sl (enL cU []) .tight]):=rfl
theorem build_both {neg:Bool} {es:List (List Ab)} {tk:Tok}:A2 (some [(.bool false),(.sl [] .tight)]) [(0,1,.bool neg),(1,1,.sl es tk)]=some (.agg [.bool neg,.sl es tk]):=by simp [A2,Gu,DF]
theorem Uc {s:List UInt8} (h:IR s=false):B3 s≠[]∧FJ (B3 s)=(B3 s).length∧((B3 s)[0]?.getD 0=48→s=[48]):=by
 unfold IR at h
 simp only [Bool.or_eq_false_iff,ZL,beq_eq_false_iff_ne,decide_eq_false_iff_not,ne_eq,Qbf,beq_iff_eq]at h
 have:=Ux (B3 s)
 refine ⟨h.1.1,by omega,fun h0=>?_⟩
 rcases h.2 with h3 | h3
 ·exact absurd h0 h3
 ·exact h3
theorem decV_cons (c:UInt8) (s:List UInt8):Ev (c::s)=(c.toNat-48)*10^s.length+Ev s:=by
 have key:∀(s:List UInt8) (v:Nat),s.foldl (fun v c=>v*10+(c.toNat-48)) v=v*10^s.length+Ev s:=by
  intro s
  induction s with
  | nil=>intro v;simp [Ev]
  | cons x s ih=>
   intro v
   rw [List.foldl_cons,ih,List.length_cons,Nat.pow_succ]
   have e:Ev (x::s)=(x.toNat-48)*10^s.length+Ev s:=by
    have:=ih (0*10+(x.toNat-48))
    rw [Qa3,Yy]at this
    unfold Ev
    rw [List.foldl_cons,Qa3,Yy]
    exact this
   rw [e,Zg,ZR v 10,Z5 10]
   omega
 have:=key s (0*10+(c.toNat-48))
 rw [Qa3,Yy]at this
 conv=>lhs;unfold Ev
 rw [List.foldl_cons,Qa3,Yy]
 exact this
theorem decV_ne {s:List UInt8} (h:IR s=false) (hn:Ic s=true):Ev (B3 s)≠0:=by
 obtain ⟨h1,h2,h3⟩:=Uc h
 cases hd:B3 s with
 | nil=>exact absurd hd h1
 | cons c r=>
  rw [decV_cons]
  have hc:=R5 h2 c (by rw [hd];simp)
  rw [Iy]at hc
  have h48:c.toNat≠48:=fun e=>by
   have:c=48:=Qaz e
   have:=h3 (by rw [hd,this];rfl)
   rw [this]at hn
   cases hn
  have:1≤10^r.length:=Qag (by omega)
  have:1≤(c.toNat-48)*10^r.length:=Nat.mul_pos (by omega) this
  omega
theorem wrap_i32 {n:Int} (h0:-2147483648≤n) (h:n≤2147483647):IntKind.i32.wrap n=n:=by
 have h1:IntKind.i32.bits=32:=rfl
 have h2:IntKind.i32.signed=true:=rfl
 unfold IntKind.wrap
 simp only [h1,h2,Zu]
 split <;> rename_i hc <;> simp at hc <;> omega
theorem wrap_dig {c:UInt8} (h:GV c=true):IntKind.i32.wrap ((c.toNat:Int)-48)=((c.toNat-48:Nat):Int):=by
 rw [Iy]at h
 rw [wrap_i32 (by omega) (by omega)]
 omega
theorem Oa {n m:Nat} (h:n<10^m) (hm:m≤4096):(A4 n).length≤4096:=VF (n:=n) (Zs (m:=10^m) h (pow10_up (a:=m) (b:=4096) hm))
theorem q_parse (s:List UInt8) (H:Aa) (hs:s.length<1152921504606846976):Sh.f2v (.str s) H=some (.ret (.tup [big (Bv s),.int .i64 (CQ s)]),H):=by
 unfold Sh.f2v
 have htl:(B3 s).length≤s.length:=by unfold B3;split <;> simp
 have hcp:=q_cutprefix s (H++[Blk.cel 0 [.bool false,.sl [] .tight]]) hs
 have hdg:=q_digits (B3 s) 0 (H++[Blk.cel 0 [.bool false,.sl [] .tight]]) (by omega)
 have hd0:(digA (B3 s) 0:Int)=(FJ (B3 s):Int):=by simp [digA]
 rw [hd0]at hdg
 simp only [alloc_eq (cs:=[.bool false,.sl [] .tight]) rfl,Bo,hcp,GMb,GMc,B1,B8,OA]
 have tail:Sh.f72 H (.ptr H.length 0 0) (.str (B3 s)) (.bool (Ic s)) (.bool (IR s)) (H++[Blk.cel 0 [.bool false,.sl [] .tight]])=some (.ret (.tup [big (Bv s),.int .i64 (CQ s)]),H):=by
  unfold Sh.f72
  cases hsyn:IR s with
  | true=>
   have hE:CQ s=2:=by simp [CQ,hsyn]
   have hZ:Bv s=0:=by simp [Bv,hE]
   rw [hE,hZ,←OC]
   simp only [GMb,GMc,QD]
   exact Pe rfl
  | false=>
   obtain ⟨n1,n2,n3⟩:=Uc hsyn
   simp only [GMb,GMc,DH]
   by_cases hl:(B3 s).length>400
   ·have hl':((B3 s).length:Int)>400:=by omega
    have hE:CQ s=4:=by simp [CQ,hsyn,hl]
    have hZ:Bv s=0:=by simp [Bv,hE]
    rw [hE,hZ,←OC]
    simp only [hl',GMb,GMc,QD]
    exact Pe rfl
   ·have hl':¬((B3 s).length:Int)>400:=by omega
    have hE:CQ s=0:=by simp [CQ,hsyn,hl]
    have hZ:Bv s=(if Ic s then -(Ev (B3 s):Int)else Ev (B3 s)):=by simp [Bv,hE]
    have hne:=decV_ne hsyn
    have hall:=R5 n2
    have hlt:=Uy hall
    rw [hE,hZ,←big_of (neg:=Ic s) hne]
    generalize hd:B3 s=d at *
    simp only [hl',GMb,GMc]
    have hrg:Qr (.str d) (H++[Blk.cel 0 [.bool false,.sl [] .tight]])=some (.ptr (H.length+1) 0 0,H++[.cel 0 [.bool false,.sl [] .tight]]++[.iter d 0]):=by simp [Qr]
    simp only [hrg,GMb,GMc]
    have hBl:(H++[Blk.cel 0 [.bool false,.sl [] .tight]]).length=H.length+1:=by simp
    obtain ⟨tkf,htk⟩:∃tkf:Nat→Tok,tkf=fun i=>if i=0 then .tight else .no:=⟨_,rfl⟩
    have key:=Ca (G:=fun rec2 vs H1=>Sh.f5g H rec2 (ag vs 0) (ag vs 1) (ag vs 2) (ag vs 3) H1) d.length (fun i=>[.ptr H.length 0 0,.bool (Ic s),.sl (enL cU (A4 (Ev (d.take i)))) (tkf i),.ptr (H.length+1) 0 0])
     (fun i=>H++[.cel 0 [.bool false,.sl [] .tight]]++[.iter d i]) (some (.ret (.tup [.agg [.bool (Ic s),.sl (enL cU (A4 (Ev d))) .no],.int .i64 0]),H)) (by omega) (fun rec i hi=>?_) (fun rec=>?_)
    ·rw [List.take_zero,show Ev []=0 from rfl,Du,htk]at key
     exact key
    ·have hdi:=hall _ (Y8 hi)
     have hdi2:=(Iy _).1 hdi
     have hnx:=next_dig (B:=H++[Blk.cel 0 [.bool false,.sl [] .tight]]) hi (by omega)
     rw [hBl]at hnx
     have hw:=wrap_dig hdi
     have hcv:AD .u32 (.int .i32 ((d[i].toNat-48:Nat):Int))=some (.int .u32 ((d[i].toNat-48:Nat):Int)):=by rw [Bq,CL (by omega) (by omega)]
     have hsh:=Oa (hlt i (by omega)) (by omega)
     have hml:=fun H=>q_mul (l:=A4 (Ev (d.take i))) (tk:=tkf i) (m:=10) (c:=d[i].toNat-48) H (Bp _) (by omega) (by omega) (by omega)
     simp only [Bx,←SL,←Y5 hi,show ((10:Nat):Int)=10 from rfl]at hml
     have htk1:tkf (i+1)=.no:=by rw [htk];rfl
     unfold Sh.f5g
     simp only [Al,Ai,hnx,GMb,GMc,B1,show ∀(x y z:Ab),As 2 (.tup [x,y,z])=some z from fun _ _ _=>rfl,show ∀(x y z:Ab),As 0 (.tup [x,y,z])=some x from fun _ _ _=>rfl,hw,hcv,hml,htk1]
    ·have hnx:=next_end (B:=H++[Blk.cel 0 [.bool false,.sl [] .tight]]) (d:=d)
     rw [hBl]at hnx
     unfold Sh.f5g
     simp only [Al,Ai,hnx,GMb,GMc,show ∀(x:Ab),As 0 (.tup [x])=some x from fun _=>rfl,build_both,YY]
     rw [Y1 H]
     exact Pe rfl
 by_cases h0:B3 s=[]
 ·have hsyn:IR s=true:=by simp [IR,h0]
  rw [hsyn]at tail
  simp only [h0,beq_self_eq_true,GMb,GMc,Al,Ai]at tail ⊢
  exact tail
 ·have hb:(B3 s == [])=false:=by simpa using h0
  simp only [hb,GMb,GMc,hdg,DH]
  by_cases hlt:FJ (B3 s)<(B3 s).length
  ·have hlt':(FJ (B3 s):Int)<((B3 s).length:Int):=by omega
   have hsyn:IR s=true:=by simp [IR,hlt]
   rw [hsyn]at tail
   simp only [hlt',GMb,GMc,Al,Ai]
   exact tail
  ·have hlt':¬(FJ (B3 s):Int)<((B3 s).length:Int):=by omega
   obtain ⟨c,r,hcr⟩:=List.exists_cons_of_ne_nil h0
   have hix:BV (.str (B3 s)) (.int .i64 0)=some (.int .u8 (c.toNat:Int)):=by rw [hcr];exact VO
   have hsyn:IR s=((c == 48) && !(s == [48])):=by
    simp only [IR,hb,decide_eq_false hlt,ZE]
    rw [hcr]
    rfl
   have hcc:decide ((c.toNat:Int)=48)=(c == 48):=by
    rw [YD]
    simp only [decide_eq_true_eq,beq_iff_eq]
    constructor
    ·intro h
     exact Qaz (show c.toNat=(48:UInt8).toNat from by have:(48:UInt8).toNat=48:=rfl;omega)
    ·intro h;rw [h];rfl
   rw [hsyn]at tail
   simp only [hlt',GMb,GMc,hix,hcc,bin_sneq]
   cases hc48:(c == 48)with
   | false=>
    rw [hc48,Z7]at tail
    simp only [GMb,GMc,Al,Ai]
    exact tail
   | true=>
    rw [hc48,Zu]at tail
    simp only [GMb,GMc,Al,Ai]
    exact tail
def hv (e:Int×List UInt8):Ab:=VR e.1 e.2
def resE (er:Er) (v:Ab):Res:=match er with
 | none=>.ret v
 | some e=>.pan (hv e)
@[simp] theorem Dc (v:Ab):resE none v=.ret v:=(rfl)
@[simp] theorem DQ (e:Int×List UInt8) (v:Ab):resE (some e) v=.pan (hv e):=(rfl)
theorem J9 (b:List UInt8) (a:Nat) (s:List UInt8):Te b a s=hv (Mn b a s):=by
 unfold Te hv Mn;split <;> rfl
section
variable {H:Aa} {p a:Nat} {b:List UInt8} {r:List Ab}
theorem lx_stopR (h:Lx H p b a r) (s:List UInt8):Sh.f9 (.ptr p 0 0) (.str s) H=some (.pan (hv (Mn b a s)),H):=by
 rw [OS h,←J9];rfl
theorem lx_endS (h:Lx H p b a r) (ha:a≤b.length) (hb:b.length<1152921504606846976) (rest:List UInt8) (hr:rest.length≤1000000) :
  Sh.fu (.ptr p 0 0) (.str rest) H=some (resE (GU b a rest).1 (.tup []),C7 H p b r (GU b a rest).2):=by
 rw [lx_end h ha hb rest hr]
 unfold endO GU QA
 by_cases e:a=b.length
 ·have hs:=Fi h
  rw [e]at hs
  simp only [e,if_true,Dc,hs]
 ·simp only [if_neg e]
  cases hs:BI b (crN b a) [10]with
  | true=>simp only [if_true,Dc]
  | false=>simp only [Y4,if_false,DQ,J9]
theorem V8 (h:Lx H p b a r) (ha:a≤b.length) (hb:b.length<1152921504606846976) (s rest:List UInt8) (hs:s.length≤1000000) (hr:rest.length≤1000000) :
  Sh.ft (.ptr p 0 0) (.str s) (.str rest) H=some (resE (BT b a s rest).1 (.tup []),C7 H p b r (BT b a s rest).2):=by
 rw [lx_must h ha hb s rest hs hr]
 unfold mustO BT VE
 by_cases e:cpN (b.drop a) s<s.length
 ·simp only [if_pos e,DQ,J9]
 ·simp only [if_neg e,Dc]
theorem lx_ruleS (h:Lx H p b a r) (ha:a≤b.length) (hb:b.length<1152921504606846976) (rest:List UInt8) (hr:rest.length≤1000000) :
  Sh.f1x (.ptr p 0 0) (.str rest) H=some (resE (Hg b a rest).1 (.str ((b.take (Hg b a rest).2).drop a)),C7 H p b r (Hg b a rest).2):=by
 rw [lx_rule h ha hb rest hr]
 unfold ruleO Hg
 by_cases e:Ef b a 40 a=a
 ·simp only [e,if_true,DQ,J9]
 ·simp only [if_neg e,Dc]
theorem numR_S (b:List UInt8) (f:Nat) (rest:List UInt8):∀n a,Q1 b f rest n a=((FC b f rest n a).1.map hv,(FC b f rest n a).2)
 | 0,a=>rfl
 | n+1,a=>by
  rw [Q1,FC]
  split
  ·split
   ·rw [J9];rfl
   ·split
    ·rfl
    ·exact numR_S b f rest n (a+1)
  ·split
   ·rw [J9];rfl
   ·rfl
theorem lx_lt (h:Lx H p b a r):p<H.length:=by
 rcases Zf p H.length with h' | h'
 ·exact h'
 ·unfold Lx at h;rw [YA h']at h;cases h
theorem Xv {G:Aa} {e:Nat} (h:p<H.length):C7 (H++G) p b r e=C7 H p b r e++G:=by
 unfold C7;rw [Qau _ _ h]
theorem lx_num_end (h:Lx H p b a r) {f e:Nat} (hfe:f≤e) (he:e≤b.length) (hb:b.length<1152921504606846976) (zb:List Ab) (hz:zb.length=2) :
  ∃G,Sh.f4p H (.ptr p 0 0) (.ptr H.length 0 0) (.int .i64 (f:Int)) (C7 H p b r e++[.cel 0 zb])=some (.ret (big (Bv ((b.take e).drop f))),C7 H p b r e++G):=by
 have hx:=Hx (a':=e) h
 have hl:=setL_len H p e b r
 have hld0:∀G,Ac false 1 (.ptr p 0 0) (C7 H p b r e++G)=some (.str b):=fun G=>lx_b (Lx.push hx)
 have hld1:∀G,Ac false 1 (.ptr p 0 1) (C7 H p b r e++G)=some (.int .i64 (e:Int)):=fun G=>IW (Lx.push hx)
 unfold Sh.f4p
 rw [←hl]
 generalize C7 H p b r e=K at *
 have hq:=fun H=>q_parse ((b.take e).drop f) H (by simp only [YG,YC];omega)
 obtain ⟨sg,es,hbig⟩:∃sg es,big (Bv ((b.take e).drop f))=.agg [.bool sg,.sl es .no]:=⟨_,_,LD _⟩
 rw [hbig]at hq ⊢
 refine ⟨[.cel 0 [.bool sg,.sl es .no],.cel 0 [.bool sg,.sl es .no]],?_⟩
 simp only [GMb,GMc,HPa,HPc,HPd,HPe,HPz,Nat.reduceAdd,Nat.reduceLT,hld0,hld1,It hfe he,hq,hz]
 rfl

end
theorem numS_le (b:List UInt8) (f:Nat) (rest:List UInt8):∀n a,a≤b.length→a≤(FC b f rest n a).2∧(FC b f rest n a).2≤b.length:=fun n a h=>by
 have:=numR_le b f rest n a h
 rw [numR_S]at this;exact this
theorem intF_le {b:List UInt8} {a:Nat} (ha:a≤b.length) (neg:Bool):a≤Q6 b a neg∧Q6 b a neg≤b.length:=by
 unfold Q6
 cases neg with
 | false=>exact ⟨Yz _,ha⟩
 | true=>
  cases hs:BI b a [45]with
  | true=>have:=F9 hs;simp;omega
  | false=>simpa using ha
theorem OZ {b:List UInt8} {a:Nat} (ha:a≤b.length) (neg:Bool) (rest:List UInt8):a≤(C4 b a neg rest).2∧(C4 b a neg rest).2≤b.length:=by
 unfold C4
 have h1:=intF_le ha neg
 have h2:=numS_le b (Q6 b a neg) rest 402 (Q6 b a neg) h1.2
 split
 ·rename_i h
  simp only [Y7]at h
  have:=F9 h.2
  exact ⟨Qan _,by omega⟩
 ·omega
section
variable {H:Aa} {p a:Nat} {b:List UInt8} {r:List Ab}
theorem XC (h:Lx H p b a r) {f:Nat} (haf:a≤f) (hf:f≤b.length) (hb:b.length<1152921504606846976) (rest:List UInt8) (hr:rest.length≤1000000) (zb:List Ab) (hz:zb.length=2) :
  ∃G,Sh.f5j H (.ptr p 0 0) (.str rest) (.ptr H.length 0 0) (.int .i64 (a:Int)) (C7 H p b r f++[.cel 0 zb])=some (resE (FC b f rest 402 f).1 (big (Bv ((b.take (FC b f rest 402 f).2).drop a))),C7 H p b r (FC b f rest 402 f).2++G):=by
 have hp:=lx_lt h
 have hx:Lx (C7 H p b r f++[.cel 0 zb]) p b f r:=Lx.push (Hx h)
 have key:=lx_num_loop (H0:=H) hx hf hb rest hr (.ptr H.length 0 0) (.int .i64 (a:Int))
 have hle:=numS_le b f rest 402 f hf
 unfold Sh.f5j
 simp only [GMb,GMc,HPa,HPc,HPd,HPe,HPz,Nat.reduceAdd,Nat.reduceLT,IW hx]
 rw [key,numR_S]
 generalize FC b f rest 402 f=R at *
 obtain ⟨er,e⟩:=R
 have hpp:∀G:Aa,C7 (C7 H p b r f++G) p b r e=C7 H p b r e++G:=fun G=>by
  rw [Xv (by rw [setL_len];exact hp),Xu]
 cases er with
 | some v=>
  refine ⟨[.cel 0 zb],?_⟩
  show some (Res.pan (hv v),C7 _ p b r e)=_
  rw [hpp];rfl
 | none=>
  obtain ⟨G,hG⟩:=lx_num_end h (f:=a) (e:=e) (by dsimp only at hle;omega) hle.2 hb zb hz
  refine ⟨G,?_⟩
  show Sh.f4p H (.ptr p 0 0) (.ptr H.length 0 0) (.int .i64 (a:Int)) (C7 _ p b r e)=_
  rw [hpp,hG];rfl
theorem XB (h:Lx H p b a r) (ha:a≤b.length) (hb:b.length<1152921504606846976) (neg:Bool) (rest:List UInt8) (hr:rest.length≤1000000) :
  ∃G,Sh.f1y (.ptr p 0 0) (.bool neg) (.str rest) H=some (resE (C4 b a neg rest).1 (big (Bv ((b.take (C4 b a neg rest).2).drop a))),C7 H p b r (C4 b a neg rest).2++G):=by
 have hx:Lx (H++[.cel 0 [.bool false,.sl [] .tight]]) p b a r:=Lx.push h
 have hss:=Fi h
 unfold Sh.f1y
 have plain:Q6 b a neg=a→C4 b a neg rest=FC b a rest 402 a→∃G,Sh.f5j H (.ptr p 0 0) (.str rest) (.ptr H.length 0 0) (.int .i64 (a:Int)) (H++[.cel 0 [.bool false,.sl [] .tight]])=some (resE (C4 b a neg rest).1 (big (Bv ((b.take (C4 b a neg rest).2).drop a))),C7 H p b r (C4 b a neg rest).2++G):=by
  intro e1 e2
  have:=XC h (Yz a) ha hb rest hr [.bool false,.sl [] .tight] rfl
  rw [hss]at this
  rw [e2];exact this
 cases neg with
 | false=>
  simp only [GMb,GMc,HPa,HPc,HPd,HPe,HPz,Nat.reduceAdd,Nat.reduceLT,IW hx]
  exact plain rfl rfl
 | true=>
  simp only [GMb,GMc,HPa,HPc,HPd,HPe,HPz,Nat.reduceAdd,Nat.reduceLT,IW hx,OT hx ha]
  cases hs:BI b a [45]with
  | false=>
   simp only [GMb,GMc,HPa,HPc,HPd,HPe,HPz,Nat.reduceAdd,Nat.reduceLT]
   exact plain (by simp [Q6,hs]) (by simp [C4,Q6,hs])
  | true=>
   have hlt:=F9 hs
   have hm:=OU (a':=a) hx (a+1)
   rw [Fi hx]at hm
   have hx1:=Hx (a':=a+1) hx
   have hpu:=Xv (b:=b) (r:=r) (G:=[.cel 0 [.bool false,.sl [] .tight]]) (e:=a+1) (lx_lt h)
   simp only [GMb,GMc,HPa,HPc,HPd,HPe,HPz,Nat.reduceAdd,Nat.reduceLT,IW hx,Av (show a<9223372036854775807 by omega),hm,OT hx1 (show a+1≤b.length by omega)]
   have e1:Q6 b a true=a+1:=by simp [Q6,hs]
   cases h0:BI b (a+1) [48]with
   | true=>
    have e2:C4 b a true rest=(some (Mn b (a+1) []),a+1):=by simp [C4,hs,h0]
    rw [e2]
    refine ⟨[.cel 0 [.bool false,.sl [] .tight]],?_⟩
    simp only [GMb,GMc,HPa,HPc,HPd,HPe,HPz,Nat.reduceAdd,Nat.reduceLT,lx_stopR hx1]
    rw [hpu];rfl
   | false=>
    have e2:C4 b a true rest=FC b (a+1) rest 402 (a+1):=by simp [C4,hs,h0,e1]
    rw [e2]
    have:=XC h (f:=a+1) (by omega) hlt hb rest hr [.bool false,.sl [] .tight] rfl
    simp only [GMb,GMc,HPa,HPc,HPd,HPe,HPz,Nat.reduceAdd,Nat.reduceLT]
    rw [hpu]
    exact this

end
section
variable {H:Aa} {b:List UInt8} {a:Nat}
theorem Ext.push (b id:Nat) (hb:b≤H.length) (G:Aa):Ext b id H (H++G):=
 ⟨by simp,fun i c hi hc=>A1 hc,fun i hi=>Yx (by omega)⟩
theorem GA {s rest:List UInt8} (ha:a≤b.length):(BT b a s rest).2≤b.length:=litN_le ha s
theorem rulS_le {rest:List UInt8} (ha:a≤b.length):a≤(Hg b a rest).2∧(Hg b a rest).2≤b.length:=ruleN_le 40 a ha
end
theorem Ut {b:List UInt8} {a:Nat} (ha:a≤b.length) (rest:List UInt8):a≤(GU b a rest).2∧(GU b a rest).2≤b.length:=by
 refine ⟨?_,eolN_le ha⟩
 show a≤QA b a
 unfold QA crN
 split
 ·exact Yz _
 ·split <;> split <;> omega
theorem syn_ref {s:List UInt8} {c:UInt8} {r:List UInt8} (hcr:B3 s=c::r) (hlt:¬FJ (B3 s)<(B3 s).length):IR s=((c == 48)&&(decide (1<r.length+1)||Ic s)):=by
 have hb:(B3 s == [])=false:=by rw [hcr];rfl
 have hsyn:IR s=((c == 48) && !(s == [48])):=by
  simp only [IR,hb,decide_eq_false hlt,ZE]
  rw [hcr]
  rfl
 rw [hsyn]
 by_cases hc:c=48
 ·subst hc
  simp only [beq_self_eq_true,Zu]
  cases hn:Ic s with
  | true=>
   have:s≠[48]:=fun e=>by rw [e]at hn;cases hn
   simp [this]
  | false=>
   have hs:s=48::r:=by rw [←hcr];simp [B3,hn]
   rw [hs]
   cases r <;> simp
 ·have:(c == 48)=false:=by simpa using hc
  simp [this]
theorem wrap_u8d {c:UInt8} (h:GV c=true):IntKind.u8.wrap ((c.toNat:Int)-48)=((c.toNat-48:Nat):Int):=by
 rw [Iy]at h
 rw [QI (by omega) (by omega)]
 omega
theorem build_one {es:List (List Ab)} {tk:Tok}:A2 (some [(.bool false),(.sl [] .tight)]) [(1,1,.sl es tk)]=some (.agg [.bool false,.sl es tk]):=by simp [A2,Gu,DF]
theorem Sc (s:List UInt8) (H:Aa) (hs:s.length<1152921504606846976):Sh.f4d (.str s) H=some (.ret (.tup [big (Bv s),.int .i64 (CQ s)]),H):=by
 unfold Sh.f4d
 have htl:(B3 s).length≤s.length:=by unfold B3;split <;> simp
 have hdg:=q03_digits (B3 s) 0 (H++[Blk.cel 0 [.bool false,.sl [] .tight]]) (by omega) (by omega)
 have hd0:(digA (B3 s) 0:Int)=(FJ (B3 s):Int):=by simp [digA]
 rw [hd0]at hdg
 have tail:Sh.f7t H (.ptr H.length 0 0) (.str (B3 s)) (.bool (Ic s)) (H++[Blk.cel 0 [.bool false,.sl [] .tight]])=some (.ret (.tup [big (Bv s),.int .i64 (CQ s)]),H):=by
  unfold Sh.f7t
  have bad:∀e:Int,CQ s=e→e≠0→((A2 (some [(.bool false),(.sl [] .tight)]) []).bind fun x35=>
 bP H (A3 (Af 2 (.ptr H.length 0 0) x35 (H++[Blk.cel 0 [.bool false,.sl [] .tight]]))) fun _ H37=>
 (CU [Ac true 2 (.ptr H.length 0 0) H37,some (.int .i64 e)]).bind fun x38=>rPN H x38 H37)=some (.ret (.tup [big (Bv s),.int .i64 (CQ s)]),H):=by
   intro e he hne
   have hZ:Bv s=0:=by simp [Bv,he,hne]
   rw [he,hZ,←OC,QD,BD]
   exact Pe rfl
  cases hcr:B3 s with
  | nil=>
   have hE:CQ s=2:=by simp [CQ,IR,hcr]
   simp only [DH,List.length_nil,GMb,GMc,show ((0:Nat):Int)=0 from rfl]
   exact bad 2 hE (by decide)
  | cons c r=>
   have hix:BV (.str (c::r)) (.int .i64 0)=some (.int .u8 (c.toNat:Int)):=VO
   have hcc:decide ((c.toNat:Int)=48)=(c == 48):=by
    rw [YD]
    simp only [decide_eq_true_eq,beq_iff_eq]
    constructor
    ·intro h
     exact Qaz (show c.toNat=(48:UInt8).toNat from by have:(48:UInt8).toNat=48:=rfl;omega)
    ·intro h;rw [h];rfl
   have hl0:¬(((c::r).length:Int)=0):=by simp;omega
   rw [hcr]at hdg
   simp only [DH,hl0,GMb,GMc,hdg]
   by_cases hlt:FJ (c::r)<(c::r).length
   ·have hsyn:IR s=true:=by simp only [IR,hcr,decide_eq_true hlt,Qa6,Qaa]
    have hne:¬((FJ (c::r):Int)=((c::r).length:Int)):=by omega
    have hE:CQ s=2:=by simp [CQ,hsyn]
    simp only [hne,GMb,GMc]
    exact bad 2 hE (by decide)
   ·have hle:=Ux (c::r)
    have heq:(FJ (c::r):Int)=((c::r).length:Int):=by omega
    have hsr:=syn_ref hcr (by rw [hcr];exact hlt)
    have hgt:decide (((c::r).length:Int)>1)=decide (1<r.length+1):=by
     rw [YD];simp only [decide_eq_true_eq,List.length_cons];omega
    have fin:(∀(K:Ab→Out),True)→(Aj (.bool (IR s)) ((A2 (some [(.bool false),(.sl [] .tight)]) []).bind fun x35=>
 bP H (A3 (Af 2 (.ptr H.length 0 0) x35 (H++[Blk.cel 0 [.bool false,.sl [] .tight]]))) fun _ H37=>
 (CU [Ac true 2 (.ptr H.length 0 0) H37,some (.int .i64 2)]).bind fun x38=>rPN H x38 H37) (
 (BE (.str (c::r))).bind fun x39=>
 (Ae .none .gtr x39 (.int .i64 400)).bind fun x40=>
 Aj x40 (
 (A2 (some [(.bool false),(.sl [] .tight)]) []).bind fun x41=>
 bP H (A3 (Af 2 (.ptr H.length 0 0) x41 (H++[Blk.cel 0 [.bool false,.sl [] .tight]]))) fun _ H43=>
 (CU [Ac true 2 (.ptr H.length 0 0) H43,some (.int .i64 4)]).bind fun x44=>rPN H x44 H43) (
 Ao (fun rec2 vs H_1=>Sh.f5a H rec2 (ag vs 0) (ag vs 1) (ag vs 2) (ag vs 3) (ag vs 4) H_1) AK [.ptr H.length 0 0,.str (c::r),.bool (Ic s),(.sl [] .tight),(.int .i64 0)] (H++[Blk.cel 0 [.bool false,.sl [] .tight]]))))=some (.ret (.tup [big (Bv s),.int .i64 (CQ s)]),H):=by
     intro _
     cases hsyn:IR s with
     | true=>
      have hE:CQ s=2:=by simp [CQ,hsyn]
      simp only [GMb,GMc]
      exact bad 2 hE (by decide)
     | false=>
      obtain ⟨n1,n2,n3⟩:=Uc hsyn
      simp only [GMb,GMc,DH]
      by_cases hl:(B3 s).length>400
      ·have hl':((c::r).length:Int)>400:=by rw [hcr]at hl;omega
       have hE:CQ s=4:=by simp [CQ,hsyn,hl]
       simp only [hl',GMb,GMc]
       exact bad 4 hE (by decide)
      ·have hl':¬((c::r).length:Int)>400:=by rw [hcr]at hl;omega
       have hE:CQ s=0:=by simp [CQ,hsyn,hl]
       have hZ:Bv s=(if Ic s then -(Ev (B3 s):Int)else Ev (B3 s)):=by simp [Bv,hE]
       have hall:=R5 n2
       have hdlt:=Uy hall
       rw [hE,hZ]
       rw [←hcr]
       rw [←hcr]at hl'
       generalize hd:B3 s=d at *
       simp only [hl',GMb,GMc]
       obtain ⟨tkf,htk⟩:∃tkf:Nat→Tok,tkf=fun i=>if i=0 then .tight else .no:=⟨_,rfl⟩
       have key:=Ca (G:=fun rec2 vs H1=>Sh.f5a H rec2 (ag vs 0) (ag vs 1) (ag vs 2) (ag vs 3) (ag vs 4) H1) d.length (fun i=>[.ptr H.length 0 0,.str d,.bool (Ic s),.sl (enL cU (A4 (Ev (d.take i)))) (tkf i),.int .i64 (i:Int)])
        (fun i=>H++[.cel 0 [.bool false,.sl [] .tight]]) (some (.ret (.tup [big (if Ic s then -(Ev d:Int)else Ev d),.int .i64 0]),H)) (by omega) (fun rec i hi=>?_) (fun rec=>?_)
       ·rw [List.take_zero,show Ev []=0 from rfl,Du,htk]at key
        exact key
       ·have hdi:=hall _ (Y8 hi)
        have hdi2:=(Iy _).1 hdi
        have hi':(i:Int)<(d.length:Int):=by omega
        have hw:=wrap_u8d hdi
        have hcv:AD .u32 (.int .u8 ((d[i].toNat-48:Nat):Int))=some (.int .u32 ((d[i].toNat-48:Nat):Int)):=by rw [Bq,CL (by omega) (by omega)]
        have hsh:=Oa (hdlt i (by omega)) (by omega)
        have hml:=fun H=>q01_mul (l:=A4 (Ev (d.take i))) (tk:=tkf i) (m:=10) (c:=d[i].toNat-48) H (Bp _) (by omega) (by omega) (by omega)
        simp only [Bx,←SL,←Y5 hi,show ((10:Nat):Int)=10 from rfl]at hml
        have htk1:tkf (i+1)=.no:=by rw [htk];rfl
        have w6:IntKind.i64.wrap ((i:Int)+1)=((i+1:Nat):Int):=by rw [Am] <;> omega
        unfold Sh.f5a
        simp only [GMb,GMc,Ai,DH,hi',B9 hi,hw,hcv,hml,htk1,w6]
       ·have hsh:=Oa (hdlt d.length (Yz _)) (by omega)
        rw [YY]at hsh
        have hst:∀B:Aa,Af 2 (.ptr B.length 0 0) (.agg [.bool false,.sl (enL cU (A4 (Ev d))) (tkf d.length)]) (B++[.cel 0 [.bool false,.sl [] .tight]])=some (B++[.cel 0 [.bool false,.sl (enL cU (A4 (Ev d))) (tkf d.length)]]):=fun B=>by
         rw [I5,Is (sz:=2) (cs:=[.bool false,.sl [] .tight]) (vs:=[.bool false,.sl (enL cU (A4 (Ev d))) (tkf d.length)]) rfl rfl rfl]
         rfl
        have hld:∀B:Aa,Ac true 2 (.ptr B.length 0 0) (B++[.cel 0 [.bool false,.sl (enL cU (A4 (Ev d))) (tkf d.length)]])=some (.agg [.bool false,.sl (enL cU (A4 (Ev d))) (tkf d.length)]):=fun B=>by
         rw [Hi];rfl
        have hmn:=fun H=>Sd false (A4 (Ev d)) (tkf d.length) H (by omega) (Bp _)
        have hbi:HS false (A4 (Ev d))=(Ev d:Int):=by simp [HS,Bx]
        simp only [hbi]at hmn
        unfold Sh.f5a
        simp only [GMb,GMc,Ai,DH,Zl,YY,build_one,alloc_eq (cs:=[.bool false,.sl [] .tight]) rfl,Bo]
        rw [hst]
        simp only [GMb,GMc]
        cases hn:Ic s with
        | true=>
         simp only [GMb,GMc,if_true]
         rw [hld]
         simp only [GMb,GMc,hmn]
         rw [LD,Y1 H]
         exact Pe rfl
        | false=>
         simp only [GMb,GMc,Y4,if_false]
         rw [hld]
         simp only [GMb,GMc]
         have hbo:Ab.agg [.bool false,.sl (enL cU (A4 (Ev d))) .no]=big (Ev d:Int):=big_of (neg:=false) (fun h=>by cases h)
         rw [Y1 H,←hbo]
         exact Pe rfl
    have fin2:=fin (fun _=>trivial)
    simp only [heq,GMb,GMc,hix,hcc]
    rw [hsr]at fin2
    cases hc48:(c == 48)with
    | false=>
     rw [hc48,Z7]at fin2
     simp only [GMb,GMc]
     exact fin2
    | true=>
     rw [hc48,Zu]at fin2
     simp only [GMb,GMc,DH,hgt]
     cases hg1:decide (1<r.length+1)with
     | true=>
      rw [hg1,Qaa]at fin2
      simp only [GMb,GMc]
      exact fin2
     | false=>
      rw [hg1,ZE]at fin2
      simp only [GMb,GMc]
      exact fin2
 simp only [alloc_eq (cs:=[.bool false,.sl [] .tight]) rfl,Bo,GMb,GMc,DH]
 cases s with
 | nil=>
  simp only [List.length_nil,show ¬(((0:Nat):Int)>0) from by decide,GMb,GMc,Al,Ai]
  exact tail
 | cons c r=>
  have hgt:((c::r).length:Int)>0:=by simp
  have hix:BV (.str (c::r)) (.int .i64 0)=some (.int .u8 (c.toNat:Int)):=VO
  have hcc:decide ((c.toNat:Int)=45)=Ic (c::r):=by
   rw [YD]
   simp only [decide_eq_true_eq,Ic,beq_iff_eq]
   constructor
   ·intro h
    exact Qaz (show c.toNat=(45:UInt8).toNat from by have:(45:UInt8).toNat=45:=rfl;omega)
   ·intro h;rw [h];rfl
  simp only [hgt,GMb,GMc,hix,hcc]
  cases hn:Ic (c::r)with
  | true=>
   have h2:BF (.str (c::r)) (some (.int .i64 1)) none=some (.str ((c::r).drop 1)):=EP (l:=1) (by simp)
   rw [hn]at tail
   have ht:B3 (c::r)=(c::r).drop 1:=by simp [B3,hn]
   rw [ht]at tail
   simp only [GMb,GMc,h2,Al,Ai]
   exact tail
  | false=>
   rw [hn]at tail
   have ht:B3 (c::r)=c::r:=by simp [B3,hn]
   rw [ht]at tail
   simp only [GMb,GMc,Al,Ai]
   exact tail
theorem parse_ok {s:List UInt8} (h:CQ s=0):IR s=false∧(B3 s).length≤400:=by
 unfold CQ at h
 cases hs:IR s with
 | true=>rw [hs]at h;simp at h
 | false=>
  rw [hs]at h
  simp only [Y4,if_false]at h
  refine ⟨rfl,?_⟩
  split at h
  ·cases h
  ·omega
theorem pow10_pos (k:Nat):Int.natAbs 0<10^k:=Qag (by omega)
theorem OQ (s:List UInt8):(Bv s).natAbs<10^400:=by
 unfold Bv
 split
 ·rename_i h
  obtain ⟨h1,h2⟩:=parse_ok h
  have hall:=R5 (Uc h1).2.1
  have:=Uy hall (B3 s).length (Yz _)
  rw [YY]at this
  have h3:=Zs this (pow10_up h2)
  split
  ·rw [Qba,Int.natAbs_natCast];exact h3
  ·rw [Int.natAbs_natCast];exact h3
 ·exact pow10_pos 400
structure PSt where
 law:List UInt8
 cells:List Cl
def Ei:List UInt8:=[32]
def G6:List UInt8:=[35,82,32]
def EV:List UInt8:=[35,76,105,102,101,32,49,46,48,54]
def WS (b:List UInt8) (a:Nat) (st:PSt):(Er×Nat)×PSt:=
 match BT b a G6 [97]with
 | (some e,c)=>((some e,c),st)
 | (none,c)=>match Hg b c []with
  | (some e,d)=>((some e,d),st)
  | (none,d)=>((none,d),{ st with law:=(b.take d).drop c })
def Jt (b:List UInt8) (a:Nat) (st:PSt):(Er×Nat)×PSt:=
 match C4 b a true [32,49]with
 | (some e,c)=>((some e,c),st)
 | (none,c)=>match BT b c Ei [49]with
  | (some e,d)=>((some e,d),st)
  | (none,d)=>match C4 b d true []with
   | (some e,f)=>((some e,f),st)
   | (none,f)=>((none,f),{ st with cells:=st.cells++[⟨Bv ((b.take c).drop a),Bv ((b.take f).drop d),1⟩] })
def NY (b:List UInt8) (a:Nat) (st:PSt):(Er×Nat)×PSt:=if BI b a [35]then WS b a st else Jt b a st
def WW (b:List UInt8) (s:(Er×Nat)×PSt):(Er×Nat)×PSt:=match s with
 | ((some e,c),st')=>((some e,c),st')
 | ((none,c),st')=>(GU b c [],st')
def FB (b:List UInt8) (a:Nat) (st:PSt):(Er×Nat)×PSt:=WW b (NY b a st)
def HW (b:List UInt8):Nat→Nat→PSt→(Er×Nat)×PSt
 | 0,a,st=>((none,a),st)
 | k+1,a,st=>
  if a=b.length then ((none,a),st)
  else match FB b a st with
   | ((some e,c),st')=>((some e,c),st')
   | ((none,c),st')=>HW b k c st'
def MT (b:List UInt8) (st:PSt):(Er×Nat)×PSt:=
 match BT b 0 EV []with
 | (some e,c)=>((some e,c),st)
 | (none,c)=>match GU b c []with
  | (some e,d)=>((some e,d),st)
  | (none,d)=>HW b (b.length+1) d st
structure LineP (b:List UInt8) (a:Nat) (st:PSt) (s:(Er×Nat)×PSt):Prop where
 le:s.1.2≤b.length
 go:s.1.1=none→a<s.1.2
 cn:s.2.cells.length≤st.cells.length+1
 ok:(∀c∈st.cells,c.ok)→∀c∈s.2.cells,c.ok
theorem pz_ok (s t:List UInt8) (x:UInt8):Cl.ok ⟨Bv s,Bv t,x⟩:=by
 have h:(10:Nat)^400<4294967296^100:=by decide +kernel
 exact ⟨Nat.lt_trans (OQ s) h,Nat.lt_trans (OQ t) h⟩
theorem V5 {b:List UInt8} {a:Nat} {s rest:List UInt8} (ha:a≤b.length) (h:(BT b a s rest).1=none):(BT b a s rest).2=a+s.length:=by
 unfold BT at h ⊢
 dsimp only at h ⊢
 split at h
 ·cases h
 ·rename_i hc
  unfold VE
  have:=SN (b.drop a) s
  omega
theorem lawP_ok {b:List UInt8} {a:Nat} (ha:a<b.length) (st:PSt):LineP b a st (WS b a st):=by
 unfold WS
 have h1:=GA (s:=G6) (rest:=[97]) (Qa4 ha)
 have h2:=V5 (s:=G6) (rest:=[97]) (Qa4 ha)
 generalize BT b a G6 [97]=M at h1 h2
 obtain ⟨er,c⟩:=M
 dsimp only at h1 h2
 cases er with
 | some e=>exact ⟨h1,fun h=>(by cases h),Qan _,fun h=>h⟩
 | none=>
  have h2:=h2 rfl
  have h3:=rulS_le (rest:=[]) h1
  dsimp only
  generalize Hg b c []=M at h3
  obtain ⟨er,d⟩:=M
  dsimp only at h3
  have:G6.length=3:=rfl
  cases er with
  | some e=>exact ⟨h3.2,fun h=>(by cases h),Qan _,fun h=>h⟩
  | none=>exact ⟨h3.2,fun _=>by dsimp only;omega,Qan _,fun h=>h⟩
theorem placeP_ok {b:List UInt8} {a:Nat} (ha:a<b.length) (st:PSt):LineP b a st (Jt b a st):=by
 unfold Jt
 have h1:=OZ (Qa4 ha) true [32,49]
 generalize C4 b a true [32,49]=M at h1
 obtain ⟨er,c⟩:=M
 dsimp only at h1
 cases er with
 | some e=>exact ⟨h1.2,fun h=>(by cases h),Qan _,fun h=>h⟩
 | none=>
  dsimp only
  have h2:=GA (s:=Ei) (rest:=[49]) h1.2
  have h3:=V5 (s:=Ei) (rest:=[49]) h1.2
  generalize BT b c Ei [49]=M at h2 h3
  obtain ⟨er,d⟩:=M
  dsimp only at h2 h3
  cases er with
  | some e=>exact ⟨h2,fun h=>(by cases h),Qan _,fun h=>h⟩
  | none=>
   have h3:=h3 rfl
   have:Ei.length=1:=rfl
   dsimp only
   have h4:=OZ h2 true []
   generalize C4 b d true []=M at h4
   obtain ⟨er,f⟩:=M
   dsimp only at h4
   cases er with
   | some e=>exact ⟨h4.2,fun h=>(by cases h),Qan _,fun h=>h⟩
   | none=>
    refine ⟨h4.2,fun _=>by dsimp only;omega,by simp,fun h c hc=>?_⟩
    rcases YN.1 hc with q | q
    ·exact h c q
    ·rw [YI.1 q];exact pz_ok _ _ _
theorem lineP_ok {b:List UInt8} {a:Nat} (ha:a<b.length) (st:PSt):LineP b a st (NY b a st):=by
 unfold NY
 split
 ·exact lawP_ok ha st
 ·exact placeP_ok ha st
theorem oneP_ok {b:List UInt8} {a:Nat} (ha:a<b.length) (st:PSt):LineP b a st (FB b a st):=by
 unfold FB WW
 have h:=lineP_ok ha st
 generalize NY b a st=M at h
 obtain ⟨⟨er,c⟩,st'⟩:=M
 obtain ⟨h1,h2,h3,h4⟩:=h
 cases er with
 | some e=>exact ⟨h1,h2,h3,h4⟩
 | none=>
  have:=Ut h1 []
  have:=h2 rfl
  exact ⟨by dsimp only at *;omega,fun _=>by dsimp only at *;omega,h3,h4⟩
theorem XH {b:List UInt8}:∀(k a:Nat) (st:PSt),a≤b.length→(HW b k a st).2.cells.length≤st.cells.length+(b.length-a)∧((∀c∈st.cells,c.ok)→∀c∈(HW b k a st).2.cells,c.ok)
 | 0,a,st,_=>⟨Qas _ _,fun h=>h⟩
 | k+1,a,st,h=>by
  unfold HW
  by_cases he:a=b.length
  ·rw [if_pos he];exact ⟨Qas _ _,fun h=>h⟩
  ·rw [if_neg he]
   have hok:=oneP_ok (show a<b.length by omega) st
   generalize FB b a st=M at hok
   obtain ⟨⟨er,c⟩,st'⟩:=M
   obtain ⟨k1,k2,k3,k4⟩:=hok
   dsimp only at k1 k2 k3 k4 ⊢
   cases er with
   | some e=>exact ⟨by dsimp only;omega,k4⟩
   | none=>
    have ih:=XH (b:=b) k c st' k1
    have:=k2 rfl
    dsimp only
    exact ⟨by omega,fun h=>ih.2 (k4 h)⟩
theorem allP_ok (b:List UInt8) (st:PSt):(MT b st).2.cells.length≤st.cells.length+b.length∧((∀c∈st.cells,c.ok)→∀c∈(MT b st).2.cells,c.ok):=by
 unfold MT
 have hM:=GA (s:=EV) (rest:=[]) (YL b.length)
 generalize BT b 0 EV []=M at hM
 obtain ⟨er,c⟩:=M
 dsimp only at hM
 cases er with
 | some e=>exact ⟨Qas _ _,fun h=>h⟩
 | none=>
  have hle:=Ut hM []
  dsimp only
  generalize GU b c []=M at hle
  obtain ⟨er,d⟩:=M
  cases er with
  | some e=>exact ⟨Qas _ _,fun h=>h⟩
  | none=>
   have:=XH (b:=b) (b.length+1) d st hle.2
   dsimp only
   exact ⟨by omega,this.2⟩
theorem lawP_er (b:List UInt8) (a:Nat) (st:PSt):EL (WS b a st).1.1:=by
 unfold WS
 have:=JJ b a G6 [97]
 generalize BT b a G6 [97]=M at this
 obtain ⟨er,c⟩:=M
 cases er with
 | some e=>exact this
 | none=>
  have:=rulS_er b c []
  dsimp only
  generalize Hg b c []=M at this
  obtain ⟨er,d⟩:=M
  cases er with
  | some e=>exact this
  | none=>exact .none
theorem placeP_er (b:List UInt8) (a:Nat) (st:PSt):EL (Jt b a st).1.1:=by
 unfold Jt
 have:=Un b a true [32,49]
 generalize C4 b a true [32,49]=M at this
 obtain ⟨er,c⟩:=M
 cases er with
 | some e=>exact this
 | none=>
  have:=JJ b c Ei [49]
  dsimp only
  generalize BT b c Ei [49]=M at this
  obtain ⟨er,d⟩:=M
  cases er with
  | some e=>exact this
  | none=>
   have:=Un b d true []
   dsimp only
   generalize C4 b d true []=M at this
   obtain ⟨er,f⟩:=M
   cases er with
   | some e=>exact this
   | none=>exact .none
theorem oneP_er (b:List UInt8) (a:Nat) (st:PSt):EL (FB b a st).1.1:=by
 unfold FB WW NY
 have:EL ((if BI b a [35]=true then WS b a st else Jt b a st)).1.1:=by
  split
  ·exact lawP_er _ _ _
  ·exact placeP_er _ _ _
 generalize (if BI b a [35]=true then WS b a st else Jt b a st)=M at this
 obtain ⟨⟨er,c⟩,st'⟩:=M
 cases er with
 | some e=>exact this
 | none=>exact endS_er _ _ _
theorem XI (b:List UInt8):∀k a st,EL (HW b k a st).1.1
 | 0,a,st=>.none
 | k+1,a,st=>by
  unfold HW
  split
  ·exact .none
  ·have:=oneP_er b a st
   generalize FB b a st=M at this
   obtain ⟨⟨er,c⟩,st'⟩:=M
   cases er with
   | some e=>exact this
   | none=>exact XI b k _ _
theorem allP_er (b:List UInt8) (st:PSt):EL (MT b st).1.1:=by
 unfold MT
 have:=JJ b 0 EV []
 generalize BT b 0 EV []=M at this
 obtain ⟨er,c⟩:=M
 cases er with
 | some e=>exact this
 | none=>
  dsimp only
  have:=endS_er b c []
  generalize GU b c []=M at this
  obtain ⟨er,d⟩:=M
  cases er with
  | some e=>exact this
  | none=>exact XI _ _ _ _
def TG:PSt:=⟨usualL,[]⟩
def N4 (b:List UInt8) (bx N:Int):(List UInt8×List Nd)×Int×Int:=
 if JR bx N then
  match MT b TG with
  | ((some e,c),_)=>(([],[]),(c:Int),e.1)
  | ((none,_),st)=>
   if decide ((HV st.cells).2=0)&&decide (((HV st.cells).1.length:Int)≤N)then ((st.law,(HV st.cells).1),0,0)
   else (([],[]),(b.length:Int),4)
 else (([],[]),0,1)
def XR (b:List UInt8):List UInt8×Bool:=match (MT b ⟨[],[]⟩).1.1 with
 | none=>([],true)
 | some e=>(e.2,decide (e.1=0)||decide (e.1=3))
set_option exponentiation.threshold 5000
theorem UX (n:Nat):Gb (A4 n)=true:=(Qq (Bp n)).2 (JI n)
theorem cut_lims (n:Nat) (tk:Tok) (H:Aa) (hl:(A4 n).length≤1099511627776):Sh.f0 (.sl (enL cU (A4 n)) tk) H=some (.ret (.sl (enL cU (A4 n)) .no),H):=by
 have hr:=p_right (A4 n) tk H hl
 rw [UX]at hr
 unfold Sh.f0
 rw [Dd DU]
 unfold Sh.f1w
 simp only [Al,GMb,GMc,hr,Zi,Ek,forget,Eu,fgt]
theorem w_pow (k:Nat):(4294967296:Nat)^k=2^(32*k):=by
 rw [show (4294967296:Nat)=2^32 from by decide,←Qam]
theorem bl_snoc {l':List Nat} {x:Nat} (hx:Lim (l'++[x])) (h0:x≠0):blN (val (l'++[x]))=32*l'.length+blN x:=by
 have h1:=Gn (l:=l') fun y hy=>hx y (by simp [hy])
 rw [Ci,I4]
 rw [w_pow]at h1 ⊢
 have hp:0<2^(32*l'.length):=Qag (by decide)
 have h2:2^(32*l'.length)≤val l'+2^(32*l'.length)*x:=by
  have:2^(32*l'.length)*1≤2^(32*l'.length)*x:=Qa0 _ (by omega)
  omega
 rw [blN_div h2,QaY _ _ hp,ZD h1,Yy,QaP]
theorem p_len (n:Nat) (tk:Tok) (H:Aa) (hl:(A4 n).length≤1000000):Sh.f3f (.sl (enL cU (A4 n)) tk) H=some (.ret (.int .i64 (blN n:Int)),H):=by
 have hc:=cut_lims n tk H (by omega)
 unfold Sh.f3f
 simp only [GMb,GMc,hc,Aw]
 have hx:=Bp n
 have hn:=(JI n).last
 have hv:=Bx n
 generalize A4 n=l at *
 rcases Ga l with rfl | ⟨l',x,rfl⟩
 ·have:n=0:=hv.symm
  subst this
  simp [blN]
 ·simp only [Y2,List.length_singleton]at hl
  have hx0:x≠0:=hn x (by simp)
  have h1:l'.length<(l'++[x]).length:=by simp
  have h3:IntKind.i64.wrap ((((l'++[x]).length:Nat):Int)-1)=(l'.length:Int):=by rw [Am] <;> simp <;> omega
  have hne:((((l'++[x]).length:Nat):Int) == 0)=false:=by simp;omega
  have hne2:decide ((((l'++[x]).length:Nat):Int)=0)=false:=decide_eq_false (by simp;omega)
  have h4:IntKind.i64.wrap ((l'.length:Int)*32)=((32*l'.length:Nat):Int):=by rw [Am] <;> omega
  have hxl:=hx x (by simp)
  have hb:blN x≤32:=Jo.2 (by simpa using hxl)
  have h5:IntKind.i64.wrap (((32*l'.length:Nat):Int)+(blN x:Int))=(blN n:Int):=by
   rw [←hv,bl_snoc hx hx0,Am] <;> omega
  have hl32:=fun K=>p_len32 hxl K
  simp only [hne,hne2,AM,h3,Ay h1,A9,List.getElem?_cons_zero,Zw (Yz _),YV,List.getElem_cons_zero,GMb,GMc,h4,hl32,h5]
theorem limb_at {l:List Nat} (hx:Lim l) {q:Nat} (hq:q<l.length):l[q]=val l / 2^(32*q)%4294967296:=by
 have e:l=l.take q++(l[q]::l.drop (q+1)):=by rw [←YS hq,Zk]
 have h1:=Gn (l:=l.take q) fun y hy=>hx y (Z1 hy)
 have h2:=hx l[q] (Y8 hq)
 have hv:val l=val (l.take q)+4294967296^q*(l[q]+4294967296*val (l.drop (q+1))):=by
  conv=>lhs;rw [e]
  rw [Ci,YC,Zr (by omega)]
  rfl
 rw [YC,Zr (by omega)]at h1
 have hp:0<4294967296^q:=Qag (by decide)
 rw [hv,←w_pow,QaY _ _ hp,ZD h1,Yy,Nat.add_mul_mod_self_left,Zq h2]
theorem shr_u32i (x k:Nat) (hk:k≤32):Ae .none .shr (.int .u32 (x:Int)) (.int .i64 (k:Int))=some (.int .u32 ((x / 2^k:Nat):Int)):=shr_u32 x k hk
theorem and_one {x:Nat} (hx:x<4294967296):Ae .none .and (.int .u32 (x:Int)) (.int .u32 1)=some (.int .u32 ((x%2:Nat):Int)):=by
 have h:=(Km (BitVec.ofNat 32 x) (BitVec.ofNat 32 1)).1
 rw [BitVec.toNat_and,ZK,ZK,Zq hx,Zq (by decide),Nat.and_one_is_mod]at h
 rw [OB .and rfl _ _ (fun _ _ _=>rfl)]
 exact h
theorem p_bit (n i:Nat) (tk:Tok) (H:Aa) (hl:(A4 n).length≤1000000) (hi:i<1000000):Sh.f27 (.sl (enL cU (A4 n)) tk) (.int .i64 (i:Int)) H=some (.ret (.bool (n.testBit i)),H):=by
 have d0:decide ((i:Int)≥0)=true:=decide_eq_true (by omega)
 have hq:Ae .none .quo (.int .i64 (i:Int)) (.int .i64 32)=some (.int .i64 ((i / 32:Nat):Int)):=by
  show some (Ab.int .i64 (IntKind.i64.wrap (((i / 32:Nat):Int))))=_
  rw [Am (by omega) (by omega)]
 have hrm:Ae .none .rem (.int .i64 (i:Int)) (.int .i64 32)=some (.int .i64 ((i%32:Nat):Int)):=rfl
 unfold Sh.f27
 by_cases h:i / 32<(A4 n).length
 ·have d1:decide (((i / 32:Nat):Int)<((A4 n).length:Int))=true:=decide_eq_true (by omega)
  have hx:=Bp n _ (Y8 h)
  have ha:=limb_at (Bp n) h
  rw [Bx]at ha
  have hs:=shr_u32i (A4 n)[i / 32] (i%32) (by omega)
  have han:=and_one (x:=(A4 n)[i / 32] / 2^(i%32)) (Zm (Nat.div_le_self _ _) hx)
  have ht:((((A4 n)[i / 32] / 2^(i%32)%2:Nat):Int) == 1)=n.testBit i:=by
   have e1:n.testBit i=(A4 n)[i / 32].testBit (i%32):=by
    rw [ha,show (4294967296:Nat)=2^32 from by decide,Nat.testBit_mod_two_pow,Nat.testBit_div_two_pow,decide_eq_true (show i%32<32 by omega),Zu,show i%32+32*(i / 32)=i by omega]
   rw [e1,ZO]
   generalize (A4 n)[i / 32] / 2^(i%32)%2=z
   rw [YD];simp;omega
  simp only [GMb,GMc,d0,hq,Aw,d1,Ay h,A9,List.getElem?_cons_zero,hrm,hs,han,ht]
 ·have d1:decide (((i / 32:Nat):Int)<((A4 n).length:Int))=false:=decide_eq_false (by omega)
  have h1:=Gn (Bp n)
  rw [Bx,w_pow]at h1
  have hf:n.testBit i=false:=Nat.testBit_lt_two_pow (Zs h1 (YT (by decide) (by omega)))
  simp only [GMb,GMc,d0,hq,Aw,d1,hf]
theorem p_need {z:Int} (H:Aa) (hz:LB z) (hl:z.natAbs<4294967296^100):Sh.f26 (big z) H=some (.ret (.int .i64 ((1+blN (if z<0 then z.natAbs-1 else z.natAbs):Nat):Int)),H):=by
 have key:∀w:Nat,w≤z.natAbs→(A4 w).length≤1000000:=fun w hw=>YJ (ES (Zm hw hl)) (by decide)
 have hbl:∀w:Nat,w≤z.natAbs→IntKind.i64.wrap (1+(blN w:Int))=((1+blN w:Nat):Int):=fun w hw=>by
  have:blN w≤32*100:=Jo.2 (Zm hw (by rw [w_pow]at hl;exact hl))
  rw [Am] <;> omega
 have one:∀K,Sh.f24 (.int .i64 1) K=some (.ret (big 1),K):=fun K=>p_of 1 K (by decide) (by decide)
 have l1:LB 1:=by unfold LB;exact YJ (ES (k:=1) (by decide)) (by decide)
 unfold Sh.f26 Sh.f81
 by_cases h:z<0
 ·have e:(-z-1).natAbs=z.natAbs-1:=by omega
  have hs:=fun K=>p_subB K hz.neg l1
  have hln:=fun K=>p_len (z.natAbs-1) .no K (key _ (by omega))
  have hb:=hbl (z.natAbs-1) (by omega)
  simp [DC,h,AH,p_minus,one,hs,e,hln,hb]
 ·have hln:=fun K=>p_len z.natAbs .no K (key _ (by omega))
  have hb:=hbl z.natAbs (by omega)
  simp [DC,h,AH,hln,hb]
def Rb (z:Int):Nat:=1+blN (if z<0 then z.natAbs-1 else z.natAbs)
theorem ipow (w:Nat):(2:Int)^w=((2^w:Nat):Int):=by simp
theorem inZ_need {v:Nat} {z:Int} (h:1≤v):inZ v z=decide (Rb z≤v):=by
 have hp:0<2^(v-1):=Qag (by decide)
 have key:∀u,1+blN u≤v↔u<2^(v-1):=fun u=>by rw [←Jo];omega
 unfold inZ Rb
 rw [YD]
 simp only [Y7,decide_eq_true_eq,ipow,key]
 generalize 2^(v-1)=P at *
 by_cases hz:z<0
 ·rw [if_pos hz];omega
 ·rw [if_neg hz];omega
def Ti (c:Cl):Nat:=max (Rb c.x) (Rb c.y)
theorem within_need {v:Nat} {c:Cl} (h:1≤v):EH v c=decide (Ti c≤v):=by
 unfold EH Ti
 rw [inZ_need h,inZ_need h,YD]
 simp only [Y7,decide_eq_true_eq]
 omega
theorem XD:∀f v c,1≤v→IX f v c=max v (min (Ti c) (v+f))
 | 0,v,c,h=>by unfold IX;omega
 | f+1,v,c,h=>by
  unfold IX
  rw [within_need h]
  by_cases q:Ti c≤v
  ·rw [if_pos (decide_eq_true q)];omega
  ·rw [if_neg (by simpa using q),XD f (v+1) c (by omega)];omega
def mxN:List Cl→Nat
 | []=>0
 | c::l=>max (Ti c) (mxN l)
theorem fold_lv:∀(l:List Cl) (v:Nat),1≤v→v≤1330→l.foldl (fun v c=>IX (1330-v) v c) v=max v (min 1330 (mxN l))
 | [],v,h1,h2=>by simp only [List.foldl_nil,mxN];omega
 | c::l,v,h1,h2=>by
  have h:=XD (1330-v) v c h1
  rw [List.foldl_cons,fold_lv l _ (by omega) (by omega),h]
  simp only [mxN]
  omega
def En (l:List Cl):Nat→Nat
 | 0=>1
 | i+1=>match l[i]? with | some c=>max (En l i) (Ti c) | none=>En l i
theorem Sk (l:List Cl):∀i,En l i=max 1 (mxN (l.take i))
 | 0=>rfl
 | i+1=>by
  have hs:∀(m:List Cl) (c:Cl),mxN (m++[c])=max (mxN m) (Ti c):=fun m c=>by
   induction m with
   | nil=>simp only [List.nil_append,mxN];omega
   | cons d m ih=>simp only [List.cons_append,mxN,ih];omega
  unfold En
  rw [Sk l i]
  rcases Zf i l.length with h | h
  ·rw [Yu h,Y5 h,hs]
   dsimp only;omega
  ·rw [YA h,Y6 (show l.length≤i+1 by omega),Y6 h]
theorem levelOf_need (l:List Cl):Bh l=min 1330 (En l l.length):=by
 unfold Bh
 rw [fold_lv l 1 (by omega) (by omega),Sk,YY]
 omega
structure Sp where
 a:Nat
 b:Nat
 s:UInt8
def cSp (p:Sp):List Ab:=[.sl (enL cU (A4 p.a)) .no,.sl (enL cU (A4 p.b)) .no,.int .u8 (p.s.toNat:Int)]
instance:Sz cSp 3:=⟨fun _=>rfl⟩
def spot (h:Int) (c:Cl):Sp:=⟨(c.x+h).toNat,(c.y+h).toNat,c.s⟩
def qOf (v:Nat) (p:Sp):Nat:=(if p.a.testBit v then 1 else 0)+(if p.b.testBit v then 2 else 0)
def qSp (v k:Nat) (S:List Sp):List Sp:=S.filter fun p=>decide (qOf v p=k)
def headP:List Sp→Int
 | []=>0
 | p::_=>(p.s.toNat:Int)
def lyK (rec:List Nd→List Sp→List Nd×Nat) (v:Nat) (S:List Sp):Nat→List Nd→List Nd×Nd
 | 0,out=>(out,⟨((v+1:Nat):Int),0,0,0,0⟩)
 | k+1,out=>
  if v=0 then ((lyK rec v S k out).1,(lyK rec v S k out).2.setKid k (headP (qSp v k S)))
  else ((rec (lyK rec v S k out).1 (qSp v k S)).1,(lyK rec v S k out).2.setKid k ((rec (lyK rec v S k out).1 (qSp v k S)).2:Int))
def Ed:Nat→List Nd→List Sp→List Nd×Nat
 | 0,out,_=>(out,0)
 | v+1,out,S=>if S=[]then (out,0)else ((lyK (Ed v) v S 4 out).1++[(lyK (Ed v) v S 4 out).2],(lyK (Ed v) v S 4 out).1.length+1)
theorem bit_hi {A X v m:Nat} (hX:X=2^(v+1)*m) (h1:X≤A) (h2:A<X+2^(v+1)):A.testBit v=decide (X+2^v≤A):=by
 have hp:0<2^v:=Qag (by decide)
 have e:2^(v+1)=2^v*2:=Nat.pow_succ _ _
 obtain ⟨r,rfl⟩:∃r,A=X+r:=⟨A-X,by omega⟩
 rw [ZO,hX,e,ZR,Nat.mul_add_div hp,Nat.mul_add_mod]
 have hr:r<2^v*2:=by omega
 by_cases q:2^v≤r
 ·have:r / 2^v=1:=by
   rw [show r=2^v*1+(r-2^v)by omega,Nat.mul_add_div hp,ZD (by omega)]
  rw [this,YD];simp;omega
 ·rw [ZD (by omega),YD];simp;omega
theorem quart_bit {v k:Nat} {x y h:Int} {X Y m n:Nat} {c:Cl} (hk:k<4) (hx:(X:Int)=x+h) (hy:(Y:Int)=y+h) (hX:X=2^(v+1)*m) (hY:Y=2^(v+1)*n) (hc:InSq (v+1) x y c) :
  inQ (v+1) (qa (v+1) x k) (qb (v+1) y k) c=decide (qOf v (spot h c)=k):=by
 obtain ⟨c1,c2,c3,c4⟩:=hc
 have e:(2:Int)^(v+1)=((2^(v+1):Nat):Int):=ipow _
 rw [e]at c2 c4
 have b1:=bit_hi (A:=(c.x+h).toNat) hX (by omega) (by omega)
 have b2:=bit_hi (A:=(c.y+h).toNat) hY (by omega) (by omega)
 have e2:2^(v+1)=2^v*2:=Nat.pow_succ _ _
 rw [e2]at c2 c4
 unfold qOf spot
 dsimp only
 rw [b1,b2]
 unfold inQ qa qb
 rw [YM,ipow]
 generalize 2^v=P at *
 clear hX hY b1 b2 e e2
 have t1:(X+P≤(c.x+h).toNat)↔x+P≤c.x:=by omega
 have t2:(Y+P≤(c.y+h).toNat)↔y+P≤c.y:=by omega
 simp only [t1,t2,decide_eq_true_eq]
 rw [YD]
 simp only [Y7,decide_eq_true_eq]
 by_cases q1:x+P≤c.x
 ·by_cases q2:y+P≤c.y
  ·rw [if_pos q1,if_pos q2]
   match k,hk with
   | 0,_=>simp;omega
   | 1,_=>simp;omega
   | 2,_=>simp;omega
   | 3,_=>simp;omega
  ·rw [if_pos q1,if_neg q2]
   match k,hk with
   | 0,_=>simp;omega
   | 1,_=>simp;omega
   | 2,_=>simp;omega
   | 3,_=>simp;omega
 ·by_cases q2:y+P≤c.y
  ·rw [if_neg q1,if_pos q2]
   match k,hk with
   | 0,_=>simp;omega
   | 1,_=>simp;omega
   | 2,_=>simp;omega
   | 3,_=>simp;omega
  ·rw [if_neg q1,if_neg q2]
   match k,hk with
   | 0,_=>simp;omega
   | 1,_=>simp;omega
   | 2,_=>simp;omega
   | 3,_=>simp;omega
theorem head_spot (h:Int) (l:List Cl):headP (l.map (spot h))=headS l:=by cases l <;> rfl
theorem qSp_spot {v k:Nat} {x y h:Int} {X Y m n:Nat} {l:List Cl} (hk:k<4) (hx:(X:Int)=x+h) (hy:(Y:Int)=y+h) (hX:X=2^(v+1)*m) (hY:Y=2^(v+1)*n) (hc:∀c∈l,InSq (v+1) x y c) :
  qSp v k (l.map (spot h))=(EC (v+1) x y k l).map (spot h):=by
 unfold qSp EC
 rw [List.filter_map]
 congr 1
 refine List.filter_congr fun c hcl=>?_
 exact (quart_bit hk hx hy hX hY (hc c hcl)).symm
theorem XK {h:Int}:∀(v:Nat) (out:List Nd) (x y:Int) (l:List Cl) (X Y m n:Nat),(X:Int)=x+h→(Y:Int)=y+h→X=2^v*m→Y=2^v*n→(∀c∈l,InSq v x y c)→Ed v out (l.map (spot h))=Bl v out x y l
 | 0,out,x,y,l,X,Y,m,n,_,_,_,_,_=>rfl
 | v+1,out,x,y,l,X,Y,m,n,hx,hy,hX,hY,hc=>by
  have e2:2^(v+1)=2^v*2:=Nat.pow_succ _ _
  have key:∀k,k≤4→lyK (Ed v) v (l.map (spot h)) k out=plK (Bl v) (v+1) x y l k out:=by
   intro k
   induction k with
   | zero=>intro _;rfl
   | succ k ih=>
    intro hk
    have hq:=qSp_spot (k:=k) (by omega) hx hy hX hY hc
    unfold lyK plK
    rw [ih (by omega),hq,head_spot]
    by_cases h0:v=0
    ·rw [if_pos h0,if_pos (by omega)]
    ·rw [if_neg h0,if_neg (by omega)]
     have hrec:=XK (h:=h) v (plK (Bl v) (v+1) x y l k out).1 (qa (v+1) x k) (qb (v+1) y k) (EC (v+1) x y k l)
      (if k%2=1 then X+2^v else X) (if 1<k then Y+2^v else Y) (if k%2=1 then m*2+1 else m*2) (if 1<k then n*2+1 else n*2)
      (by unfold qa;rw [YM,ipow];split <;> omega) (by unfold qb;rw [YM,ipow];split <;> omega)
      (by rw [hX,e2];split <;> (simp only [Zz,YB,ZR,Z5 2 m])) (by rw [hY,e2];split <;> (simp only [Zz,YB,ZR,Z5 2 n]))
      (fun c hc=>quart_in hc)
     rw [hrec]
  unfold Ed Bl
  rw [key 4 (by omega)]
  by_cases h0:l=[]
  ·rw [if_pos (by rw [h0];rfl),if_pos h0]
  ·rw [if_neg (by simpa using h0),if_neg h0]
theorem c05_kid {L:List Nd} {tk:Tok} {i:Nat} (hi:i<L.length) (h1:1≤L[i].lv) (h2:L[i].lv≤1329) (c:Int) (H:Aa) (hL:L.length<1152921504606846976):Sh.f3j (.sl (enL cNd L) tk) (.int .i64 (i:Int)) (.int .i64 c) H=some (.ret (.bool (Da L i L[i] c)),H):=by
 unfold Sh.f3j
 simp only [GMb,GMc,HPa,HPc,HPd,HPe,HPz,Nat.reduceAdd,Nat.reduceLT,Ay hi,Jg,BY,FN,Fd,FF]
 generalize L[i]=x at h1 h2
 by_cases hc:c=0
 ·have:Da L i x c=true:=by
   unfold Da
   simp only [Y7,decide_eq_true_eq];exact ⟨⟨by omega,fun _=>by omega⟩,fun _ h=>by omega⟩
  rw [this]
  simp only [hc,GMb,GMc,HPa,HPc,HPd,HPe,HPz,Nat.reduceAdd,Nat.reduceLT]
 ·simp only [hc,GMb,GMc,HPa,HPc,HPd,HPe,HPz,Nat.reduceAdd,Nat.reduceLT,BY]
  by_cases hl:x.lv=1
  ·have:Da L i x c=(decide (c>0)&&decide (c≤255)):=by
    unfold Da
    rw [YD];simp only [Y7,decide_eq_true_eq]
    exact ⟨fun h=>⟨by omega,h.1.2 hl⟩,fun h=>⟨⟨by omega,fun _=>h.2⟩,fun h'=>by omega⟩⟩
   rw [this]
   by_cases h0:c>0
   ·simp only [hl,h0,GMb,GMc,HPa,HPc,HPd,HPe,HPz,Nat.reduceAdd,Nat.reduceLT]
   ·simp only [hl,h0,GMb,GMc,HPa,HPc,HPd,HPe,HPz,Nat.reduceAdd,Nat.reduceLT]
  ·simp only [hl,GMb,GMc,HPa,HPc,HPd,HPe,HPz,Nat.reduceAdd,Nat.reduceLT]
   by_cases h0:c>0
   ·by_cases hci:c≤(i:Int)
    ·obtain ⟨m,rfl⟩:∃m:Nat,c=((m+1:Nat):Int):=⟨(c-1).toNat,by omega⟩
     have hm:m<L.length:=by omega
     have hw:IntKind.i64.wrap (((m+1:Nat):Int)-1)=(m:Int):=by rw [Am] <;> omega
     have hw2:IntKind.i64.wrap (x.lv-1)=x.lv-1:=Am (by omega) (by omega)
     have:Da L i x ((m+1:Nat):Int)=decide (L[m].lv=x.lv-1):=by
      unfold Da
      rw [YD];simp only [Y7,decide_eq_true_eq,show (((m+1:Nat):Int)-1).toNat=m by omega,Yu hm,Y3]
      exact ⟨fun h=>(h.2 (by omega) h0).2 _ rfl,fun h=>⟨⟨by omega,fun h'=>absurd h' hl⟩,fun _ _=>⟨hci,fun y e=>by rw [←e];exact h⟩⟩⟩
     rw [this]
     simp only [h0,hci,GMb,GMc,HPa,HPc,HPd,HPe,HPz,Nat.reduceAdd,Nat.reduceLT,hw,hw2,Ay hm,An,A9,BY]
    ·have:Da L i x c=false:=by
      unfold Da
      rw [ZL];right
      rw [decide_eq_false_iff_not];intro h;exact hci (h (by omega) h0).1
     rw [this]
     simp only [h0,hci,GMb,GMc,HPa,HPc,HPd,HPe,HPz,Nat.reduceAdd,Nat.reduceLT]
   ·have:Da L i x c=false:=by
     unfold Da
     rw [ZL,ZL];left;left
     rw [decide_eq_false_iff_not];omega
    rw [this]
    simp only [h0,GMb,GMc,HPa,HPc,HPd,HPe,HPz,Nat.reduceAdd,Nat.reduceLT]
theorem c05_loose (L:List Nd) (tk:Tok) (H:Aa) (hL:L.length<1152921504606846976):Sh.f3k (.sl (enL cNd L) tk) H=some (.ret (.bool (AU L)),H):=by
 unfold Sh.f3k
 rw [show AU L=(List.range L.length).all (G0 L) from rfl]
 simp only [GMb,GMc,HPa,HPc,HPd,HPe,HPz,Nat.reduceAdd,Nat.reduceLT,Aw]
 have key:∀(d i:Nat) (G:Aa),i+d=L.length→(∀j,j<i→G0 L j=true)→∀n,d<n→Ao (fun rec1 vs H1=>Sh.f2a H rec1 (ag vs 0) (ag vs 1) (ag vs 2) (ag vs 3) H1) n [.sl (enL cNd L) tk,.sl (enL cNd L) tk,.int .i64 (L.length:Int),.int .i64 (i:Int)] (H++G)=some (.ret (.bool ((List.range L.length).all (G0 L))),H):=by
  intro d
  induction d with
  | zero=>
   intro i G hi hall n hn
   obtain ⟨n,rfl⟩:∃k,n=k+1:=⟨n-1,by omega⟩
   have:(List.range L.length).all (G0 L)=true:=by
    rw [YH];intro j hj;exact hall j (by have:=QaZ.1 hj;omega)
   rw [Cw,this]
   generalize Ao (fun rec1 vs H1=>Sh.f2a H rec1 (ag vs 0) (ag vs 1) (ag vs 2) (ag vs 3) H1) n=rec
   unfold Sh.f2a
   have hi':¬(i:Int)<(L.length:Int):=by omega
   simp only [GMb,GMc,HPa,HPc,HPd,HPe,HPz,Nat.reduceAdd,Nat.reduceLT,hi']
  | succ d ih=>
   intro i G hi hall n hn
   obtain ⟨n,rfl⟩:∃k,n=k+1:=⟨n-1,by omega⟩
   have hlt:i<L.length:=by omega
   have hi':(i:Int)<(L.length:Int):=by omega
   rw [Cw]
   have hno:G0 L i=false→(List.range L.length).all (G0 L)=false:=fun h=>by rw [Qae];exact ⟨i,by simpa using hlt,by simp [h]⟩
   have hyes:G0 L i=true→∀G',Ao (fun rec1 vs H1=>Sh.f2a H rec1 (ag vs 0) (ag vs 1) (ag vs 2) (ag vs 3) H1) n [.sl (enL cNd L) tk,.sl (enL cNd L) tk,.int .i64 (L.length:Int),.int .i64 ((i+1:Nat):Int)] (H++G')=some (.ret (.bool ((List.range L.length).all (G0 L))),H):=fun h G'=>ih (i+1) G' (by omega) (fun j hj=>by
    by_cases e:j=i
    ·rw [e];exact h
    ·exact hall j (by omega)) n (by omega)
   generalize Ao (fun rec1 vs H1=>Sh.f2a H rec1 (ag vs 0) (ag vs 1) (ag vs 2) (ag vs 3) H1) n=rec at hyes
   unfold Sh.f2a
   have hg:L[i]? = some L[i]:=Yu hlt
   simp only [GMb,GMc,HPa,HPc,HPd,HPe,HPz,Nat.reduceAdd,Nat.reduceLT,Ai,hi',Ay hlt,Jg,BY,FN,Fd,FF]
   by_cases h1:L[i].lv<1
   ·have:G0 L i=false:=by simp only [G0,hg];simp;intro;omega
    rw [hno this]
    simp only [h1,GMb,GMc,HPa,HPc,HPd,HPe,HPz,Nat.reduceAdd,Nat.reduceLT]
   ·by_cases h2:L[i].lv>1329
    ·have:G0 L i=false:=by simp only [G0,hg];simp;intro;omega
     rw [hno this]
     simp only [h1,h2,GMb,GMc,HPa,HPc,HPd,HPe,HPz,Nat.reduceAdd,Nat.reduceLT,BY,FN,Fd,FF]
    ·have hd:G0 L i=(List.range 4).all fun k=>Da L i L[i] (L[i].kid k):=by
      simp only [G0,hg];rw [decide_eq_true (by omega)];rfl
     simp only [h1,h2,GMb,GMc,HPa,HPc,HPd,HPe,HPz,Nat.reduceAdd,Nat.reduceLT,BY,FN,Fd,FF]
     have:=FD 4 (fun k=>Da L i L[i] (L[i].kid k)) (fun k=>[.sl (enL cNd L) tk,.int .i64 (i:Int),.sl (enL cNd L) tk,.int .i64 (L.length:Int),.int .i64 (i:Int),.agg (Jh L[i]),.int .i64 (k:Int)]) (H++(G++[.cel 0 (cNd L[i])])) (rec [.sl (enL cNd L) tk,.sl (enL cNd L) tk,.int .i64 (L.length:Int),.int .i64 ((i+1:Nat):Int)] (H++(G++[.cel 0 (cNd L[i])]))) (some (.ret (.bool false),H)) (by decide) (fun rec2 k hk=>?_) (fun rec2=>?_)
      (G:=fun rec2 vs H1=>Sh.f5s H rec rec2 (ag vs 0) (ag vs 1) (ag vs 2) (ag vs 3) (ag vs 4) (ag vs 5) (ag vs 6) H1)
     ·refine this.trans ?_
      rw [←hd]
      cases hb:G0 L i with
      | true=>simp only [if_true];exact hyes hb _
      | false=>simp only [Y4,if_false];rw [hno hb]
     ·have hk':(k:Int)<4:=by omega
      unfold Sh.f5s
      simp only [GMb,GMc,HPa,HPc,HPd,HPe,HPz,Nat.reduceAdd,Nat.reduceLT,Ai,hk',ag_kid _ hk,c05_kid hlt (by omega) (by omega) (L[i].kid k) _ hL]
      cases Da L i L[i] (L[i].kid k)with
      | true=>simp only [GMb,GMc,HPa,HPc,HPd,HPe,HPz,Nat.reduceAdd,Nat.reduceLT,Av (show k<9223372036854775807 by omega),if_true]
      | false=>simp only [GMb,GMc,HPa,HPc,HPd,HPe,HPz,Nat.reduceAdd,Nat.reduceLT,Y4,if_false]
     ·unfold Sh.f5s
      simp only [GMb,GMc,HPa,HPc,HPd,HPe,HPz,Nat.reduceAdd,Nat.reduceLT,Ai,show ¬(((4:Nat):Int)<4) from by decide,Av (show i<9223372036854775807 by omega)]
 have:=key L.length 0 [] (by omega) (fun j hj=>by omega) AK (by rw [Dg];exact hL)
 rw [YP]at this
 exact this
def SE (F:List Bool) (x:Nd) (k:Nat):Bool:=!decide (x.kid k=0)&&(decide (x.lv=1)||F.getD (x.kid k).toNat false)
def fulS (F:List Bool) (x:Nd):Bool:=(List.range 4).any (SE F x)
theorem ful_emp {E:List Bool} {x:Nd} (h1:1≤x.lv) (hE:∀k,k<4→1<x.lv→(x.kid k).toNat<E.length):fulS (E.map (!·)) x = !R0 E x:=by
 unfold fulS R0
 have each:∀k,k<4→SE (E.map (!·)) x k = !(decide (x.kid k=0)||(decide (1<x.lv)&&E.getD (x.kid k).toNat true)):=by
  intro k hk
  unfold SE
  by_cases hl:x.lv=1
  ·have:¬1<x.lv:=by omega
   simp [hl]
  ·have hl1:1<x.lv:=by omega
   have:=hE k hk hl1
   simp [hl,hl1,Y0,Yu this]
 show ((SE _ x 0||(SE _ x 1||(SE _ x 2||(SE _ x 3||false))))) = !(_&&(_&&(_&&(_&&true))))
 rw [each 0 (by omega),each 1 (by omega),each 2 (by omega),each 3 (by omega)]
 simp only [Bool.not_and,Zi]
theorem c05_full1 {H:Aa} {pn po q m:Nat} {x:Nd} {F:List Bool} (hn:H[pn]? = some (.cel 0 (cNd x))) (ho:H[po]? = some (.cel 0 [.ms q 0 0 m m 1 true])) (hq:H[q]? = some (.cel 0 (flat cB F))) (hm:F.length=m) {k:Nat} (hk:k<4) (h0:0≤x.kid k) (hb:x.lv≠1→x.kid k≠0→(x.kid k).toNat<m) :
  Sh.f4y (.int .i64 (x.kid k)) (.ptr pn 0 0) (.ptr po 0 0) H=some (.ret (.bool (SE F x k)),H):=by
 have l1:=VC hn
 have l2:=CR (o:=0) (sz:=1) ho
 unfold Sh.f4y SE
 by_cases hc:x.kid k=0
 ·simp only [hc,GMb,GMc,HPa,HPc,HPd,HPe,HPz,Nat.reduceAdd,Nat.reduceLT]
 ·by_cases hl:x.lv=1
  ·simp only [hc,hl,l1,GMb,GMc,HPa,HPc,HPd,HPe,HPz,Nat.reduceAdd,Nat.reduceLT]
  ·have hlt:=hb hl hc
   obtain ⟨c,hcc⟩:∃c:Nat,x.kid k=(c:Int):=⟨(x.kid k).toNat,by omega⟩
   rw [hcc,Int.toNat_natCast]at hlt
   have hi:=CJ (sz:=1) (id:=q) (g:=0) (off:=0) (n:=m) (cap:=m) (ex:=true) (K:=.i64) hlt
   have hld:=Ih (f:=cB) (l:=F) (AE hq) (show c<F.length by omega)
   simp only [Yy,YB]at hi
   rw [hcc]at hc ⊢
   simp only [hc,hl,l1,l2,GMb,GMc,HPa,HPc,HPd,HPe,HPz,Nat.reduceAdd,Nat.reduceLT,hi,hld,Int.toNat_natCast,Y0,Yu (show c<F.length by omega),Option.getD_some,List.getElem?_cons_zero]
theorem c05_any {H:Aa} {pn po q m:Nat} {x:Nd} {F:List Bool} (hn:H[pn]? = some (.cel 0 (cNd x))) (ho:H[po]? = some (.cel 0 [.ms q 0 0 m m 1 true])) (hq:H[q]? = some (.cel 0 (flat cB F))) (hm:F.length=m) (h0:∀k,k<4→0≤x.kid k) (hb:∀k,k<4→x.lv≠1→x.kid k≠0→(x.kid k).toNat<m) :
  Sh.f3m (.ms pn 0 1 4 4 1 true) (.fn 238 [.ptr pn 0 0,.ptr po 0 0]) H=some (.ret (.bool (fulS F x)),H):=by
 unfold Sh.f3m Sh.f4z
 simp only [GMb,GMc,len_ms,show ((4:Nat):Int)=4 from rfl]
 have key:=Q3 (G:=fun rec1 vs H1=>Sh.f5t H rec1 (ag vs 0) (ag vs 1) (ag vs 2) (ag vs 3) H1) 4 (SE F x) (fun k=>[.ms pn 0 1 4 4 1 true,.fn 238 [.ptr pn 0 0,.ptr po 0 0],.int .i64 4,.int .i64 (k:Int)]) H (some (.ret (.int .i64 (-1)),H)) (fun k=>some (.ret (.int .i64 (k:Int)),H)) (by decide) (fun rec k hk=>?_) (fun rec=>?_)
 ·rw [show (((0:Nat):Int))=0 from rfl]at key
  rw [key]
  cases hf:(List.range 4).find? (SE F x)with
  | none=>
   have:fulS F x=false:=by
    unfold fulS
    rw [List.any_eq_false]
    intro k hk
    exact Qal.1 hf k hk
   simp only [GMb,GMc,this,show decide ((-1:Int)≥0)=false from by decide]
  | some k=>
   have:fulS F x=true:=by
    unfold fulS
    rw [List.any_eq_true]
    exact ⟨k,List.mem_of_find?_eq_some hf,List.find?_some hf⟩
   simp only [GMb,GMc,this,show decide ((k:Int)≥0)=true from by simp]
 ·have hk':(k:Int)<4:=by omega
  have hi:=CJ (sz:=1) (id:=pn) (g:=0) (off:=1) (n:=4) (cap:=4) (ex:=true) (K:=.i64) hk
  have hld:=XG hn hk
  have hfull:=c05_full1 hn ho hq hm hk (h0 k hk) (hb k hk)
  simp only [YB]at hi
  unfold Sh.f5t C8
  simp only [GMb,GMc,Ai,hk',hi,hld,D6,ent,if_true,List.cons_append,List.nil_append,ap3,hfull]
  cases SE F x k with
  | true=>simp only [GMb,GMc,if_true]
  | false=>simp only [GMb,GMc,Y4,if_false,Av (show k<9223372036854775807 by omega)]
 ·unfold Sh.f5t
  simp only [GMb,GMc,Ai,show ¬(((4:Nat):Int)<4) from by decide]
theorem map_take_not (L:List Nd) (i:Nat) (hi:i<L.length):((AC (L.take i)).map (!·)++List.replicate (L.length-i) false).set (i+1) (!R0 (AC (L.take i)) L[i])=(AC (L.take (i+1))).map (!·)++List.replicate (L.length-(i+1)) false:=by
 have hl:((AC (L.take i)).map (!·)).length=i+1:=by rw [Zx,D0,YC];omega
 rw [YR _ _ (by omega),hl,YV,Yf L hi,List.map_append,show L.length-i=(L.length-(i+1))+1 by omega,List.replicate_succ,List.set_cons_zero,Y1]
 rfl
theorem c05_full (L:List Nd) (tk:Tok) (H:Aa) (hL:L.length<140737488355327) (hl:AU L=true):Sh.f1o (.sl (enL cNd L) tk) H=some (.ret (.sl (enL cB ((AC L).map (!·))) .no),H):=by
 have hmk:=Fo (f:=cB) (a:=false) (n:=L.length+1) (bytes:=1) (H:=H) (by omega) (by omega)
 unfold Sh.f1o
 simp only [Aw,GMb,GMc,HPa,HPc,HPd,HPe,HPz,Nat.reduceAdd,Nat.reduceLT,Av (show L.length<9223372036854775807 by omega),hmk]
 have key:=Bk (G:=fun rec1 vs H1=>Sh.f7g H rec1 (ag vs 0) (ag vs 1) (ag vs 2) (ag vs 3) H1) (σ:=Nat×Aa) (fun s=>s.1≤L.length)
  (fun s=>[.ptr (H.length+1) 0 0,.sl (enL cNd L) tk,.int .i64 (L.length:Int),.int .i64 (s.1:Int)]) (fun s=>H++(.cel 0 (flat cB ((AC (L.take s.1)).map (!·)++List.replicate (L.length-s.1) false))::.cel 0 [.ms H.length 0 0 (L.length+1) (L.length+1) 1 true]::s.2)) (fun s=>L.length-s.1)
  (fun _=>some (.ret (.sl (enL cB ((AC L).map (!·))) .no),H)) (fun s rec hs hrec=>?_) (0,[]) (YL _) (by dsimp only;omega)
 ·rw [List.take_zero]at key
  have e:(AC []).map (!·)++List.replicate (L.length-0) false=List.replicate (L.length+1) false:=by simp [AC,List.replicate_succ]
  rw [e]at key
  exact key
 ·obtain ⟨i,G⟩:=s
  dsimp only at hs hrec ⊢
  unfold Sh.f7g
  by_cases hi:i<L.length
  ·have hi':(i:Int)<(L.length:Int):=by omega
   obtain ⟨l1,l2,l3⟩:=AP hl hi
   have hElen:(AC (L.take i)).length=i+1:=by rw [D0,YC];omega
   have hFlen:((AC (L.take i)).map (!·)++List.replicate (L.length-i) false).length=L.length+1:=by rw [Y2,Zx,hElen,Qar];omega
   have hfs:fulS ((AC (L.take i)).map (!·)++List.replicate (L.length-i) false) L[i] = !R0 (AC (L.take i)) L[i]:=by
    rw [←ful_emp l1 (fun k hk h1=>by
     obtain ⟨q1,q2,q3⟩:=l3 k hk
     rw [hElen]
     by_cases h0:0<L[i].kid k
     ·have:=(q3 h1 h0).1;omega
     ·omega)]
    unfold fulS SE
    congr 1
    funext k
    by_cases hlv:L[i].lv=1
    ·simp [hlv]
    ·by_cases hk:k<4
     ·obtain ⟨q1,q2,q3⟩:=l3 k hk
      have:(L[i].kid k).toNat<((AC (L.take i)).map (!·)).length:=by
       rw [Zx,hElen]
       by_cases h0:0<L[i].kid k
       ·have:=(q3 (by omega) h0).1;omega
       ·omega
      rw [Y0,Yx this,Y0]
     ·have e3:L[i].kid k=L[i].kid 3:=by
       match k,hk with
       | 0,h=>exact absurd (by decide) h
       | 1,h=>exact absurd (by decide) h
       | 2,h=>exact absurd (by decide) h
       | n+3,_=>rfl
      obtain ⟨q1,q2,q3⟩:=l3 3 (by decide)
      rw [e3]
      have:(L[i].kid 3).toNat<((AC (L.take i)).map (!·)).length:=by
       rw [Zx,hElen]
       by_cases h0:0<L[i].kid 3
       ·have:=(q3 (by omega) h0).1;omega
       ·omega
      rw [Y0,Yx this,Y0]
   have hmt:=map_take_not L i hi
   generalize hF:(AC (L.take i)).map (!·)++List.replicate (L.length-i) false=F at *
   have any:=c05_any (H:=H++(.cel 0 (flat cB F)::.cel 0 [.ms H.length 0 0 (L.length+1) (L.length+1) 1 true]::(G++[.cel 0 (cNd L[i])]))) (pn:=H.length+(G.length+1+1)) (po:=H.length+1) (q:=H.length) (m:=L.length+1) (x:=L[i]) (F:=F) (by simp) (by simp) (by simp) hFlen (fun k hk=>(l3 k hk).1) (fun k hk h1 h0=>by
    obtain ⟨q1,q2,q3⟩:=l3 k hk
    have:=(q3 (by omega) (by omega)).1;omega)
   have hsl:JA 4 1 (.ptr (H.length+(G.length+1+1)) 0 1) none none=some (.ms (H.length+(G.length+1+1)) 0 1 4 4 1 true):=by simp [JA,Bt]
   have hix:=CJ (sz:=1) (id:=H.length) (g:=0) (off:=0) (n:=L.length+1) (cap:=L.length+1) (ex:=true) (K:=.i64) (i:=i+1) (by omega)
   simp only [Yy,YB]at hix
   have hst:∀G' t,Af 1 (.ptr H.length 0 (i+1)) (.bool t) (H++(.cel 0 (flat cB F)::G'))=some (H++(.cel 0 (flat cB (F.set (i+1) t))::G')):=fun G' t=>by
    rw [I5,RU rfl (by rw [show flat cB F=F.map Ab.bool from by
     clear hfs hmt any hF hFlen
     induction F with
     | nil=>rfl
     | cons c l ih=>rw [DV,ih];rfl];simp;omega)]
    simp only [Option.map_some]
    congr 3
    have e:∀l:List Bool,flat cB l=l.map Ab.bool:=fun l=>by
     induction l with
     | nil=>rfl
     | cons c l ih=>rw [DV,ih];rfl
    rw [e,e,List.map_set]
   have next:=hrec (i+1,G++[.cel 0 (cNd L[i])]) hi (by dsimp only;omega)
   dsimp only at next
   rw [←hmt]at next
   simp only [GMb,GMc,HPa,HPc,HPd,HPe,HPz,Nat.reduceAdd,Nat.reduceLT,BY,FN,Fd,FF,Ai,hi',Ay hi,Jg,hsl,any,Av (show i<9223372036854775807 by omega),hix,hst,hfs]
   exact next
  ·have hi':¬(i:Int)<(L.length:Int):=by omega
   have:i=L.length:=by omega
   subst this
   rw [YY,YV,List.replicate_zero,YP]
   have hfall:=Us (f:=cB) (l:=(AC L).map (!·)) (H:=H++(.cel 0 (flat cB ((AC L).map (!·)))::.cel 0 [.ms H.length 0 0 (L.length+1) (L.length+1) 1 true]::G)) (id:=H.length) (b:=H.length) (d:=5) (cap:=L.length+1) (ex:=true) (by simp) (Yz _)
   rw [Zx,D0]at hfall
   simp only [GMb,GMc,HPa,HPc,HPd,HPe,HPz,Nat.reduceAdd,Nat.reduceLT,Ai,hi',hfall]
theorem ful_get (L:List Nd) {n:Nat} (hn:n<L.length+1):((AC L).map (!·)).getD n false = !(AC L).getD n true:=by
 have h:n<(AC L).length:=by rw [D0];exact hn
 rw [Y0,Y0,YQ,Yu h];rfl
theorem ful_idx (L:List Nd) {n:Nat} (hn:n<L.length+1) (H:Aa) (K:IntKind):∃e,Au 1 (.sl (enL cB ((AC L).map (!·))) .no) (.int K (n:Int))=some e∧Ac false 1 e H=some (.bool (!(AC L).getD n true)):=by
 have h:n<((AC L).map (!·)).length:=by rw [Zx,D0];exact hn
 refine ⟨_,Ay h,?_⟩
 have e:=ful_get L hn
 rw [Y0,Yu h]at e
 simp only [A9,List.getElem?_cons_zero]
 rw [←e];rfl
theorem Yo (L:List Nd) (tk:Tok) (n:Nat) (H:Aa) (hL:L.length<140737488355327) (hl:AU L=true) (hn:n≤L.length):Sh.f3n (.sl (enL cNd L) tk) (.int .i64 (n:Int)) H=some (.ret (.bool ((AC L).getD n true)),H):=by
 obtain ⟨e,h1,h2⟩:=ful_idx L (n:=n) (by omega) H .i64
 unfold Sh.f3n
 simp only [GMb,GMc,HPa,HPc,HPd,HPe,HPz,Nat.reduceAdd,Nat.reduceLT,c05_full L tk H hL hl,h1,h2,Bool.not_not]
theorem c05_hollow (L:List Nd) (tk:Tok) (n:Nat) (H:Aa) (hL:L.length<140737488355327) (hl:AU L=true) (hn:n≤L.length):Sh.f3o (.sl (enL cNd L) tk) (.int .i64 (n:Int)) H=some (.ret (.bool (Fq L n)),H):=by
 unfold Sh.f3o Fq
 cases n with
 | zero=>simp only [GMb,GMc,HPa,HPc,HPd,HPe,HPz,Nat.reduceAdd,Nat.reduceLT,show ((0:Nat):Int)=0 from rfl,ne_eq,not_true_eq_false]
 | succ n=>
  have hi:n<L.length:=hn
  have e0:¬((n+1:Nat):Int)=0:=by omega
  obtain ⟨l1,l2,l3⟩:=AP hl hi
  rw [Eo rfl hi]
  generalize hx:L[n]=x at l1 l2 l3
  have hw:IntKind.i64.wrap (((n+1:Nat):Int)-1)=(n:Int):=by rw [Am] <;> omega
  simp only [GMb,GMc,HPa,HPc,HPd,HPe,HPz,Nat.reduceAdd,Nat.reduceLT,BY,FN,Fd,FF,e0,hw,Ay hi,hx,An,A9]
  by_cases h2:x.lv=1
  ·have:¬2≤x.lv:=by omega
   simp only [h2,GMb,GMc,HPa,HPc,HPd,HPe,HPz,Nat.reduceAdd,Nat.reduceLT,show ¬(2:Int)≤1 from by decide]
  ·have h2':2≤x.lv:=by omega
   simp only [h2,h2',GMb,GMc,HPa,HPc,HPd,HPe,HPz,Nat.reduceAdd,Nat.reduceLT,c05_full L tk H hL hl,hw,Ay hi,hx,An,ld_kids,ne_eq,ZX,not_false_eq_true]
   have key:=FD (G:=fun rec1 vs H1=>Sh.f5v H rec1 (ag vs 0) (ag vs 1) (ag vs 2) (ag vs 3) H1) 4 (fun k=>decide (x.kid k=0)||(List.range 4).all (VP L (AC L) x k))
    (fun k=>[.sl (enL cNd L) tk,.sl (enL cB ((AC L).map (!·))) .no,.agg (Jh x),.int .i64 (k:Int)]) H (some (.ret (.bool true),H)) (some (.ret (.bool false),H)) (by decide) (fun rec k hk=>?_) (fun rec=>?_)
   ·refine key.trans ?_
    rw [show hol L (AC L) x=(List.range 4).all fun k=>decide (x.kid k=0)||(List.range 4).all (VP L (AC L) x k) from rfl]
    cases (List.range 4).all fun k=>decide (x.kid k=0)||(List.range 4).all (VP L (AC L) x k) <;> rfl
   ·have hk':(k:Int)<4:=by omega
    obtain ⟨q1,q2,q3⟩:=l3 k hk
    have hws:IntKind.i64.wrap ((k:Int)+1)=((k+1:Nat):Int):=Av (by omega)
    unfold Sh.f5v
    simp only [GMb,GMc,Ai,hk',ag_kid _ hk]
    by_cases hc:x.kid k=0
    ·simp only [hc,GMb,GMc,hws,if_true]
    ·obtain ⟨m,hm⟩:∃m:Nat,x.kid k=((m+1:Nat):Int):=⟨(x.kid k-1).toNat,by omega⟩
     have h1:1<x.lv:=by omega
     obtain ⟨r1,r2⟩:=q3 h1 (by omega)
     have hml:m<L.length:=by omega
     have hy:=r2 L[m] (by rw [show (x.kid k-1).toNat=m from by omega];exact Yu hml)
     obtain ⟨y1,y2,y3⟩:=AP hl hml
     have hp:VP L (AC L) x k=fun j=>decide (j=3-k)||(if x.lv=2 then decide (L[m].kid j=0)else (AC L).getD (L[m].kid j).toNat true):=by
      funext j;unfold VP;rw [Eo hm hml]
     have hwm:IntKind.i64.wrap (((m+1:Nat):Int)-1)=(m:Int):=by rw [Am] <;> omega
     have hc':¬((m+1:Nat):Int)=0:=by omega
     rw [hm]
     simp only [hp,hc',GMb,GMc,hwm,Ay hml,An,Yy,ld_kids]
     refine FD (G:=fun rec2 vs H1=>Sh.f5u H rec rec2 (ag vs 0) (ag vs 1) (ag vs 2) (ag vs 3) (ag vs 4) (ag vs 5) (ag vs 6) (ag vs 7) H1) 4 _
      (fun j=>[.sl (enL cNd L) tk,.sl (enL cB ((AC L).map (!·))) .no,.int .i64 (k:Int),.int .i64 ((m+1:Nat):Int),.agg (Jh x),.int .i64 (k:Int),.agg (Jh L[m]),.int .i64 (j:Int)]) H _ _ (by decide) (fun rec2 j hj=>?_) (fun rec2=>?_)
     ·have hj':(j:Int)<4:=by omega
      have hw3:IntKind.i64.wrap (3-(k:Int))=3-(k:Int):=Am (by omega) (by omega)
      have hjs:IntKind.i64.wrap ((j:Int)+1)=((j+1:Nat):Int):=Av (by omega)
      have hj3:decide ((j:Int)=3-(k:Int))=decide (j=3-k):=by rw [YD];simp only [decide_eq_true_eq];omega
      unfold Sh.f5u
      simp only [GMb,GMc,Ai,hj',ag_kid _ hj,hw3,hj3]
      by_cases hjk:j=3-k
      ·simp only [hjk,GMb,GMc,if_true]
       simp only [←hjk,hjs]
      ·by_cases hg:L[m].kid j=0
       ·have:(if x.lv=2 then decide (L[m].kid j=0)else (AC L).getD (L[m].kid j).toNat true)=true:=by
         split
         ·simp [hg]
         ·rw [hg];exact HO L
        simp only [hjk,this,GMb,GMc,if_true]
        simp only [hg,hjs,GMb,GMc]
       ·by_cases hl1:L[m].lv=1
        ·have h22:x.lv=2:=by omega
         simp only [hjk,h22,GMb,GMc,hg,hwm,Ay hml,An,A9,Yy,BY,hl1,Y4,if_true,if_false]
        ·have h22:¬x.lv=2:=by omega
         obtain ⟨s1,s2,s3⟩:=y3 j hj
         have hlt:=(s3 (by omega) (by omega)).1
         obtain ⟨g,hgg⟩:∃g:Nat,L[m].kid j=(g:Int):=⟨(L[m].kid j).toNat,by omega⟩
         obtain ⟨e,f1,f2⟩:=ful_idx L (n:=g) (by omega) H .i64
         rw [hgg]at hg
         simp only [hjk,h22,GMb,GMc,hgg,hg,hwm,Ay hml,An,A9,Yy,BY,hl1,if_false,f1,f2,Int.toNat_natCast]
         cases (AC L).getD g true with
         | true=>simp only [GMb,GMc,if_true,hjs]
         | false=>simp only [GMb,GMc,Y4,if_false]
     ·unfold Sh.f5u
      simp only [GMb,GMc,Ai,show ¬(((4:Nat):Int)<4) from by decide,hws]
   ·unfold Sh.f5v
    simp only [GMb,GMc,Ai,show ¬(((4:Nat):Int)<4) from by decide]
theorem c06_inner (L:List Nd) (tk:Tok) (n k:Nat) (H:Aa) (hL:L.length<140737488355327) (hl:AU L=true) (hn:n<L.length) (h2:2≤L[n].lv) (hk:k<4) :
  Sh.f3p (.sl (enL cNd L) tk) (.int .i64 ((n+1:Nat):Int)) (.int .i64 (k:Int)) H=some (.ret (.int .i64 (JM L L[n] k)),H):=by
 obtain ⟨l1,l2,l3⟩:=AP hl hn
 obtain ⟨q1,q2,q3⟩:=l3 k hk
 have hw:IntKind.i64.wrap (((n+1:Nat):Int)-1)=(n:Int):=by rw [Am] <;> omega
 unfold Sh.f3p JM
 simp only [GMb,GMc,hw,Ay hn,An,Dy hk,A9,Yy,YB,Dq hk]
 by_cases hc:L[n].kid k=0
 ·simp only [hc,GMb,GMc,show ¬((0:Int)>0) from by decide,if_true]
 ·obtain ⟨m,hm⟩:∃m:Nat,L[n].kid k=((m+1:Nat):Int):=⟨(L[n].kid k-1).toNat,by omega⟩
  obtain ⟨r1,r2⟩:=q3 (by omega) (by omega)
  have hml:m<L.length:=by omega
  have hwm:IntKind.i64.wrap (((m+1:Nat):Int)-1)=(m:Int):=by rw [Am] <;> omega
  have hw3:IntKind.i64.wrap (3-(k:Int))=((3-k:Nat):Int):=by rw [Am] <;> omega
  have hgt:((m+1:Nat):Int)>0:=by omega
  have hc':¬((m+1:Nat):Int)=0:=by omega
  simp only [Eo (c:=((m+1:Nat):Int)) rfl hml,hm,hgt,hc',GMb,GMc,hwm,hw3,Ay hml,An,Yy,Dy (show 3-k<4 by omega),A9,YB,Dq (show 3-k<4 by omega),if_false]
theorem c_clone (L:List Nd) (tk:Tok) (H:Aa) (hL:L.length<3518437208883):Sh.f3l (.sl (enL cNd L) tk) H=some (if L=[]then (.ret (.sl [] .tight),H)else (.ret (.sl (enL cNd L) (.own H.length)),H++[.tok L.length AJ 5])):=by
 have hb:AO 5 []=some (.sl (enL cNd []) .tight):=rfl
 unfold Sh.f3l
 cases L with
 | nil=>
  have ha:AN AJ 5 40 (.sl (enL cNd []) .tight) (.sl (enL cNd []) tk) H=some (.sl (enL cNd []) .tight,H):=Dk (by simp [Ce,enL])
  have hn:TN .eql (.sl (enL cNd []) tk)=some .ubool:=rfl
  have hu:∀x:Out,Aj .ubool x x=x:=fun x=>if_pos rfl
  simp only [hn,GMb,GMc,hb,ha]
  exact hu _
 | cons x l=>
  have ha:AN AJ 5 40 (.sl (enL cNd []) .tight) (.sl (enL cNd (x::l)) tk) H=some (.sl (enL cNd (x::l)) (.own H.length),H++[.tok (x::l).length AJ 5]):=by
   have:=CE (f:=cNd) (l:=[]) (m:=x::l) (ty:=AJ) (bytes:=40) (tk:=tk) (H:=H) (by simp) (by simp only [List.length_nil];omega) (by simp only [List.length_nil];omega)
   simpa using this
  have hn:TN .eql (.sl (enL cNd (x::l)) tk)=some (.bool false):=rfl
  simp only [hn,GMb,GMc,hb,ha,reduceCtorEq,if_false]
theorem c06_shrink (L:List Nd) (tk:Tok) (n:Nat) (H:Aa) (hL:L.length<3518437200000) (hl:AU L=true) (hn:n≤L.length) :
  Sh.f3q (.sl (enL cNd L) tk) (.int .i64 (n:Int)) H=some (.ret (.tup [.sl (enL cNd (Ej L n).1) .no,.int .i64 ((Ej L n).2:Int)]),H):=by
 unfold Sh.f3q
 rw [c_clone L tk H (by omega)]
 by_cases h0:L=[]
 ·subst h0
  have hn0:n=0:=by simpa using hn
  subst hn0
  have he:=Yo [] .tight 0 H (by simp) hl (Yz _)
  have he0:(AC ([]:List Nd)).getD 0 true=true:=rfl
  have hs:Ej [] 0=([],0):=rfl
  rw [show Ab.sl (enL cNd []) .tight=Ab.sl [] .tight from rfl,he0]at he
  rw [hs]
  have:=N5 (H0:=H) (v:=.tup [.sl [] .tight,.int .i64 0])
  simp only [GMb,GMc,HPa,HPc,HPd,HPe,HPz,Nat.reduceAdd,Nat.reduceLT,if_true,he,this]
  rfl
 ·simp only [GMb,GMc,h0,if_false,Yo L _ n _ (show L.length<140737488355327 by omega) hl hn]
  unfold Ej
  cases hem:(AC L).getD n true with
  | true=>simp only [GMb,GMc,HPa,HPc,HPd,HPe,HPz,Nat.reduceAdd,Nat.reduceLT,if_true];rfl
  | false=>
   simp only [GMb,GMc,HPa,HPc,HPd,HPe,HPz,Nat.reduceAdd,Nat.reduceLT,Y4,if_false]
   have hlv:(AS L n).lv≤1329:=by
    cases n with
    | zero=>exfalso;rw [HO]at hem;cases hem
    | succ m=>rw [BA hn];exact (AP hl hn).2.1
   have key:=Bk (G:=fun rec1 vs H1=>Sh.f7h H rec1 (ag vs 0) (ag vs 1) H1) (σ:=List Nd×Nat×Aa) (fun s=>AU s.1=true∧s.2.1≤s.1.length∧s.1.length+(AS s.1 s.2.1).lv.toNat<3518437208883∧s.1.length+(AS s.1 s.2.1).lv.toNat<3518437208883)
    (fun s=>[.sl (enL cNd s.1) (.own H.length),.int .i64 (s.2.1:Int)]) (fun s=>H++.tok s.1.length AJ 5::s.2.2) (fun s=>(AS s.1 s.2.1).lv.toNat)
    (fun s=>some (.ret (.tup [.sl (enL cNd (CN (AS s.1 s.2.1).lv.toNat s.1 s.2.1).1) .no,.int .i64 ((CN (AS s.1 s.2.1).lv.toNat s.1 s.2.1).2:Int)]),H)) (fun s rec hs hrec=>?_) (L,n,[]) ⟨hl,hn,by dsimp only;omega,by dsimp only;omega⟩ (by dsimp only;omega)
   ·exact key
   ·obtain ⟨M,i,G⟩:=s
    obtain ⟨hs1,hs2,hs3,hs4⟩:=hs
    simp only at hs1 hs2 hs3 hs4 hrec ⊢
    unfold Sh.f7h
    simp only [GMb,GMc,Ai,c05_hollow M _ i _ (show M.length<140737488355327 by omega) hs1 hs2]
    cases hh:Fq M i with
    | false=>
     have:CN (AS M i).lv.toNat M i=(M,i):=by
      cases (AS M i).lv.toNat with
      | zero=>rfl
      | succ f=>simp [CN,hh]
     simp only [GMb,GMc,HPa,HPc,HPd,HPe,HPz,Nat.reduceAdd,Nat.reduceLT,this]
    | true=>
     obtain ⟨hi0,hlv2⟩:=Su hh
     obtain ⟨m,rfl⟩:∃m,i=m+1:=⟨i-1,by omega⟩
     have hm:m<M.length:=hs2
     obtain ⟨l1,l2,l3⟩:=AP hs1 hm
     have hx:AS M ((m+1:Nat):Int)=M[m]:=BA hm
     rw [hx]at hlv2 hs3 hrec ⊢
     have hwm:IntKind.i64.wrap (((m+1:Nat):Int)-1)=(m:Int):=by rw [Am] <;> omega
     have hwl:IntKind.i64.wrap (M[m].lv-1)=M[m].lv-1:=Am (by omega) (by omega)
     have hsf:CN M[m].lv.toNat M (m+1)=CN (M[m].lv-1).toNat (M++[FG M (m+1)]) (M.length+1):=by
      rw [show M[m].lv.toNat=(M[m].lv-1).toNat+1 from by omega]
      simp only [CN,hh,if_true]
     generalize hB:H++.tok M.length AJ 5::G=B
     simp only [GMb,GMc,An,Ah,A9,Yy,Nat.add_zero,YB,BY,hwm,Ay hm,hwl,Wv,RJ,J8 (Ap (B:=B) (cs:=cNd nd0)) rfl,Bd]
     refine Ca (G:=fun rec2 vs H1=>Sh.f5w H rec rec2 (ag vs 0) (ag vs 1) (ag vs 2) (ag vs 3) H1) 4 (fun k=>[.sl (enL cNd M) (.own H.length),.int .i64 ((m+1:Nat):Int),.ptr B.length 0 0,.int .i64 (k:Int)]) (fun k=>B++[.cel 0 (cNd (Xx (JM M M[m]) ⟨M[m].lv-1,0,0,0,0⟩ k))]) _ (by decide) (fun rec2 k hk=>?_) (fun rec2=>?_)
     ·have hk':(k:Int)<4:=by omega
      unfold Sh.f5w
      have hinn:=c06_inner M (.own H.length) m k (B++[.cel 0 (cNd (Xx (JM M M[m]) ⟨M[m].lv-1,0,0,0,0⟩ k))]) (by omega) hs1 hm hlv2 hk
      simp only [GMb,GMc,Ai,hk',hinn,Ah,Yy,HL hk,EO (Ap (B:=B)) hk,Bd,Av (show k<9223372036854775807 by omega)]
      rfl
     ·have hf:¬(((4:Nat):Int)<4):=by decide
      have hel:(⟨M[m].lv-1,JM M M[m] 0,JM M M[m] 1,JM M M[m] 2,JM M M[m] 3⟩:Nd)=FG M (m+1):=by unfold FG;rw [hx]
      unfold Sh.f5w
      rw [Xw]
      simp only [GMb,GMc,Ai,hf,HK (Ap (B:=B)),Kk]
      rw [←hB,Y1,List.cons_append,Yq (by omega)]
      simp only [GMb,GMc,Aw,Y2,List.length_singleton,hel]
      have hlv':(AS (M++[FG M (m+1)]) ((M.length+1:Nat):Int)).lv=M[m].lv-1:=by
       rw [BA (by simp),show (M++[FG M (m+1)])[M.length]'(by simp)=FG M (m+1) from by simp]
       show (AS M ((m+1:Nat):Int)).lv-1=_
       rw [hx]
      have:=hrec (M++[FG M (m+1)],M.length+1,G++[.cel 0 (cNd (FG M (m+1)))]) ⟨Ss hs1 hm hlv2,by simp,by dsimp only;rw [hlv'];simp;omega,by dsimp only;rw [hlv'];simp;omega⟩ (by dsimp only;rw [hlv'];omega)
      simp only [Y2,List.length_singleton]at this
      rw [this,hlv',hsf]
section
variable {α β:Type} {f:α→List Ab} {g:β→List Ab} {ty ty2:TypeId} {sz sz2:Nat}
structure Grown (v v':Ab) (H H':Aa):Prop where
 len:H.length≤H'.length
 keep:∀i,i<H.length→(∀es,v≠.sl es (.own i))→H'[i]? = H[i]?
 own:∀i es,v'=.sl es (.own i)→H.length≤i∨∃es',v=.sl es' (.own i)
theorem RS.snoc2 [hf:Sz f sz] {bytes b:Nat} {out:List α} {v:Ab} {H:Aa} (h:RS f ty sz b out v H) (hb:b≤H.length) (x:α) (tk:Tok) (hl:(out.length+1)*bytes≤140737488355328) (hl2:out.length+1≤140737488355328) :
  ∃v' H',AN ty sz bytes v (.sl (enL f [x]) tk) H=some (v',H')∧RS f ty sz b (out++[x]) v' H'∧Kp b H H'∧Grown v v' H H':=by
 rcases h with ⟨rfl,rfl⟩ | ⟨t,h1,rfl,h3⟩
 ·have:=CE (f:=f) (l:=[]) (m:=[x]) (ty:=ty) (bytes:=bytes) (tk:=tk) (H:=H) (by simp) (by simpa using hl) (by simp)
  refine ⟨_,_,this,.inr ⟨H.length,hb,rfl,by simp⟩,Kp.app hb _,by simp,fun i hi _=>Yx hi,fun i es e=>?_⟩
  injection e with _ e;injection e with e
  exact .inl (by omega)
 ·have:=Ey (f:=f) (l:=out) (m:=[x]) (ty:=ty) (bytes:=bytes) (tk:=tk) (H:=H) (t:=t) (by simp) h3 (by simpa using hl) (by simpa using hl2)
  have htl:=(Yw.1 h3).1
  refine ⟨_,_,this,.inr ⟨t,h1,rfl,by simp [htl]⟩,⟨by simp,fun i cs hc=>?_,fun i hi=>?_⟩,by simp,fun i hi hne=>?_,fun i es e=>?_⟩
  ·have:t≠i:=fun e=>by rw [←e,h3]at hc;cases hc
   rw [Yv this];exact hc
  ·rw [Yv (by omega)]
  ·have:t≠i:=fun e=>hne _ (by rw [e])
   rw [Yv this]
  ·injection e with _ e;injection e with e
   exact .inr ⟨_,by rw [e]⟩
theorem RS.notok {b i:Nat} {out:List α} {v:Ab} {H:Aa} {B:Blk} (h:RS f ty sz b out v H) (hB:H[i]? = some B) (hn:∀n e s,B≠.tok n e s):∀es,v≠.sl es (.own i):=by
 intro es e
 rcases h with ⟨_,k1⟩ | ⟨t,_,k1,k2⟩
 ·rw [k1]at e;injection e with _ e;cases e
 ·rw [k1]at e;injection e with _ e;injection e with e
  rw [e,hB]at k2;injection k2 with k2
  exact hn _ _ _ k2
theorem RS.setB {b i:Nat} {out:List α} {v:Ab} {H:Aa} {B B':Blk} (h:RS f ty sz b out v H) (hB:H[i]? = some B) (hn:∀n e s,B≠.tok n e s):RS f ty sz b out v (H.set i B'):=by
 have hne:=h.notok hB hn
 rcases h with h1 | ⟨t,h1,h2,h3⟩
 ·exact .inl h1
 ·refine .inr ⟨t,h1,h2,?_⟩
  have:i≠t:=fun e=>hne _ (by rw [h2,e])
  rw [Yv this];exact h3
theorem RS.one {b:Nat} {out:List α} {v:Ab} {H:Aa} (h:RS f ty sz b out v H):v.isScal=true:=by
 obtain ⟨tk,rfl⟩:=h.sl;rfl
theorem RS.len {b:Nat} {out:List α} {v:Ab} {H:Aa} (h:RS f ty sz b out v H):A5 v=some (.int .i64 (out.length:Int)):=by
 obtain ⟨tk,rfl⟩:=h.sl;exact Aw
end
theorem nodup_le:∀(N:Nat) (l:List Nat),l.Nodup→(∀x∈l,x<N)→l.length≤N:=by
 intro N
 induction N with
 | zero=>
  intro l _ h
  cases l with
  | nil=>simp
  | cons a l=>have:=h a (by simp);omega
 | succ N ih=>
  intro l hn h
  by_cases hN:N∈l
  ·have h1:=List.length_erase_of_mem hN
   have h2:=ih (l.erase N) (hn.erase N) (fun x hx=>by
    rw [hn.mem_erase_iff]at hx
    have:=h x hx.2;omega)
   have:=List.length_pos_of_mem hN
   omega
  ·have:=ih l hn (fun x hx=>by
    have:=h x hx
    have:x≠N:=fun e=>hN (e ▸ hx)
    omega)
   omega
def knF:Nat→List Nd→List (Ab×Ab)
 | _,[]=>[]
 | s,x::l=>(.agg (cNd x),.int .i64 ((s+1:Nat):Int))::knF (s+1) l
theorem VX (a:Nd) (l:List Nd) (y:Nd):CA (a::l) y=if a=y then 1 else if CA l y=0 then 0 else CA l y+1:=by
 by_cases h:a=y
 ·rw [if_pos h,Hk];exact ⟨by simp [h],fun j hj=>by omega⟩
 ·rw [if_neg h]
  cases hf:CA l y with
  | zero=>
   rw [if_pos rfl,Lc]
   rw [Lc]at hf
   intro hm
   rcases Zc.1 hm with e | e
   ·exact h e.symm
   ·exact hf e
  | succ i=>
   rw [if_neg (by omega),Hk]
   rw [Hk]at hf
   refine ⟨by simpa using hf.1,fun j hj=>?_⟩
   cases j with
   | zero=>simpa using h
   | succ j=>simpa using hf.2 j (by omega)
theorem key_nd (y:Nd):DT true 5 (.agg (cNd y))=some (cNd y):=(rfl)
theorem XE (y:Nd):∀(l:List Nd) (s:Nat),EI true 5 (knF s l) (cNd y)=some (if CA l y=0 then none else some (.int .i64 ((s+CA l y:Nat):Int)))
 | [],s=>by
  have:CA [] y=0:=by rw [Lc];simp
  simp [knF,EI,this]
 | a::l,s=>by
  have ih:=XE y l (s+1)
  simp only [knF,EI,key_nd,BD,R8]
  rw [VX]
  by_cases h:a=y
  ·subst h;simp
  ·have h':¬y=a:=fun e=>h e.symm
   rw [decide_eq_false h',if_neg h]
   simp only [Y4,if_false,ih]
   by_cases h0:CA l y=0
   ·simp [h0]
   ·rw [if_neg h0,if_neg (by rw [if_neg h0];omega),if_neg h0]
    congr 3;omega
theorem Xm (y:Nd):∀(l:List Nd) (s:Nat),CA l y=0→Dv true 5 (knF s l) (.agg (cNd y)) (cNd y) (.int .i64 ((s+l.length+1:Nat):Int))=some (knF s (l++[y]))
 | [],s,_=>rfl
 | a::l,s,h=>by
  rw [VX]at h
  by_cases ha:a=y
  ·rw [if_pos ha]at h;omega
  ·rw [if_neg ha]at h
   have h0:CA l y=0:=by
    by_cases h0:CA l y=0
    ·exact h0
    ·rw [if_neg h0]at h;omega
   have h':¬y=a:=fun e=>ha e.symm
   have ih:=Xm y l (s+1) h0
   simp only [knF,Dv,key_nd,BD,R8,List.cons_append]
   rw [decide_eq_false h']
   simp only [Y4,if_false]
   rw [List.length_cons,show s+(l.length+1)+1=s+1+l.length+1 by omega,ih]
   rfl
def dnM (D:List (Nat×Nat)):List (Ab×Ab):=D.map fun p=>(.int .i64 (p.1:Int),.int .i64 (p.2:Int))
def lkD (D:List (Nat×Nat)) (n:Nat):Option Nat:=match D with
 | []=>none
 | p::r=>if p.1=n then some p.2 else lkD r n
theorem lkD_mem {n m:Nat}:∀ {D:List (Nat×Nat)},lkD D n=some m→(n,m)∈D
 | [],h=>by cases h
 | p::r,h=>by
  unfold lkD at h
  by_cases hp:p.1=n
  ·rw [if_pos hp]at h;injection h with h;subst hp;subst h;exact List.mem_cons_self
  ·rw [if_neg hp]at h;exact List.mem_cons_of_mem _ (lkD_mem h)
theorem lkD_none {n:Nat}:∀ {D:List (Nat×Nat)},lkD D n=none→n ∉ D.map (·.1)
 | [],h=>by simp
 | p::r,h=>by
  unfold lkD at h
  by_cases hp:p.1=n
  ·rw [if_pos hp]at h;cases h
  ·rw [if_neg hp]at h
   have:=lkD_none h
   simp only [ZT,Zc,not_or]
   exact ⟨fun e=>hp e.symm,this⟩
theorem lkD_app {n:Nat} {p:Nat×Nat}:∀ {D:List (Nat×Nat)},lkD (D++[p]) n=(match lkD D n with | some m=>some m | none=>if p.1=n then some p.2 else none)
 | []=>by simp [lkD]
 | q::r=>by
  have ih:=lkD_app (n:=n) (p:=p) (D:=r)
  simp only [List.cons_append,lkD]
  by_cases hq:q.1=n
  ·simp only [if_pos hq]
  ·simp only [if_neg hq,ih]
theorem nat_cell (a b:Nat):BM [.int .i64 (a:Int)] [.int .i64 (b:Int)]=some (decide (a=b)):=by
 simp only [BM,Hs,if_true,BD]
 congr 1
 rw [YD];simp;omega
theorem Um (a:Int):DT false 1 (.int .i64 a)=some [.int .i64 a]:=(rfl)
theorem XF (n:Nat):∀D:List (Nat×Nat),EI false 1 (dnM D) [.int .i64 (n:Int)]=some ((lkD D n).map fun m=>Ab.int .i64 (m:Int))
 | []=>rfl
 | p::r=>by
  have ih:=XF n r
  simp only [dnM,ZT,EI,Um,BD,nat_cell,lkD]
  by_cases hp:p.1=n
  ·subst hp;simp
  ·have:¬n=p.1:=fun e=>hp e.symm
   rw [decide_eq_false this,if_neg hp]
   simpa [dnM]using ih
theorem Xn (n m:Nat):∀D:List (Nat×Nat),lkD D n=none→Dv false 1 (dnM D) (.int .i64 (n:Int)) [.int .i64 (n:Int)] (.int .i64 (m:Int))=some (dnM (D++[(n,m)]))
 | [],_=>rfl
 | p::r,h=>by
  unfold lkD at h
  by_cases hp:p.1=n
  ·rw [if_pos hp]at h;cases h
  ·rw [if_neg hp]at h
   have ih:=Xn n m r h
   have:¬n=p.1:=fun e=>hp e.symm
   simp only [dnM,ZT,Dv,Um,BD,nat_cell,List.cons_append]at ih ⊢
   rw [decide_eq_false this]
   simp only [Y4,if_false,ih]
   rfl
theorem lookA_dn {H:Aa} {id:Nat} {D:List (Nat×Nat)} (h:H[id]? = some (.map (dnM D))) (n:Nat):Fp false 1 (some (.int .i64 0)) true (.mp id) (.int .i64 (n:Int)) H=some (match lkD D n with | some m=>.tup [.int .i64 (m:Int),.bool true] | none=>.tup [.int .i64 0,.bool false]):=by
 unfold Fp
 simp only [BD,Um,h,XF,Option.map_some]
 cases lkD D n <;> rfl
theorem updA_dn {H:Aa} {id:Nat} {D:List (Nat×Nat)} (h:H[id]? = some (.map (dnM D))) {n:Nat} (m:Nat) (hn:lkD D n=none):Eg false 1 (.mp id) (.int .i64 (n:Int)) (.int .i64 (m:Int)) H=some (H.set id (.map (dnM (D++[(n,m)])))):=by
 unfold Eg
 simp only [BD,Um,h,Xn n m D hn,Option.map_some]
theorem lookA_kn {H:Aa} {id:Nat} {out:List Nd} (h:H[id]? = some (.map (knF 0 out))) (y:Nd):Fp true 5 (some (.int .i64 0)) true (.mp id) (.agg (cNd y)) H=some (if CA out y=0 then .tup [.int .i64 0,.bool false]else .tup [.int .i64 (CA out y:Int),.bool true]):=by
 unfold Fp
 simp only [BD,key_nd,h,XE,Option.map_some,Yy]
 by_cases h0:CA out y=0 <;> simp [h0]
theorem updA_kn {H:Aa} {id:Nat} {out:List Nd} (h:H[id]? = some (.map (knF 0 out))) {y:Nd} (hn:CA out y=0):Eg true 5 (.mp id) (.agg (cNd y)) (.int .i64 ((out.length+1:Nat):Int)) H=some (H.set id (.map (knF 0 (out++[y])))):=by
 have:=Xm y out 0 hn
 rw [Yy]at this
 unfold Eg
 simp only [BD,key_nd,h,this,Option.map_some]
def KS (y:Nd):Bool:=decide (y.k0=0)&&(decide (y.k1=0)&&(decide (y.k2=0)&&decide (y.k3=0)))
theorem eq_kids (y:Nd):Ae (.flat 4) .eql (.agg (Jh y)) (.agg [.int .i64 0,.int .i64 0,.int .i64 0,.int .i64 0])=some (.bool (KS y)):=by
 show (eqA (.flat 4) (.agg (Jh y)) (.agg [.int .i64 0,.int .i64 0,.int .i64 0,.int .i64 0])).map Ab.bool=_
 have h:eqA (.flat 4) (.agg (Jh y)) (.agg [.int .i64 0,.int .i64 0,.int .i64 0,.int .i64 0])=some (KS y):=by
  unfold eqA
  simp only []
  rw [if_pos (show (Jh y).length=4 from rfl)]
  simp only [Jh,BM,Hs,if_true,BD,Bool.and_true,GP]
  rfl
 rw [h];rfl
def Ii (out:List Nd) (y:Nd):List Nd×Nat:=if KS y then (out,0)else Dr out y
structure AR (b ar km:Nat) (out:List Nd) (v:Ab) (H:Aa):Prop where
 cell:H[ar]? = some (.cel 0 [v,.mp km])
 row:RS cNd AJ 5 b out v H
 known:H[km]? = some (.map (knF 0 out))
structure AX (b ar km:Nat) (H H':Aa):Prop where
 len:H.length≤H'.length
 cel:∀(i:Nat) (cs:List Ab),i≠ar→H[i]? = some (.cel 0 cs)→H'[i]? = some (.cel 0 cs)
 map:∀(i:Nat) (es:List (Ab×Ab)),i≠km→H[i]? = some (.map es)→H'[i]? = some (.map es)
 old:∀i,i<b→H'[i]? = H[i]?
theorem AX.trans {b ar km:Nat} {H H1 H2:Aa} (h:AX b ar km H H1) (k:AX b ar km H1 H2):AX b ar km H H2:=
 ⟨YJ h.len k.len,fun i cs hi hc=>k.cel i cs hi (h.cel i cs hi hc),fun i es hi hc=>k.map i es hi (h.map i es hi hc),fun i hi=>(k.old i hi).trans (h.old i hi)⟩
theorem AX.push {b ar km:Nat} {H:Aa} (hb:b≤H.length) (G:Aa):AX b ar km H (H++G):=
 ⟨by simp,fun i cs _ h=>A1 h,fun i es _ h=>A1 h,fun i hi=>Yx (by omega)⟩
theorem AR.push {b ar km:Nat} {out:List Nd} {v:Ab} {H:Aa} (h:AR b ar km out v H) (G:Aa):AR b ar km out v (H++G):=
 ⟨A1 h.cell,h.row.left G,A1 h.known⟩
theorem c06_intern {b ar km:Nat} {out:List Nd} {v:Ab} {H:Aa} (h:AR b ar km out v H) (hba:b≤ar) (hbk:b≤km) (hb:b≤H.length) (y:Nd) (ho:out.length<3000000000000) :
  ∃v' H',Sh.f3r (.ptr ar 0 0) (.agg (cNd y)) H=some (.ret (.int .i64 ((Ii out y).2:Int)),H')∧AR b ar km (Ii out y).1 v' H'∧AX b ar km H H':=by
 have hB:b≤(H++[Blk.cel 0 (cNd y)]).length:=by simp;omega
 have h1:=h.push [.cel 0 (cNd y)]
 have e1:AX b ar km H (H++[.cel 0 (cNd y)]):=AX.push hb _
 have hbd:A2 (some [(.int .i64 0),(.int .i64 0),(.int .i64 0),(.int .i64 0)]) []=some (.agg [.int .i64 0,.int .i64 0,.int .i64 0,.int .i64 0]):=rfl
 unfold Sh.f3r Ii
 have l0:=CR (o:=0) (sz:=1) h1.cell
 have l1:=CR (o:=1) (sz:=1) h1.cell
 cases hz:KS y with
 | true=>
  simp only [GMb,GMc,HPa,HPc,HPd,HPe,HPz,Nat.reduceAdd,Nat.reduceLT,BY,FN,Fd,FF,hbd,eq_kids,hz,if_true]
  exact ⟨v,_,rfl,h1,e1⟩
 | false=>
  simp only [GMb,GMc,HPa,HPc,HPd,HPe,HPz,Nat.reduceAdd,Nat.reduceLT,BY,FN,Fd,FF,hbd,eq_kids,hz,l1,Fr,JQ,lookA_kn h1.known,Y4,if_false]
  unfold Dr
  by_cases h0:CA out y=0
  ·obtain ⟨v',H2,ha,hr,hk,hg⟩:=RS.snoc2 (bytes:=40) h1.row hB y .tight (by omega) (by omega)
   have hc2:=hk.cel _ _ h1.cell
   have hst:=K9 (o:=0) (v:=v') hc2 hr.one (by simp)
   have hka:km≠ar:=fun e=>by have:=h.known;rw [e,h.cell]at this;cases this
   have har:ar<H.length:=(Yw.1 h.cell).1
   have hkl:km<H.length:=(Yw.1 h.known).1
   have hkn:∀es,v≠.sl es (.own km):=h.row.notok (B:=.map (knF 0 out)) h.known (fun _ _ _ e=>by cases e)
   have hk2:H2[km]? = some (.map (knF 0 out)):=by rw [hg.keep km (by simp;omega) hkn];exact h1.known
   have hH1:H.length≠ar:=by omega
   have hbox:H2[H.length]? = some (.cel 0 (cNd y)):=hk.cel _ _ Ap
   have hl2:ar<H2.length:=(Yw.1 hc2).1
   have hkl2:km<H2.length:=(Yw.1 hk2).1
   obtain ⟨H3,hH3⟩:∃H3,H3=H2.set ar (.cel 0 ([v,.mp km].set 0 v')):=⟨_,rfl⟩
   rw [←hH3]at hst
   have hc3:H3[ar]? = some (.cel 0 [v',.mp km]):=by rw [hH3,Y9 hl2];rfl
   have hk3:H3[km]? = some (.map (knF 0 out)):=by rw [hH3,Yv (Ne.symm hka)];exact hk2
   have hb3:H3[H.length]? = some (.cel 0 (cNd y)):=by rw [hH3,Yv (Ne.symm hH1)];exact hbox
   have l30:=CR (o:=0) (sz:=1) hc3
   have l31:=CR (o:=1) (sz:=1) hc3
   have hup:=updA_kn hk3 h0
   obtain ⟨H4,hH4⟩:∃H4,H4=H3.set km (.map (knF 0 (out++[y]))):=⟨_,rfl⟩
   rw [←hH4]at hup
   have hc4:H4[ar]? = some (.cel 0 [v',.mp km]):=by rw [hH4,Yv hka];exact hc3
   have l40:=CR (o:=0) (sz:=1) hc4
   have hlen:=hr.len
   rw [Y2,List.length_singleton]at hlen
   refine ⟨v',H4,?_,⟨hc4,?_,?_⟩,e1.trans ⟨?_,fun i cs hi hc=>?_,fun i es hi hc=>?_,fun i hi=>?_⟩⟩
   ·simp only [h0,if_true,GMb,GMc,HPa,HPc,HPd,HPe,HPz,Nat.reduceAdd,Nat.reduceLT,l0,Fr,JQ,BY,FN,Fd,FF,Kk,ha,hst,l30,l31,HK hb3,hlen,hup,l40]
   ·have r3:RS cNd AJ 5 b (out++[y]) v' H3:=by rw [hH3];exact hr.put hc2
    rw [hH4,if_pos h0]
    exact r3.setB hk3 (fun _ _ _ e=>by cases e)
   ·rw [hH4,Y9 (by rw [hH3,YW];exact hkl2)];simp only [h0,if_true]
   ·rw [hH4,YW,hH3,YW];exact hk.len
   ·have c2:=hk.cel i cs hc
    have hik:i≠km:=fun e=>by rw [e,hk2]at c2;cases c2
    rw [hH4,Yv (Ne.symm hik),hH3,Yv (Ne.symm hi)];exact c2
   ·have hia:i≠ar:=fun e=>by rw [e,h1.cell]at hc;cases hc
    have hil:i<(H++[Blk.cel 0 (cNd y)]).length:=(Yw.1 hc).1
    have hin:∀es',v≠.sl es' (.own i):=h1.row.notok hc (fun _ _ _ e=>by cases e)
    rw [hH4,Yv (Ne.symm hi),hH3,Yv (Ne.symm hia),hg.keep i hil hin];exact hc
   ·rw [hH4,Yv (by omega),hH3,Yv (by omega)];exact hk.old i hi
  ·simp only [h0,if_false,GMb,GMc,HPa,HPc,HPd,HPe,HPz,Nat.reduceAdd,Nat.reduceLT]
   exact ⟨v,_,rfl,h1,e1⟩
theorem Q2 (y:Nd):KS y=(List.range 4).all fun k=>decide (y.kid k=0):=by
 rw [Qs]
 simp only [KS,Bool.and_assoc]
 rfl
theorem JL {L:List Nd} {v n:Nat} {out:List Nd} (h:n=0∨(AC L).getD n true=true):Bm L (AC L) v n out=(out,0):=by
 have he:(AC L).getD n true=true:=by
  rcases h with h | h
  ·rw [h];exact HO L
  ·exact h
 cases v with
 | zero=>rfl
 | succ v=>simp only [Bm,he,if_true]
theorem insF_pos {L:List Nd} {v n:Nat} {out:List Nd} (h:(AC L).getD n true=false):0<(Bm L (AC L) (v+1) n out).2:=by
 simp only [Bm,h,Y4,if_false]
 split
 ·exact Vh _ _
 ·exact Vh _ _
theorem Sr (rec:Nat→List Nd→List Nd×Nat) (x:Nd) (out:List Nd):∀k,k≤4→∀j,j<k→(BU rec x k out).2.kid j=((rec (x.kid j).toNat (BU rec x j out).1).2:Int)
 | 0,_,j,h=>by omega
 | k+1,hk,j,h=>by
  simp only [BU]
  by_cases e:j=k
  ·subst e;rw [setKid_same _ _ (by omega)]
  ·rw [G5 _ _ (by omega) (by omega) e];exact Sr rec x out k (by omega) j (by omega)
theorem XP {L:List Nd} {v:Nat} (x:Nd) (out:List Nd) (h:∀k,k<4→(x.kid k).toNat=0∨(AC L).getD (x.kid k).toNat true=true):∀k,k≤4→(BU (Bm L (AC L) v) x k out).1=out
 | 0,_=>rfl
 | k+1,hk=>by
  simp only [BU]
  rw [JL (h k (by omega))]
  exact XP x out h k (by omega)
theorem intern_ins {L:List Nd} (hl:AU L=true) {m v:Nat} (hm:m<L.length) (hv:L[m].lv.toNat=v+1) (out:List Nd) :
  Ii (BU (Bm L (AC L) v) L[m] (if 1<L[m].lv then 4 else 0) out).1 (BU (Bm L (AC L) v) L[m] (if 1<L[m].lv then 4 else 0) out).2=Bm L (AC L) (v+1) (m+1) out:=by
 obtain ⟨l1,l2,l3⟩:=AP hl hm
 have hx:AS L ((m+1:Nat):Int)=L[m]:=BA hm
 have he:=emp_iff hl (n:=m+1) (by omega) hm
 rw [hx]at he
 by_cases h1:1<L[m].lv
 ·rw [if_pos h1]
  cases hE:(AC L).getD (m+1) true with
  | true=>
   rw [hE]at he
   have hk:∀k,k<4→(L[m].kid k).toNat=0∨(AC L).getD (L[m].kid k).toNat true=true:=fun k hk=>by
    have:=YH.1 he.symm k (by simpa using hk)
    simp only [Z4,decide_eq_true_eq,Y7]at this
    rcases this with h | h
    ·left;rw [h];rfl
    ·exact .inr h.2
   have hn:KS (BU (Bm L (AC L) v) L[m] 4 out).2=true:=by
    rw [Q2,YH]
    intro k hk'
    have hk4:k<4:=by simpa using hk'
    rw [decide_eq_true_eq,Sr _ _ _ 4 (by omega) k hk4,JL (hk k hk4)];rfl
   unfold Ii
   rw [hn,if_pos rfl,XP _ _ hk 4 (by omega)]
   simp only [Bm,hE,if_true]
  | false=>
   rw [hE]at he
   have:¬ ∀k,k<4→(L[m].kid k=0∨(AC L).getD (L[m].kid k).toNat true=true):=fun h=>by
    have:((List.range 4).all fun k=>decide (L[m].kid k=0)||(decide (1<L[m].lv)&&(AC L).getD (L[m].kid k).toNat true))=true:=by
     rw [YH]
     intro k hk
     have:=h k (by simpa using hk)
     simp only [Z4,decide_eq_true_eq,Y7]
     rcases this with q | q
     ·exact .inl q
     ·exact .inr ⟨h1,q⟩
    rw [this]at he;cases he
   have ⟨k,hk4,hk0⟩:∃k,k<4∧¬(L[m].kid k=0∨(AC L).getD (L[m].kid k).toNat true=true):=by
    by_cases h:∃k,k<4∧¬(L[m].kid k=0∨(AC L).getD (L[m].kid k).toNat true=true)
    ·exact h
    ·exact absurd (fun k hk=>Decidable.byContradiction fun hc=>h ⟨k,hk,hc⟩) this
   have hn:KS (BU (Bm L (AC L) v) L[m] 4 out).2=false:=by
    rw [Q2,Qae]
    refine ⟨k,by simpa using hk4,?_⟩
    rw [decide_eq_true_eq,Sr _ _ _ 4 (by omega) k hk4]
    obtain ⟨v',rfl⟩:∃v',v=v'+1:=⟨v-1,by omega⟩
    have:=insF_pos (L:=L) (v:=v') (n:=(L[m].kid k).toNat) (out:=(BU (Bm L (AC L) (v'+1)) L[m] k out).1) (by
     cases hq:(AC L).getD (L[m].kid k).toNat true with
     | false=>rfl
     | true=>exact absurd (.inr hq) hk0)
    omega
   unfold Ii
   rw [hn]
   simp only [Bm,hE,Y4,if_false,hx,if_pos h1]
 ·rw [if_neg h1]
  have hn:KS L[m]=(AC L).getD (m+1) true:=by
   rw [he,Q2,Qs,Qs]
   simp [h1]
  unfold Ii
  simp only [BU,Bm,hn,hx,if_neg h1]
structure Seat where
 b:Nat
 pd:Nat
 pl:Nat
 pv:Nat
 pa:Nat
 ar:Nat
 km:Nat
 dm:Nat
structure VQ (s:Seat) (L:List Nd) (tk:Tok) (out:List Nd) (D:List (Nat×Nat)) (H:Aa):Prop where
 hb:s.b≤s.ar∧s.b≤s.km∧s.b≤s.dm∧s.km≠s.dm
 ne:s.pd≠s.ar∧s.pl≠s.ar∧s.pv≠s.ar∧s.pa≠s.ar
 done:H[s.pd]? = some (.cel 0 [.mp s.dm])
 list:H[s.pl]? = some (.cel 0 [.sl (enL cNd L) tk])
 self:H[s.pv]? = some (.cel 0 [.fn 161 [.ptr s.pd 0 0,.ptr s.pl 0 0,.ptr s.pv 0 0,.ptr s.pa 0 0]])
 arena:H[s.pa]? = some (.cel 0 [.ptr s.ar 0 0])
 nodes:∃v,AR s.b s.ar s.km out v H
 nums:H[s.dm]? = some (.map (dnM D))
structure VD (L out:List Nd) (D:List (Nat×Nat)):Prop where
 nd:(D.map (·.1)).Nodup
 le:∀p∈D,p.1≤L.length
 val:∀p∈D,Bm L (AC L) (AS L (p.1:Int)).lv.toNat p.1 out=(out,p.2)
 cnt:out.length<D.length
 zero:lkD D 0=some 0
theorem VD.short {L out:List Nd} {D:List (Nat×Nat)} (h:VD L out D):out.length≤L.length:=by
 have:=nodup_le (L.length+1) (D.map (·.1)) h.nd (fun x hx=>by
  obtain ⟨p,hp,rfl⟩:=ZQ.1 hx
  have:=h.le p hp;omega)
 rw [Zx]at this
 have:=h.cnt;omega
theorem VQ.len {s:Seat} {L:List Nd} {tk:Tok} {out:List Nd} {D:List (Nat×Nat)} {H:Aa} (h:VQ s L tk out D H):s.b≤H.length:=by
 obtain ⟨v,h1⟩:=h.nodes
 have:=(Yw.1 h1.cell).1
 have:=h.hb.1;omega
theorem VQ.cells {s:Seat} {L:List Nd} {tk:Tok} {out:List Nd} {D:List (Nat×Nat)} {H H':Aa} (h:VQ s L tk out D H) (hk:∀i,i<H.length→H'[i]? = H[i]?) (hl:H.length≤H'.length):VQ s L tk out D H':=by
 have g:∀ {i:Nat} {x:Blk},H[i]? = some x→H'[i]? = some x:=fun hx=>by rw [hk _ (Yw.1 hx).1];exact hx
 obtain ⟨v,h1⟩:=h.nodes
 refine ⟨h.hb,h.ne,g h.done,g h.list,g h.self,g h.arena,⟨v,g h1.cell,?_,g h1.known⟩,g h.nums⟩
 rcases h1.row with r | ⟨t,r1,r2,r3⟩
 ·exact .inl r
 ·exact .inr ⟨t,r1,r2,g r3⟩
theorem VQ.put {s:Seat} {L:List Nd} {tk:Tok} {out:List Nd} {D:List (Nat×Nat)} {H:Aa} {q:Nat} {x y:Nd} (h:VQ s L tk out D H) (hq:H[q]? = some (.cel 0 (cNd x))):VQ s L tk out D (H.set q (.cel 0 (cNd y))):=by
 obtain ⟨v,h1⟩:=h.nodes
 have n5:∀ {i:Nat} {c:List Ab},H[i]? = some (.cel 0 c)→c.length≠5→(H.set q (.cel 0 (cNd y)))[i]? = some (.cel 0 c):=fun {i c} hi hc=>by
  have:q≠i:=fun e=>by rw [e,hi]at hq;injection hq with hq;injection hq with _ hq;rw [hq]at hc;exact hc rfl
  rw [Yv this];exact hi
 have nm:∀ {i:Nat} {es:List (Ab×Ab)},H[i]? = some (.map es)→(H.set q (.cel 0 (cNd y)))[i]? = some (.map es):=fun {i es} hi=>by
  have:q≠i:=fun e=>by rw [e,hi]at hq;cases hq
  rw [Yv this];exact hi
 exact ⟨h.hb,h.ne,n5 h.done (by simp),n5 h.list (by simp),n5 h.self (by simp),n5 h.arena (by simp),⟨v,n5 h1.cell (by simp),h1.row.put hq,nm h1.known⟩,nm h.nums⟩
theorem VD.grow {L out:List Nd} {D:List (Nat×Nat)} (h:VD L out D) (r:List Nd):∀p∈D,Bm L (AC L) (AS L (p.1:Int)).lv.toNat p.1 (out++r)=(out++r,p.2):=by
 intro p hp
 have h3:=h.val p hp
 have:=IB (L:=L) (E:=AC L) (AS L (p.1:Int)).lv.toNat p.1 out r
 rwa [h3]at this
theorem c06_visit {s:Seat} {L:List Nd} {tk:Tok} (hL:L.length<2000000000000) (hl:AU L=true):∀(v n d:Nat) (out:List Nd) (D:List (Nat×Nat)) (H:Aa),n≤L.length→(n=0∨(AS L (n:Int)).lv.toNat=v)→v<d→VQ s L tk out D H→VD L out D →
  ∃H' D',Sh.fj d (.int .i64 (n:Int)) (.ptr s.pd 0 0) (.ptr s.pl 0 0) (.ptr s.pv 0 0) (.ptr s.pa 0 0) H=some (.ret (.int .i64 ((Bm L (AC L) v n out).2:Int)),H') ∧
   VQ s L tk (Bm L (AC L) v n out).1 D' H'∧Ext s.b s.ar H H'∧VD L (Bm L (AC L) v n out).1 D'∧∀j,n<j→lkD D' j=lkD D j:=by
 intro v
 induction v with
 | zero=>
  intro n d out D H hn hv hd hQ hD
  obtain ⟨d,rfl⟩:∃e,d=e+1:=⟨d-1,by omega⟩
  have hn0:n=0:=by
   rcases hv with h | h
   ·exact h
   ·cases n with
    | zero=>rfl
    | succ m=>
     rw [BA (show m<L.length from hn)]at h
     have:=(AP hl (show m<L.length from hn)).1;omega
  subst hn0
  refine ⟨H,D,?_,hQ,Ext.refl _ _ _,hD,fun _ _=>rfl⟩
  show Sh.f50 (Sh.fj d) _ _ _ _ _ _=_
  have hlk:=lookA_dn hQ.nums 0
  rw [hD.zero]at hlk
  unfold Sh.f50
  simp only [GMb,GMc,HPa,HPc,HPd,HPe,HPz,Nat.reduceAdd,Nat.reduceLT,CR hQ.done,hlk]
  rfl
 | succ v ih=>
  intro n d out D H hn hv hd hQ hD
  obtain ⟨d,rfl⟩:∃e,d=e+1:=⟨d-1,by omega⟩
  show ∃H' D',Sh.f50 (Sh.fj d) _ _ _ _ _ _=_∧_
  have hlk:=lookA_dn hQ.nums n
  unfold Sh.f50
  simp only [GMb,GMc,HPa,HPc,HPd,HPe,HPz,Nat.reduceAdd,Nat.reduceLT,CR hQ.done,hlk]
  cases hln:lkD D n with
  | some m=>
   have hmem:=lkD_mem hln
   have hval:=hD.val _ hmem
   dsimp only at hval
   have hins:Bm L (AC L) (v+1) n out=(out,m):=by
    rcases hv with h | h
    ·have:=JL (L:=L) (v:=(AS L (n:Int)).lv.toNat) (out:=out) (n:=n) (.inl h)
     rw [hval]at this
     rw [JL (.inl h)]
     exact this.symm
    ·rw [h]at hval;exact hval
   rw [hins]
   exact ⟨H,D,by simp only [GMb,GMc,HPa,HPc,HPd,HPe,HPz,Nat.reduceAdd,Nat.reduceLT],hQ,Ext.refl _ _ _,hD,fun _ _=>rfl⟩
  | none=>
   obtain ⟨m,rfl⟩:∃m,n=m+1:=⟨n-1,by
    cases n with
    | zero=>rw [hD.zero]at hln;cases hln
    | succ n=>rfl⟩
   have hm:m<L.length:=hn
   have hv':(AS L ((m+1:Nat):Int)).lv.toNat=v+1:=by
    rcases hv with h | h
    ·omega
    ·exact h
   obtain ⟨l1,l2,l3⟩:=AP hl hm
   have hx:AS L ((m+1:Nat):Int)=L[m]:=BA hm
   rw [hx]at hv'
   have hwm:IntKind.i64.wrap (((m+1:Nat):Int)-1)=(m:Int):=by rw [Am] <;> omega
   have hble:=hQ.len
   have hQ1:VQ s L tk out D (H++[.cel 0 (cNd L[m])]):=hQ.cells (fun i hi=>Yx hi) (by simp)
   have hE1:Ext s.b s.ar H (H++[.cel 0 (cNd L[m])]):=Ext.snoc hble _
   have hHar:H.length≠s.ar:=by
    obtain ⟨v,h1⟩:=hQ.nodes
    have:=(Yw.1 h1.cell).1;omega
   simp only [GMb,GMc,HPa,HPc,HPd,HPe,HPz,Nat.reduceAdd,Nat.reduceLT,CR hQ.list,Fr,hwm,Ay hm,Jg,BY,FN,Fd,FF]
   have fin:∀(Hc:Aa) (D1:List (Nat×Nat)),lkD D1 (m+1)=none→VQ s L tk (BU (Bm L (AC L) v) L[m] (if 1<L[m].lv then 4 else 0) out).1 D1 Hc→Hc[H.length]? = some (.cel 0 (cNd (BU (Bm L (AC L) v) L[m] (if 1<L[m].lv then 4 else 0) out).2))→Ext s.b s.ar H Hc→VD L (BU (Bm L (AC L) v) L[m] (if 1<L[m].lv then 4 else 0) out).1 D1→(∀j,m<j→lkD D1 j=lkD D j) →
     ∃H' D',Sh.f5x H (.int .i64 ((m+1:Nat):Int)) (.ptr s.pd 0 0) (.ptr s.pa 0 0) (.ptr H.length 0 0) Hc=some (.ret (.int .i64 ((Bm L (AC L) (v+1) (m+1) out).2:Int)),H') ∧
      VQ s L tk (Bm L (AC L) (v+1) (m+1) out).1 D' H'∧Ext s.b s.ar H H'∧VD L (Bm L (AC L) (v+1) (m+1) out).1 D'∧∀j,m+1<j→lkD D' j=lkD D j:=by
    intro Hc D1 hl1 hQc hbox hEc hDc hjj
    have hint:=intern_ins hl hm hv' out
    have hagain:=IB (L:=L) (E:=AC L) (v+1) (m+1) out []
    rw [YP]at hagain
    generalize BU (Bm L (AC L) v) L[m] (if 1<L[m].lv then 4 else 0) out=io at *
    obtain ⟨o,y⟩:=io
    dsimp only at *
    obtain ⟨vv,hA⟩:=hQc.nodes
    have hsh:=hDc.short
    obtain ⟨v',H2,i1,i2,i3⟩:=c06_intern hA hQc.hb.1 hQc.hb.2.1 hQc.len y (by omega)
    rw [hint]at i1 i2
    have hdm:s.dm≠s.km:=Ne.symm hQc.hb.2.2.2
    have hdn:=i3.map _ _ hdm hQc.nums
    have hpd:=i3.cel _ _ hQc.ne.1 hQc.done
    have hup:=updA_dn (H:=H2) (n:=m+1) hdn (Bm L (AC L) (v+1) (m+1) out).2 hl1
    have hgrow:∃r,(Bm L (AC L) (v+1) (m+1) out).1=o++r:=by
     rw [←hint]
     unfold Ii Dr
     split
     ·exact ⟨[],by simp⟩
     ·split
      ·exact ⟨[y],rfl⟩
      ·exact ⟨[],by simp⟩
    have hglen:(Bm L (AC L) (v+1) (m+1) out).1.length≤o.length+1:=by
     rw [←hint]
     unfold Ii Dr
     split
     ·dsimp only;omega
     ·split
      ·simp
      ·dsimp only;omega
    refine ⟨H2.set s.dm (.map (dnM (D1++[(m+1,(Bm L (AC L) (v+1) (m+1) out).2)]))),D1++[(m+1,(Bm L (AC L) (v+1) (m+1) out).2)],?_,?_,hEc.trans ⟨?_,fun i cs hi hc=>?_,fun i hi=>?_⟩,?_,fun j hj=>?_⟩
    ·unfold Sh.f5x
     simp only [GMb,GMc,HPa,HPc,HPd,HPe,HPz,Nat.reduceAdd,Nat.reduceLT,CR hQc.arena,Fr,HK hbox,i1,CR hpd,hup]
    ·have hdl:s.dm<H2.length:=(Yw.1 hdn).1
     have nc:∀ {i:Nat} {c:List Ab},i≠s.ar→Hc[i]? = some (.cel 0 c)→(H2.set s.dm (.map (dnM (D1++[(m+1,(Bm L (AC L) (v+1) (m+1) out).2)]))))[i]? = some (.cel 0 c):=fun {i c} hi hc=>by
      have h2:=i3.cel i c hi hc
      have:s.dm≠i:=fun e=>by rw [←e,hdn]at h2;cases h2
      rw [Yv this];exact h2
     have hda:s.dm≠s.ar:=fun e=>by have:=i2.cell;rw [←e,hdn]at this;cases this
     exact ⟨hQc.hb,hQc.ne,nc hQc.ne.1 hQc.done,nc hQc.ne.2.1 hQc.list,nc hQc.ne.2.2.1 hQc.self,nc hQc.ne.2.2.2 hQc.arena,
      ⟨v',by rw [Yv hda];exact i2.cell,i2.row.setB hdn (fun _ _ _ e=>by cases e),by rw [Yv hdm];exact i2.known⟩,by rw [Y9 hdl]⟩
    ·rw [YW];exact i3.len
    ·have h2:=i3.cel i cs hi hc
     have:s.dm≠i:=fun e=>by rw [←e,hdn]at h2;cases h2
     rw [Yv this];exact h2
    ·have:=hQc.hb.2.2.1
     rw [Yv (by omega)];exact i3.old i hi
    ·obtain ⟨r,hr⟩:=hgrow
     refine ⟨?_,fun p hp=>?_,fun p hp=>?_,?_,?_⟩
     ·rw [List.map_append,List.nodup_append]
      refine ⟨hDc.nd,by simp,fun a ha b hb=>?_⟩
      have hbm:b=m+1:=by simpa using hb
      have:=lkD_none hl1
      exact fun e=>this (by rw [←hbm,←e];exact ha)
     ·rcases YN.1 hp with h | h
      ·exact hDc.le p h
      ·rw [YI.1 h];exact hn
     ·rcases YN.1 hp with h | h
      ·rw [hr];exact hDc.grow r p h
      ·rw [YI.1 h]
       dsimp only
       rw [hx,hv'];exact hagain
     ·rw [Y2,List.length_singleton];have:=hDc.cnt;omega
     ·rw [lkD_app,hDc.zero]
    ·rw [lkD_app,hjj j (by omega)]
     cases lkD D j with
     | some _=>rfl
     | none=>dsimp only;rw [if_neg (by omega)]
   by_cases hlv:L[m].lv>1
   ·simp only [hlv,GMb,GMc]
    have h1lt:1<L[m].lv:=hlv
    rw [if_pos h1lt]at fin
    have loop:=GB (G:=fun rec2 vs H1=>Sh.f5y H (Sh.fj d) (fun vs H=>Sh.f5x H (ag vs 0) (ag vs 1) (ag vs 2) (ag vs 3) H) rec2 (ag vs 0) (ag vs 1) (ag vs 2) (ag vs 3) (ag vs 4) (ag vs 5) (ag vs 6) H1) 4
     (fun k vs Hc=>∃D',vs=[.int .i64 ((m+1:Nat):Int),.ptr s.pd 0 0,.ptr s.pv 0 0,.ptr s.pa 0 0,.ptr H.length 0 0,.agg (Jh L[m]),.int .i64 (k:Int)]∧VQ s L tk (BU (Bm L (AC L) v) L[m] k out).1 D' Hc∧Hc[H.length]? = some (.cel 0 (cNd (BU (Bm L (AC L) v) L[m] k out).2))∧Ext s.b s.ar H Hc∧VD L (BU (Bm L (AC L) v) L[m] k out).1 D'∧lkD D' (m+1)=none∧∀j,m<j→lkD D' j=lkD D j)
     (by decide) (fun k vs Hc hk hI=>?_) (vs:=[.int .i64 ((m+1:Nat):Int),.ptr s.pd 0 0,.ptr s.pv 0 0,.ptr s.pa 0 0,.ptr H.length 0 0,.agg (Jh L[m]),.int .i64 0]) (H:=H++[Blk.cel 0 (cNd L[m])]) ⟨D,rfl,hQ1,by simp [BU],hE1,hD,hln,fun _ _=>rfl⟩
    ·obtain ⟨vs',Hc,⟨D',rfl,hQc,hbox,hEc,hDc,hlc,hjc⟩,rec,hloop⟩:=loop
     obtain ⟨H',D2,f1,f2⟩:=fin Hc D' hlc hQc hbox hEc hDc hjc
     refine ⟨H',D2,hloop.trans ?_,f2⟩
     unfold Sh.f5y
     simp only [GMb,GMc,Ai,show ¬(((4:Nat):Int)<4) from by decide]
     exact f1
    ·obtain ⟨D1,rfl,hQc,hbox,hEc,hDc,hlc,hjc⟩:=hI
     have hk':(k:Int)<4:=by omega
     obtain ⟨q1,q2,q3⟩:=l3 k hk
     obtain ⟨c,hc⟩:∃c:Nat,L[m].kid k=(c:Int):=⟨(L[m].kid k).toNat,by omega⟩
     have hcm:c≤m:=by
      by_cases h0:0<L[m].kid k
      ·have:=(q3 h1lt h0).1;omega
      ·omega
     have hcv:c=0∨(AS L (c:Int)).lv.toNat=v:=by
      by_cases h0:c=0
      ·exact .inl h0
      ·right
       obtain ⟨g,rfl⟩:∃g,c=g+1:=⟨c-1,by omega⟩
       have hgl:g<L.length:=by omega
       have:=(q3 h1lt (by omega)).2 L[g] (by rw [show (L[m].kid k-1).toNat=g by omega];exact Yu hgl)
       rw [BA hgl];omega
     obtain ⟨H1,D',r1,r2,r3,r4,r5⟩:=ih c d (BU (Bm L (AC L) v) L[m] k out).1 D1 Hc (by omega) hcv (by omega) hQc hDc
     have hbox1:=r3.cel _ _ hHar hbox
     have hst:=EO (c:=((Bm L (AC L) v c (BU (Bm L (AC L) v) L[m] k out).1).2:Int)) hbox1 hk
     have hstep:BU (Bm L (AC L) v) L[m] (k+1) out=((Bm L (AC L) v c (BU (Bm L (AC L) v) L[m] k out).1).1,(BU (Bm L (AC L) v) L[m] k out).2.setKid k ((Bm L (AC L) v c (BU (Bm L (AC L) v) L[m] k out).1).2:Int)):=by
      simp only [BU,hc,Int.toNat_natCast]
     rw [hstep]
     refine ⟨_,H1.set H.length (.cel 0 (cNd ((BU (Bm L (AC L) v) L[m] k out).2.setKid k ((Bm L (AC L) v c (BU (Bm L (AC L) v) L[m] k out).1).2:Int)))),⟨D',rfl,r2.put hbox1,?_,⟨by have:=hEc.len;have:=r3.len;rw [YW];omega,fun i cs hi hc=>?_,fun i hi=>?_⟩,r4,?_,fun j hj=>?_⟩,fun rec=>?_⟩
     ·rw [Y9 (Yw.1 hbox1).1]
     ·have:=(Yw.1 hc).1
      rw [Yv (by omega)];exact r3.cel i cs hi (hEc.cel i cs hi hc)
     ·rw [Yv (by omega),r3.old i hi];exact hEc.old i hi
     ·rw [r5 (m+1) (by omega)];exact hlc
     ·rw [r5 j (by omega)];exact hjc j hj
     ·have hcall:D6 (HU (Sh.fj d)) (.fn 161 [.ptr s.pd 0 0,.ptr s.pl 0 0,.ptr s.pv 0 0,.ptr s.pa 0 0]) [.int .i64 (c:Int)] Hc=Sh.fj d (.int .i64 (c:Int)) (.ptr s.pd 0 0) (.ptr s.pl 0 0) (.ptr s.pv 0 0) (.ptr s.pa 0 0) Hc:=rfl
      unfold Sh.f5y
      simp only [GMb,GMc,HPa,HPc,HPd,HPe,HPz,Nat.reduceAdd,Nat.reduceLT,Ai,hk',ag_kid _ hk,hc,CR hQc.self,Fr,hcall,r1,HL hk,hst,Av (show k<9223372036854775807 by omega)]
   ·simp only [hlv,GMb,GMc]
    rw [if_neg hlv]at fin
    exact fin _ D hln hQ1 (by simp [BU]) hE1 hD (fun _ _=>rfl)
theorem c06_of (L:List Nd) (tk:Tok) (n:Int) (H:Aa) (hL:L.length<1000000000000):Sh.f3s (.sl (enL cNd L) tk) (.int .i64 n) H =
  some (.ret (if ofOk L n then .tup [El (SR L n.toNat),.int .i64 0]else .tup [El [],.int .i64 1]),H):=by
 unfold Sh.f3s
 have hbx:Bz true 1 (.sl (enL cNd L) tk) H=some (.ptr H.length 0 0,H++[.cel 0 [.sl (enL cNd L) tk]]):=by
  unfold Bz;simp only [Yr,alloc_eq (cs:=[.sl (enL cNd L) tk]) rfl];rfl
 have hq0:Ab.agg [.sl [] .no]=El []:=rfl
 simp only [hbx,GMb,GMc,HPa,HPc,HPd,HPe,HPz,Nat.reduceAdd,Nat.reduceLT,c05_loose L tk _ (show L.length<1152921504606846976 by omega)]
 unfold ofOk
 have hb0:A2 (some [(.sl [] .tight)]) []=some (.agg [.sl [] .tight]):=rfl
 cases hl:AU L with
 | false=>simp only [GMb,GMc,HPa,HPc,HPd,HPe,HPz,Nat.reduceAdd,Nat.reduceLT,hb0,hq0,Y4,if_false]
 | true=>
  by_cases hn0:n<0
  ·have:¬0≤n:=by omega
   simp only [GMb,GMc,HPa,HPc,HPd,HPe,HPz,Nat.reduceAdd,Nat.reduceLT,hb0,hq0,hn0,this,Y4,if_false]
  ·have h0':0≤n:=by omega
   by_cases hn1:n>L.length
   ·have:¬n≤L.length:=by omega
    simp only [GMb,GMc,HPa,HPc,HPd,HPe,HPz,Nat.reduceAdd,Nat.reduceLT,hb0,hq0,hn0,h0',hn1,this,Aw,Y4,if_false]
   ·obtain ⟨n,rfl⟩:=Zj h0'
    have hle:n≤L.length:=by omega
    have hle':(n:Int)≤(L.length:Int):=by omega
    have hnn:¬(n:Int)>(L.length:Int):=hn1
    obtain ⟨s1,s2,s3⟩:=Xs hl hle
    unfold SR
    simp only [GMb,GMc,HPa,HPc,HPd,HPe,HPz,Nat.reduceAdd,Nat.reduceLT,hn0,h0',hnn,hle',Aw,c06_shrink L tk n _ (show L.length<3518437200000 by omega) hl hle,if_true,Int.toNat_natCast]
    generalize Ej L n=S at s1 s2 s3
    obtain ⟨M,r⟩:=S
    dsimp only at s1 s2 s3 ⊢
    have hlvv:(AS M (r:Int)).lv.toNat<AK:=by
     rw [Dg]
     by_cases hr:0<r
     ·have:=Tk s1 hr s2;omega
     ·obtain rfl:r=0:=by omega
      unfold AS
      rw [Y0]
      by_cases hM:0<M.length
      ·rw [show (((0:Nat):Int)-1).toNat=0 from rfl,Yu hM]
       have:=(AP s1 hM).2.1
       simp only [Option.getD_some];omega
      ·rw [show (((0:Nat):Int)-1).toNat=0 from rfl,YA (by omega)];simp
    have hmk:∀K:Aa,E9 K=some (.mp K.length,K++[.map []]):=fun _=>rfl
    have hb1:∀x,A2 (some [.sl [] .tight,.nilmap]) [(1,1,.mp x)]=some (.agg [.sl [] .tight,.mp x]):=fun _=>rfl
    have hup:Eg false 1 (.mp (H.length+5)) (.int .i64 0) (.int .i64 0) (H++[.cel 0 [.sl (enL cNd M) .no],.cel 0 [.sl [] .tight],.map [],.cel 0 [.sl [] .tight,.mp (H.length+2)],.cel 0 [.ptr (H.length+3) 0 0],.map []]) =
      some (H++[.cel 0 [.sl (enL cNd M) .no],.cel 0 [.sl [] .tight],.map [],.cel 0 [.sl [] .tight,.mp (H.length+2)],.cel 0 [.ptr (H.length+3) 0 0],.map (dnM [(0,0)])]):=by
     have:=updA_dn (H:=H++[.cel 0 [.sl (enL cNd M) .no],.cel 0 [.sl [] .tight],.map [],.cel 0 [.sl [] .tight,.mp (H.length+2)],.cel 0 [.ptr (H.length+3) 0 0],.map []]) (id:=H.length+5) (D:=[]) (by simp [dnM]) (n:=0) 0 rfl
     rw [show ((0:Nat):Int)=0 from rfl]at this
     rw [this,YR _ _ (by omega),show H.length+5-H.length=5 by omega]
     rfl
    have hf:∀l:List Ab,Af 1 (.ptr 0 0 0) (.fn 161 l) [Blk.cel 0 [.nilfn]]=some [.cel 0 [.fn 161 l]]:=fun l=>RU rfl (by simp)
    obtain ⟨F,hF⟩:∃F:Aa,F=H++[.cel 0 [.sl (enL cNd M) .no],.cel 0 [.sl [] .tight],.map [],.cel 0 [.sl [] .tight,.mp (H.length+2)],.cel 0 [.ptr (H.length+3) 0 0],.map (dnM [(0,0)]),.cel 0 [.mp (H.length+5)],.cel 0 [.fn 161 [.ptr (H.length+6) 0 0,.ptr H.length 0 0,.ptr (H.length+7) 0 0,.ptr (H.length+4) 0 0]]]:=⟨_,rfl⟩
    have hQ:VQ ⟨H.length,H.length+6,H.length,H.length+7,H.length+4,H.length+3,H.length+2,H.length+5⟩ M .no [] [(0,0)] F:=by
     refine ⟨⟨by dsimp only;omega,by dsimp only;omega,by dsimp only;omega,by dsimp only;omega⟩,⟨by dsimp only;omega,by dsimp only;omega,by dsimp only;omega,by dsimp only;omega⟩,?_,?_,?_,?_,⟨.sl [] .tight,?_,.inl ⟨rfl,rfl⟩,?_⟩,?_⟩ <;> (rw [hF];simp [knF])
    have hD:VD M [] [(0,0)]:=⟨by simp,fun p hp=>by rw [YI.1 hp];exact YL _,fun p hp=>by rw [YI.1 hp];exact JL (.inl rfl),by simp,rfl⟩
    obtain ⟨H',D',v1,v2,v3,v4,v5⟩:=c06_visit (s:=⟨H.length,H.length+6,H.length,H.length+7,H.length+4,H.length+3,H.length+2,H.length+5⟩) (L:=M) (tk:=.no) (by omega) s1 (AS M (r:Int)).lv.toNat r AK [] [(0,0)] F s2 (.inr rfl) hlvv hQ hD
    dsimp only at v1 v3
    have hcall:D6 Jw (.fn 161 [.ptr (H.length+6) 0 0,.ptr H.length 0 0,.ptr (H.length+7) 0 0,.ptr (H.length+4) 0 0]) [.int .i64 (r:Int)] F=Sh.fj AK (.int .i64 (r:Int)) (.ptr (H.length+6) 0 0) (.ptr H.length 0 0) (.ptr (H.length+7) 0 0) (.ptr (H.length+4) 0 0) F:=rfl
    rw [v1]at hcall
    rw [hF]at hcall
    have hres:H'[H.length+1]? = some (.cel 0 [.sl [] .tight]):=v3.cel _ _ (by omega) (by rw [hF];simp)
    have hold:∀i,i<H.length→H'[i]? = H[i]? := fun i hi=>by rw [v3.old i hi,hF,Yx hi]
    obtain ⟨v,hA⟩:=v2.nodes
    have hpa:=CR (o:=0) (sz:=1) v2.arena
    have har:=CR (o:=0) (sz:=1) hA.cell
    dsimp only at hpa har
    obtain ⟨tk3,rfl⟩:=hA.row.sl
    generalize (Bm M (AC M) (AS M (r:Int)).lv.toNat r []).1=Q at *
    have hb:A2 (some [(.sl [] .tight)]) [(0,1,.sl (enL cNd Q) tk3)]=some (.agg [.sl (enL cNd Q) tk3]):=by simp [A2,Gu,DF]
    have hst:=FZ (sz:=1) (ws:=[.sl (enL cNd Q) tk3]) hres rfl rfl rfl
    have hcl:=(Yw.1 hres).1
    have hld:=ET (sz:=1) (H:=H'.set (H.length+1) (.cel 0 [.sl (enL cNd Q) tk3])) (p:=H.length+1) (by rw [Y9 hcl]) rfl
    have htake:(H'.set (H.length+1) (.cel 0 [.sl (enL cNd Q) tk3])).take H.length=H:=Cv fun i hi=>by
     rw [Yv (by omega)];exact hold i hi
    simp only [GMb,GMc,HPa,HPc,HPd,HPe,HPz,Nat.reduceAdd,Nat.reduceLT,hmk,hb1,hup,hf,hcall,hpa,har,Fr,hb,hst,hld,Gc htake]
    rfl
structure Q4 (b p:Nat) (S:Nat→List Sp) (W:Nat→Ab) (T:Nat→Nat) (H:Aa):Prop where
 blk:H[p]? = some (.cel 0 [W 0,W 1,W 2,W 3])
 row:∀k,k<4→(S k=[]∧W k=.sl [] .tight)∨(S k≠[]∧b≤T k∧W k=.sl (enL cSp (S k)) (.own (T k))∧H[T k]? = some (.tok (S k).length BO 3))
 ne:∀i j,i<4→j<4→i≠j→S i≠[]→S j≠[]→T i≠T j
def up {α:Type} (f:Nat→α) (k:Nat) (a:α):Nat→α:=fun j=>if j=k then a else f j
theorem Ks {α:Type} (f:Nat→α) (k:Nat) (a:α):up f k a k=a:=if_pos rfl
theorem EN {α:Type} (f:Nat→α) {j k:Nat} (a:α) (h:j≠k):up f k a j=f j:=if_neg h
theorem up_cells (W:Nat→Ab) {k:Nat} (hk:k<4) (w:Ab):[W 0,W 1,W 2,W 3].set k w=[up W k w 0,up W k w 1,up W k w 2,up W k w 3]:=by
 match k,hk with
 | 0,_=>rfl
 | 1,_=>rfl
 | 2,_=>rfl
 | 3,_=>rfl
theorem get_cells (W:Nat→Ab) {k:Nat} (hk:k<4):[W 0,W 1,W 2,W 3][k]? = some (W k):=by
 match k,hk with
 | 0,_=>rfl
 | 1,_=>rfl
 | 2,_=>rfl
 | 3,_=>rfl
theorem Q4.push {b p:Nat} {S:Nat→List Sp} {W:Nat→Ab} {T:Nat→Nat} {H:Aa} (h:Q4 b p S W T H) (G:Aa):Q4 b p S W T (H++G):=
 ⟨A1 h.blk,fun k hk=>by
  rcases h.row k hk with q | ⟨q0,q1,q2,q3⟩
  ·exact .inl q
  ·exact .inr ⟨q0,q1,q2,A1 q3⟩,h.ne⟩
theorem Q4.add {b p:Nat} {S:Nat→List Sp} {W:Nat→Ab} {T:Nat→Nat} {H:Aa} (h:Q4 b p S W T H) (hb:b≤p) {k:Nat} (hk:k<4) (s:Sp) (hl:(S k).length<1000000000) :
  ∃w' H1 T',Ac false 1 (.ptr p 0 k) H=some (W k)∧AN BO 3 56 (W k) (.sl (enL cSp [s]) .tight) H=some (w',H1)∧Af 1 (.ptr p 0 k) w' H1=some (H1.set p (.cel 0 [up W k w' 0,up W k w' 1,up W k w' 2,up W k w' 3])) ∧
   Q4 b p (up S k (S k++[s])) (up W k w') T' (H1.set p (.cel 0 [up W k w' 0,up W k w' 1,up W k w' 2,up W k w' 3]))∧H.length≤H1.length∧∀i,i<b→H1[i]? = H[i]? := by
 have hpl:p<H.length:=(Yw.1 h.blk).1
 have hld:Ac false 1 (.ptr p 0 k) H=some (W k):=by rw [CR h.blk];exact get_cells W hk
 have hlen4:k<[W 0,W 1,W 2,W 3].length:=hk
 rcases h.row k hk with ⟨q1,q2⟩ | ⟨q0,q1,q2,q3⟩
 ·have ha:=CE (f:=cSp) (sz:=3) (l:=[]) (m:=[s]) (ty:=BO) (bytes:=56) (tk:=.tight) (H:=H) (by simp) (by simp) (by simp)
  simp only [List.nil_append,List.length_nil,List.length_singleton,Yy,FS]at ha
  have hblk1:(H++[Blk.tok 1 BO 3])[p]? = some (.cel 0 [W 0,W 1,W 2,W 3]):=A1 h.blk
  have hst:=K9 (v:=.sl (enL cSp [s]) (.own H.length)) hblk1 rfl hlen4
  rw [up_cells W hk]at hst
  refine ⟨.sl (enL cSp [s]) (.own H.length),H++[Blk.tok 1 BO 3],up T k H.length,hld,by rw [q2];exact ha,hst,⟨?_,fun j hj=>?_,fun i j hi hj hij hsi hsj=>?_⟩,by simp,fun i hi=>Yx (by omega)⟩
  ·rw [Y9 (by simp;omega)]
  ·by_cases e:j=k
   ·subst e
    right
    rw [Ks,Ks,Ks,q1,Yv (by omega)]
    exact ⟨by simp,by omega,rfl,by simp⟩
   ·rw [EN _ _ e,EN _ _ e,EN _ _ e]
    rcases h.row j hj with r | ⟨r0,r1,r2,r3⟩
    ·exact .inl r
    ·have:p≠T j:=fun e=>by rw [←e,h.blk]at r3;cases r3
     exact .inr ⟨r0,r1,r2,by rw [Yv this];exact A1 r3⟩
  ·have lt:∀i,i<4→S i≠[]→T i<H.length:=fun i hi hs=>by
    rcases h.row i hi with r | ⟨r0,r1,r2,r3⟩
    ·exact absurd r.1 hs
    ·exact (Yw.1 r3).1
   by_cases e1:i=k
   ·have e2:j≠k:=fun e=>hij (by omega)
    rw [e1,Ks,EN _ _ e2]
    rw [EN _ _ e2]at hsj
    have:=lt j hj hsj;omega
   ·rw [EN _ _ e1]at hsi ⊢
    by_cases e2:j=k
    ·rw [e2,Ks];have:=lt i hi hsi;omega
    ·rw [EN _ _ e2]at hsj ⊢
     exact h.ne i j hi hj hij hsi hsj
 ·have ha:=Ey (f:=cSp) (sz:=3) (l:=S k) (m:=[s]) (ty:=BO) (bytes:=56) (tk:=.tight) (H:=H) (t:=T k) (by simp) q3 (by simp;omega) (by simp;omega)
  simp only [List.length_singleton]at ha
  have htl:T k<H.length:=(Yw.1 q3).1
  have hpt:T k≠p:=fun e=>by rw [e,h.blk]at q3;cases q3
  have hblk1:(H.set (T k) (Blk.tok ((S k).length+1) BO 3))[p]? = some (.cel 0 [W 0,W 1,W 2,W 3]):=by rw [Yv hpt];exact h.blk
  have hst:=K9 (v:=.sl (enL cSp (S k++[s])) (.own (T k))) hblk1 rfl hlen4
  rw [up_cells W hk]at hst
  refine ⟨.sl (enL cSp (S k++[s])) (.own (T k)),H.set (T k) (Blk.tok ((S k).length+1) BO 3),T,hld,by rw [q2];exact ha,hst,⟨?_,fun j hj=>?_,fun i j hi hj hij hsi hsj=>?_⟩,by simp,fun i hi=>Yv (by omega)⟩
  ·rw [Y9 (by simp;omega)]
  ·by_cases e:j=k
   ·subst e
    right
    rw [Ks,Ks,Yv (Ne.symm hpt),Y9 htl]
    exact ⟨by simp,q1,rfl,by simp⟩
   ·rw [EN _ _ e,EN _ _ e]
    rcases h.row j hj with r | ⟨r0,r1,r2,r3⟩
    ·exact .inl r
    ·have:p≠T j:=fun e=>by rw [←e,h.blk]at r3;cases r3
     have h2:T k≠T j:=h.ne k j hk hj (Ne.symm e) q0 r0
     exact .inr ⟨r0,r1,r2,by rw [Yv this,Yv h2];exact r3⟩
  ·have b1:S i≠[]:=by
    by_cases e1:i=k
    ·rw [e1];exact q0
    ·rw [EN _ _ e1]at hsi;exact hsi
   have b2:S j≠[]:=by
    by_cases e1:j=k
    ·rw [e1];exact q0
    ·rw [EN _ _ e1]at hsj;exact hsj
   exact h.ne i j hi hj hij b1 b2
def SpOk (p:Sp):Prop:=(A4 p.a).length≤1000000∧(A4 p.b).length≤1000000
theorem O8 (s:Sp):AO 3 [.agg (cSp s)]=some (.sl (enL cSp [s]) .tight):=by
 simp [AO,De,CF,cSp,Ab.isScal,Oe,Cb,enL]
theorem qOf_lt (v:Nat) (p:Sp):qOf v p<4:=by unfold qOf;split <;> split <;> omega
theorem qSp_snoc {v k:Nat} {S:List Sp} {s:Sp}:qSp v k (S++[s])=if k=qOf v s then qSp v k S++[s]else qSp v k S:=by
 unfold qSp
 rw [Zd]
 by_cases h:k=qOf v s
 ·rw [if_pos h];simp [h]
 ·rw [if_neg h]
  have:¬qOf v s=k:=fun e=>h e.symm
  simp [this]
theorem lay_turn {self:Ab→Ab→Ab→Aa→Out} {pb v:Nat} {S:List Sp} {tk:Tok} {H B Hc:Aa} {W:Nat→Ab} {T:Nat→Nat} {i:Nat} (hi:i<S.length) (hok:∀p∈S,SpOk p) (hS:S.length<1000000000) (hv:v<100000)
  (hBb:H.length=B.length) (hq:Q4 B.length B.length (fun k=>qSp v k (S.take i)) W T Hc) (hlen:B.length≤Hc.length) (hold:∀i,i<B.length→Hc[i]? = B[i]?) :
  ∃W' T' Hd,(∀rec:LK,Sh.f4x H self rec (.ptr pb 0 0) (.int .i64 ((v+1:Nat):Int)) (.ptr B.length 0 0) (.sl (enL cSp S) tk) (.int .i64 (S.length:Int)) (.int .i64 (i:Int)) Hc=rec [.ptr pb 0 0,.int .i64 ((v+1:Nat):Int),.ptr B.length 0 0,.sl (enL cSp S) tk,.int .i64 (S.length:Int),.int .i64 ((i+1:Nat):Int)] Hd) ∧
   Q4 B.length B.length (fun k=>qSp v k (S.take (i+1))) W' T' Hd∧B.length≤Hd.length∧(∀i,i<B.length→Hd[i]? = B[i]?):=by
 have d1:decide ((i:Int)<(S.length:Int))=true:=decide_eq_true (by omega)
 have hsi:=hok _ (Y8 hi)
 have hlt:=qOf_lt v S[i]
 have hq1:Q4 B.length B.length (fun k=>qSp v k (S.take i)) W T (Hc++[.cel 0 (cSp S[i])]):=hq.push _
 have hll:(qSp v (qOf v S[i]) (S.take i)).length<1000000000:=Zm (Z2 _ _) (by rw [YC];omega)
 obtain ⟨w',H1,T',a1,a2,a3,a4,a5,a6⟩:=hq1.add (Yz _) hlt S[i] hll
 have hw:=Av (show i<9223372036854775807 by omega)
 have w1:IntKind.i64.wrap (((v+1:Nat):Int)-1)=(v:Int):=by rw [Am] <;> omega
 have bx:=fun K=>p_bit S[i].a v .no K hsi.1 (by omega)
 have bY:=fun K=>p_bit S[i].b v .no K hsi.2 (by omega)
 have e1:(Hc++[Blk.cel 0 [Ab.sl [] .tight,.sl [] .tight,.int .u8 0]])[Hc.length]? = some (.cel 0 [.sl [] .tight,.sl [] .tight,.int .u8 0]):=Ap
 have e2:(Hc++[Blk.cel 0 (cSp S[i])])[Hc.length]? = some (.cel 0 (cSp S[i])):=Ap
 have hst:Af 3 (.ptr Hc.length 0 0) (.agg (cSp S[i])) (Hc++[Blk.cel 0 [Ab.sl [] .tight,.sl [] .tight,.int .u8 0]])=some (Hc++[Blk.cel 0 (cSp S[i])]):=by
  rw [FZ (sz:=3) (ws:=cSp S[i]) e1 rfl rfl rfl,Bd]
 have ldA:Ac true 3 (.cptr (cSp S[i]) 0) Hc=some (.agg (cSp S[i])):=rfl
 have ld0:Ac false 1 (.ptr Hc.length 0 0) (Hc++[Blk.cel 0 (cSp S[i])])=some (.sl (enL cU (A4 S[i].a)) .no):=by rw [CR e2];rfl
 have ld1:Ac false 1 (.ptr Hc.length 0 1) (Hc++[Blk.cel 0 (cSp S[i])])=some (.sl (enL cU (A4 S[i].b)) .no):=by rw [CR e2];rfl
 have ldG:Ac true 3 (.ptr Hc.length 0 0) (Hc++[Blk.cel 0 (cSp S[i])])=some (.agg (cSp S[i])):=ET e2 rfl
 have hal:Ax (some [(.sl [] .tight),(.sl [] .tight),(.int .u8 0)]) Hc=some (.ptr Hc.length 0 0,Hc++[.cel 0 [Ab.sl [] .tight,.sl [] .tight,.int .u8 0]]):=alloc_eq rfl
 have hix:=HL (K:=.i64) (id:=B.length) (g:=0) (o:=0) hlt
 rw [Yy]at hix
 have w2:IntKind.i64.wrap (0+1)=1:=rfl
 have w3:IntKind.i64.wrap (0+2)=2:=rfl
 have w4:IntKind.i64.wrap (1+2)=3:=rfl
 refine ⟨up W (qOf v S[i]) w',T',H1.set B.length (.cel 0 [up W (qOf v S[i]) w' 0,up W (qOf v S[i]) w' 1,up W (qOf v S[i]) w' 2,up W (qOf v S[i]) w' 3]),fun rec=>?_,?_,?_,?_⟩
 ·unfold Sh.f4x Sh.f83 Sh.f82
  simp only [GMb,GMc,d1,Aw,Ay hi,ldA,hal,hst,AH,Ah,Yy,ld0,w1,bx]
  have fin:∀k:Int,k=((qOf v S[i]:Nat):Int)→(BQ 4 1 (.ptr B.length 0 0) (.int .i64 k))=some (.ptr B.length 0 (qOf v S[i])):=fun k hk=>by rw [hk];exact hix
  cases hA:S[i].a.testBit v with
  | true=>
   cases hB:S[i].b.testBit v with
   | true=>
    have f:=fin 3 (by unfold qOf;rw [hA,hB];rfl)
    simp only [GMb,GMc,w2,ld1,bY,hB,w4,f,a1,ldG,O8,a2,a3,AL,hw,Al,Ai,Bb,Bf,B2,BK,D8]
   | false=>
    have f:=fin 1 (by unfold qOf;rw [hA,hB];rfl)
    simp only [GMb,GMc,w2,ld1,bY,hB,f,a1,ldG,O8,a2,a3,AL,hw,Al,Ai,Bb,Bf,B2,BK,D8]
  | false=>
   cases hB:S[i].b.testBit v with
   | true=>
    have f:=fin 2 (by unfold qOf;rw [hA,hB];rfl)
    simp only [GMb,GMc,w3,ld1,bY,hB,f,a1,ldG,O8,a2,a3,AL,hw,Al,Ai,Bb,Bf,B2,BK,D8]
   | false=>
    have f:=fin 0 (by unfold qOf;rw [hA,hB];rfl)
    simp only [GMb,GMc,ld1,bY,hB,f,a1,ldG,O8,a2,a3,AL,hw,Al,Ai,Bb,Bf,B2,BK,D8]
 ·have hs:(fun k=>qSp v k (S.take (i+1)))=up (fun k=>qSp v k (S.take i)) (qOf v S[i]) (qSp v (qOf v S[i]) (S.take i)++[S[i]]):=by
   funext k
   rw [Y5 hi,qSp_snoc]
   unfold up
   by_cases h:k=qOf v S[i]
   ·rw [if_pos h,if_pos h,h]
   ·rw [if_neg h,if_neg h]
  rw [hs]
  exact a4
 ·rw [YW];simp at a5;omega
 ·intro j hj
  rw [Yv (by omega),a6 j hj,Yx (by omega)]
  exact hold j hj
def Lf (v:Nat) (S:List Sp):Nat→Nat
 | 0=>0
 | k+1=>Lf v S k+(qSp v k S).length
theorem SO (v:Nat):∀S:List Sp,Lf v S 4=S.length
 | []=>by simp [Lf,qSp]
 | p::S=>by
  have ih:=SO v S
  have hq:=qOf_lt v p
  simp only [Lf,qSp,Zp,List.length_cons]at ih ⊢
  generalize qOf v p=q at hq
  match q,hq with
  | 0,_=>simp;omega
  | 1,_=>simp;omega
  | 2,_=>simp;omega
  | 3,_=>simp;omega
theorem Yi (v:Nat) (S:List Sp) {k:Nat} (h:k≤4):Lf v S k≤S.length:=by
 have h4:=SO v S
 match k,h with
 | 0,_=>simp [Lf]
 | 1,_=>simp only [Lf]at h4 ⊢;omega
 | 2,_=>simp only [Lf]at h4 ⊢;omega
 | 3,_=>simp only [Lf]at h4 ⊢;omega
 | 4,_=>omega

mutual
theorem lay_len:∀(v:Nat) (out:List Nd) (S:List Sp),(Ed v out S).1.length≤out.length+S.length*v
 | 0,out,S=>by simp [Ed]
 | v+1,out,S=>by
  unfold Ed
  split
  ·simp
  ·rename_i hS
   have h:=Uj v out S 4 (Yz _)
   have hpos:0<S.length:=YZ.2 hS
   have:Lf v S 4*v≤S.length*v:=Za _ (Yi v S (Yz _))
   simp only [Y2,List.length_singleton,Nat.mul_succ]
   omega
theorem Uj:∀(v:Nat) (out:List Nd) (S:List Sp) (k:Nat),k≤4→(lyK (Ed v) v S k out).1.length≤out.length+Lf v S k*v
 | v,out,S,0,_=>by simp [lyK,Lf]
 | v,out,S,k+1,hk=>by
  have h:=Uj v out S k (by omega)
  unfold lyK
  split
  ·rename_i h0
   subst h0
   dsimp only;omega
  ·have h2:=lay_len v (lyK (Ed v) v S k out).1 (qSp v k S)
   dsimp only
   have:Lf v S (k+1)*v=Lf v S k*v+(qSp v k S).length*v:=by
    show (Lf v S k+(qSp v k S).length)*v=_
    rw [Zg]
   omega

end
theorem lyK_kid (rec:List Nd→List Sp→List Nd×Nat) (v:Nat) (S:List Sp) (out:List Nd):∀k,k≤4→∀j,k≤j→j<4→(lyK rec v S k out).2.kid j=0
 | 0,_,j,_,h4=>by
  match j,h4 with
  | 0,_=>rfl
  | 1,_=>rfl
  | 2,_=>rfl
  | 3,_=>rfl
 | k+1,hk,j,hj,h4=>by
  unfold lyK
  split
  ·rw [G5 _ _ (by omega) h4 (by omega)];exact lyK_kid rec v S out k (by omega) j (by omega) h4
  ·rw [G5 _ _ (by omega) h4 (by omega)];exact lyK_kid rec v S out k (by omega) j (by omega) h4
theorem setKid_id (x:Nd) {k:Nat} (hk:k<4) (h:x.kid k=0):x.setKid k 0=x:=by
 match k,hk with
 | 0,_=>simp only [Nd.kid]at h;unfold Nd.setKid;cases x;simp_all
 | 1,_=>simp only [Nd.kid]at h;unfold Nd.setKid;cases x;simp_all
 | 2,_=>simp only [Nd.kid]at h;unfold Nd.setKid;cases x;simp_all
 | 3,_=>simp only [Nd.kid]at h;unfold Nd.setKid;cases x;simp_all
theorem PS.same {b:Nat} {out:List Nd} {v:Ab} {H H':Aa} (h:PS b out v H) (hs:∀i,i<H.length→H'[i]? = H[i]?):PS b out v H':=by
 rcases h with h1 | ⟨t,h1,h2,h3⟩
 ·exact .inl h1
 ·exact .inr ⟨t,h1,h2,by rw [hs t (Yw.1 h3).1];exact h3⟩
def LayOk (b pb n:Nat) (self:Ab→Ab→Ab→Aa→Out):Prop:=
 ∀(out:List Nd) (w:Ab) (S:List Sp) (tk:Tok) (H:Aa),H[pb]? = some (.cel 0 [w])→PS b out w H→b≤H.length→(∀p∈S,SpOk p)→S.length<1000000000→out.length+S.length*n<3518437208880 →
  ∃H' w',self (.ptr pb 0 0) (.int .i64 (n:Int)) (.sl (enL cSp S) tk) H=some (.ret (.int .i64 ((Ed n out S).2:Int)),H')∧H'[pb]? = some (.cel 0 [w'])∧PS b (Ed n out S).1 w' H'∧Ext b pb H H'
theorem nd_new (v:Nat):A2 (some [(.int .i64 0),(.int .i64 0),(.int .i64 0),(.int .i64 0),(.int .i64 0)]) [(0,1,.int .i64 (v:Int))]=some (.agg (cNd ⟨(v:Int),0,0,0,0⟩)):=by
 simp [A2,Gu,DF,cNd]
theorem lay_kid {b pb q v k:Nat} {self:Ab→Ab→Ab→Aa→Out} {out:List Nd} {S:List Sp} {H Hd:Aa} {W:Nat→Ab} {w:Ab} (hself:v=0∨LayOk b pb v self) (hv:v<100000) (hk:k<4)
  (hW:∃tk,W k=.sl (enL cSp (qSp v k S)) tk) (hok:∀p∈S,SpOk p) (hS:S.length<1000000000) (hlen:out.length+S.length*v<3518437208880) (hbp:b≤pb) (hqp:q≠pb) (hbq:b≤q)
  (f1:Hd[pb]? = some (.cel 0 [w])) (f2:PS b (lyK (Ed v) v S k out).1 w Hd) (f3:Hd[q]? = some (.cel 0 (cNd (lyK (Ed v) v S k out).2))) :
  ∃w' He,(∀rec:LK,Sh.f28 H self rec (.ptr pb 0 0) (.int .i64 ((v+1:Nat):Int)) (.ptr q 0 0) (.agg [W 0,W 1,W 2,W 3]) (.int .i64 (k:Int)) Hd=rec [.ptr pb 0 0,.int .i64 ((v+1:Nat):Int),.ptr q 0 0,.agg [W 0,W 1,W 2,W 3],.int .i64 ((k+1:Nat):Int)] He) ∧
   He[pb]? = some (.cel 0 [w'])∧PS b (lyK (Ed v) v S (k+1) out).1 w' He∧He[q]? = some (.cel 0 (cNd (lyK (Ed v) v S (k+1) out).2))∧Hd.length≤He.length∧(∀(i:Nat) (cs:List Ab),i≠pb→i≠q→Hd[i]? = some (.cel 0 cs)→He[i]? = some (.cel 0 cs))∧∀i,i<b→He[i]? = Hd[i]? := by
 obtain ⟨tk,hW⟩:=hW
 have hk':decide ((k:Int)<4)=true:=decide_eq_true (by omega)
 have hpl:pb<Hd.length:=(Yw.1 f1).1
 have hql:q<Hd.length:=(Yw.1 f3).1
 have hag:Jz false 4 1 (.agg [W 0,W 1,W 2,W 3]) (.int .i64 (k:Int))=some (W k):=by
  match k,hk with
  | 0,_=>rfl
  | 1,_=>rfl
  | 2,_=>rfl
  | 3,_=>rfl
 have hw:=Av (show k<9223372036854775807 by omega)
 have w1:IntKind.i64.wrap (((v+1:Nat):Int)-1)=(v:Int):=by rw [Am] <;> omega
 have hix:=HL (K:=.i64) (id:=q) (g:=0) (o:=1) hk
 rcases ZI v with h0 | h0
 ·subst h0
  have d1:decide (((0+1:Nat):Int)>1)=false:=rfl
  have e:lyK (Ed 0) 0 S (k+1) out=((lyK (Ed 0) 0 S k out).1,(lyK (Ed 0) 0 S k out).2.setKid k (headP (qSp 0 k S))):=rfl
  rw [e]
  cases hq:qSp 0 k S with
  | nil=>
   rw [hq]at hW
   have hid:=setKid_id _ hk (lyK_kid (Ed 0) 0 S out k (by omega) k (Yz _) hk)
   refine ⟨w,Hd,fun rec=>?_,f1,f2,?_,Yz _,fun _ _ _ _ h=>h,fun _ _=>rfl⟩
   ·unfold Sh.f28
    have hl0:A5 (.sl (enL cSp []) tk)=some (.int .i64 0):=rfl
    have d2:decide ((0:Int)>0)=false:=rfl
    simp only [GMb,GMc,hk',hag,d1,hW,hl0,d2,hw]
   ·show Hd[q]? = some (.cel 0 (cNd ((lyK (Ed 0) 0 S k out).2.setKid k 0)))
    rw [hid];exact f3
  | cons s r=>
   rw [hq]at hW
   have hst:=EO (c:=(s.s.toNat:Int)) f3 hk
   refine ⟨w,Hd.set q (.cel 0 (cNd ((lyK (Ed 0) 0 S k out).2.setKid k (s.s.toNat:Int)))),fun rec=>?_,?_,f2.put f3,?_,by simp,fun i cs h1 h2 h=>?_,fun i hi=>?_⟩
   ·have hl1:decide (((s::r).length:Int)>0)=true:=decide_eq_true (by simp only [List.length_cons];omega)
    have hi0:Au 3 (.sl (enL cSp (s::r)) tk) (.int .i64 0)=some (.cptr (cSp s) 0):=Ay (f:=cSp) (l:=s::r) (i:=0) (K:=.i64) (by simp)
    have hld:∀K,Ac false 1 (.cptr (cSp s) 2) K=some (.int .u8 (s.s.toNat:Int)):=fun _=>rfl
    have hc:AD .i64 (.int .u8 (s.s.toNat:Int))=some (.int .i64 (s.s.toNat:Int)):=by
     have:=s.s.toNat_lt
     rw [Bq,Am (by omega) (by omega)]
    unfold Sh.f28
    simp only [GMb,GMc,hk',hag,d1,hW,Aw,hl1,hi0,An,Ah,Yy,hld,hc,hix,hst,AL,hw]
   ·rw [Yv hqp];exact f1
   ·rw [Y9 hql];rfl
   ·rw [Yv (Ne.symm h2)];exact h
   ·rw [Yv (by omega)]
 ·obtain hself:=hself.resolve_left (by omega)
  have d1:decide (((v+1:Nat):Int)>1)=true:=decide_eq_true (by omega)
  have hcnt:=Uj v out S k (by omega)
  have hc2:Lf v S (k+1)*v=Lf v S k*v+(qSp v k S).length*v:=by
   show (Lf v S k+(qSp v k S).length)*v=_
   rw [Zg]
  have hc3:Lf v S (k+1)*v≤S.length*v:=Za _ (Yi v S (by omega))
  obtain ⟨H1,w',r1,r2,r3,r4⟩:=hself (lyK (Ed v) v S k out).1 w (qSp v k S) tk Hd f1 f2 (by omega) (fun p hp=>hok p (ZN.1 hp).1) (Zm (Z2 _ _) hS) (by omega)
  have f3':=r4.cel q _ hqp f3
  have hst:=EO (c:=((Ed v (lyK (Ed v) v S k out).1 (qSp v k S)).2:Int)) f3' hk
  have hql':q<H1.length:=(Yw.1 f3').1
  have e:lyK (Ed v) v S (k+1) out=((Ed v (lyK (Ed v) v S k out).1 (qSp v k S)).1,(lyK (Ed v) v S k out).2.setKid k ((Ed v (lyK (Ed v) v S k out).1 (qSp v k S)).2:Int)):=by
   conv=>lhs;unfold lyK
   rw [if_neg (by omega)]
  rw [e]
  refine ⟨w',H1.set q (.cel 0 (cNd ((lyK (Ed v) v S k out).2.setKid k ((Ed v (lyK (Ed v) v S k out).1 (qSp v k S)).2:Int)))),fun rec=>?_,?_,r3.put f3',?_,by rw [YW];exact r4.len,fun i cs h1 h2 h=>?_,fun i hi=>?_⟩
  ·unfold Sh.f28
   simp only [GMb,GMc,hk',hag,d1,hW,w1,r1,Ah,Yy,hix,hst,AL,hw]
  ·rw [Yv hqp];exact r2
  ·rw [Y9 hql']
  ·rw [Yv (Ne.symm h2)];exact r4.cel i cs h1 h
  ·rw [Yv (by omega)];exact r4.old i hi
theorem lay_step {b pb v:Nat} {self:Ab→Ab→Ab→Aa→Out} (hself:v=0∨LayOk b pb v self) (hv:v<100000) (hbp:b≤pb):LayOk b pb (v+1) (Sh.f7f self):=by
 intro out w S tk H f1 f2 hb hok hS hlen
 have hpl:pb<H.length:=(Yw.1 f1).1
 unfold Sh.f7f Ed
 by_cases h0:S=[]
 ·subst h0
  refine ⟨H,w,?_,f1,f2,Ext.refl _ _ _⟩
  simp
 ·rw [if_neg h0]
  have hpos:=YZ.2 h0
  have hne:decide ((S.length:Int)=0)=false:=decide_eq_false (by omega)
  have hne2:((S.length:Int) == 0)=false:=by rw [beq_eq_false_iff_ne];omega
  have hal:Ax (some [(.sl [] .tight),(.sl [] .tight),(.sl [] .tight),(.sl [] .tight)]) H=some (.ptr H.length 0 0,H++[.cel 0 [Ab.sl [] .tight,.sl [] .tight,.sl [] .tight,.sl [] .tight]]):=alloc_eq rfl
  simp only [GMb,GMc,Aw,hne,hne2,hal]
  have hQ0:Q4 H.length H.length (fun k=>qSp v k (S.take 0)) (fun _=>.sl [] .tight) (fun _=>0) (H++[.cel 0 [Ab.sl [] .tight,.sl [] .tight,.sl [] .tight,.sl [] .tight]]):=
   ⟨Ap,fun k hk=>.inl ⟨rfl,rfl⟩,fun i j _ _ _ h=>absurd rfl h⟩
  have loop:=GB (G:=fun rec1 vs H1=>Sh.f4x H self rec1 (ag vs 0) (ag vs 1) (ag vs 2) (ag vs 3) (ag vs 4) (ag vs 5) H1) S.length
   (fun i vs Hc=>vs=[.ptr pb 0 0,.int .i64 ((v+1:Nat):Int),.ptr H.length 0 0,.sl (enL cSp S) tk,.int .i64 (S.length:Int),.int .i64 (i:Int)]∧∃W T,Q4 H.length H.length (fun k=>qSp v k (S.take i)) W T Hc∧H.length≤Hc.length∧∀i,i<H.length→Hc[i]? = H[i]?)
   (by omega) (fun i vs Hc hi hI=>?_) (vs:=[.ptr pb 0 0,.int .i64 ((v+1:Nat):Int),.ptr H.length 0 0,.sl (enL cSp S) tk,.int .i64 (S.length:Int),.int .i64 0]) (H:=H++[.cel 0 [Ab.sl [] .tight,.sl [] .tight,.sl [] .tight,.sl [] .tight]])
   ⟨rfl,_,_,hQ0,by simp,fun i hi=>Yx hi⟩
  ·obtain ⟨vs,Hc,⟨rfl,W,T,hQ,hl,hold⟩,rec,hloop⟩:=loop
   rw [YY]at hQ
   rw [hloop]
   have d1:decide ((S.length:Int)<(S.length:Int))=false:=decide_eq_false (by omega)
   have hal2:Ax (some [(.int .i64 0),(.int .i64 0),(.int .i64 0),(.int .i64 0),(.int .i64 0)]) Hc=some (.ptr Hc.length 0 0,Hc++[.cel 0 [Ab.int .i64 0,.int .i64 0,.int .i64 0,.int .i64 0,.int .i64 0]]):=alloc_eq rfl
   have hst:Af 5 (.ptr Hc.length 0 0) (.agg (cNd ⟨((v+1:Nat):Int),0,0,0,0⟩)) (Hc++[.cel 0 [Ab.int .i64 0,.int .i64 0,.int .i64 0,.int .i64 0,.int .i64 0]])=some (Hc++[.cel 0 (cNd ⟨((v+1:Nat):Int),0,0,0,0⟩)]):=by
    rw [J8 Ap rfl,Bd]
   have hldq:Ac true 4 (.ptr H.length 0 0) (Hc++[.cel 0 (cNd ⟨((v+1:Nat):Int),0,0,0,0⟩)])=some (.agg [W 0,W 1,W 2,W 3]):=ET (A1 hQ.blk) rfl
   have hqH:H.length<Hc.length:=(Yw.1 hQ.blk).1
   have hWr:∀k,k<4→∃tk,W k=.sl (enL cSp (qSp v k S)) tk:=fun k hk=>by
    rcases hQ.row k hk with ⟨q1,q2⟩ | ⟨_,_,q2,_⟩
    ·exact ⟨.tight,by rw [q2,show qSp v k S=[] from q1];rfl⟩
    ·exact ⟨_,q2⟩
   have hlenv:out.length+S.length*v<3518437208880:=by rw [Nat.mul_succ]at hlen;omega
   have loop2:=GB (G:=fun rec4 vs H1=>Sh.f28 H self rec4 (ag vs 0) (ag vs 1) (ag vs 2) (ag vs 3) (ag vs 4) H1) 4
    (fun k vs Hd=>vs=[.ptr pb 0 0,.int .i64 ((v+1:Nat):Int),.ptr Hc.length 0 0,.agg [W 0,W 1,W 2,W 3],.int .i64 (k:Int)]∧∃w',Hd[pb]? = some (.cel 0 [w'])∧PS b (lyK (Ed v) v S k out).1 w' Hd∧Hd[Hc.length]? = some (.cel 0 (cNd (lyK (Ed v) v S k out).2))∧Hc.length≤Hd.length∧(∀(i:Nat) (cs:List Ab),i≠pb→i<H.length→H[i]? = some (.cel 0 cs)→Hd[i]? = some (.cel 0 cs))∧∀i,i<b→Hd[i]? = H[i]?)
    (by decide) (fun k vs Hd hk hI=>?_) (vs:=[.ptr pb 0 0,.int .i64 ((v+1:Nat):Int),.ptr Hc.length 0 0,.agg [W 0,W 1,W 2,W 3],.int .i64 0]) (H:=Hc++[.cel 0 (cNd ⟨((v+1:Nat):Int),0,0,0,0⟩)])
    ⟨rfl,w,by rw [Yx (by omega),hold pb hpl];exact f1,f2.same fun i hi=>by rw [Yx (by omega)];exact hold i hi,by simp [lyK],by simp,fun i cs _ hi hc=>by rw [Yx (by omega),hold i hi];exact hc,fun i hi=>by rw [Yx (by omega)];exact hold i (by omega)⟩
   ·obtain ⟨vs,Hd,⟨rfl,w1,g1,g2,g3,g4,g5,g6⟩,rec2,hloop2⟩:=loop2
    have hlk:=Uj v out S 4 (Yz _)
    rw [SO]at hlk
    obtain ⟨w2,H2,a1,a2,a3⟩:=g2.snoc (show b≤Hd.length by omega) (lyK (Ed v) v S 4 out).2 (by omega)
    have h2b:=a3.cel pb _ g1
    have hpl2:=(Yw.1 h2b).1
    obtain ⟨tk2,hw2⟩:=a2.sl
    have hst2:=K9 (v:=w2) (o:=0) h2b (by rw [hw2];rfl) (by simp)
    have hld1:Ac false 1 (.ptr pb 0 0) Hd=some w1:=by rw [CR g1];rfl
    have hld2:Ac false 1 (.ptr pb 0 0) (H2.set pb (.cel 0 ([w1].set 0 w2)))=some w2:=by rw [CR (cs:=[w1].set 0 w2) (Y9 hpl2)];rfl
    have hldn:=HK g3
    have hlen2:A5 w2=some (.int .i64 (((lyK (Ed v) v S 4 out).1.length+1:Nat):Int)):=by rw [hw2,Aw,Y2,List.length_singleton]
    have d4:decide (((4:Nat):Int)<4)=false:=rfl
    refine ⟨H2.set pb (.cel 0 ([w1].set 0 w2)),w2,?_,by rw [Y9 hpl2];rfl,a2.put h2b,⟨?_,fun i cs hi hc=>?_,fun i hi=>?_⟩⟩
    ·unfold Sh.f4x
     simp only [Al,Ai,Bb,Bf,B2,BK,D8,GMb,GMc,d1,nd_new,hal2,hst,AL,hldq]
     rw [hloop2]
     unfold Sh.f28
     simp only [Al,Ai,Bb,Bf,B2,BK,D8,GMb,GMc,d4,nil_ptr,Ah,Yy,hld1,hldn,Kk,a1,hst2,AL,hld2,hlen2]
    ·rw [YW];have:=a3.len;omega
    ·rw [Yv (Ne.symm hi)]
     exact a3.cel i cs (g5 i cs hi (Yw.1 hc).1 hc)
    ·rw [Yv (by omega),a3.old i hi];exact g6 i hi
   ·obtain ⟨rfl,w1,g1,g2,g3,g4,g5,g6⟩:=hI
    obtain ⟨w',He,t1,t2,t3,t4,t5,t6,t7⟩:=lay_kid (H:=H) (W:=W) hself hv hk (hWr k hk) hok hS hlenv hbp (show Hc.length≠pb by omega) (by omega) g1 g2 g3
    exact ⟨_,He,⟨rfl,w',t2,t3,t4,by omega,fun i cs hi hl hc=>t6 i cs hi (by omega) (g5 i cs hi hl hc),fun i hi=>(t7 i hi).trans (g6 i hi)⟩,t1⟩
  ·obtain ⟨rfl,W,T,hQ,hl,hold⟩:=hI
   obtain ⟨W',T',Hd,t1,t2,t3,t4⟩:=lay_turn (self:=self) (pb:=pb) (tk:=tk) (H:=H) hi hok hS hv rfl hQ hl hold
   exact ⟨_,Hd,⟨rfl,W',T',t2,t3,t4⟩,t1⟩
theorem lay_ok {b pb:Nat} (hbp:b≤pb):∀(n d:Nat),n<d→n<100000→1≤n→LayOk b pb n (Sh.f29 d)
 | 0,_,_,_,h=>by omega
 | n+1,d,hd,hn,_=>by
  obtain ⟨d,rfl⟩:∃e,d=e+1:=⟨d-1,by omega⟩
  refine lay_step (v:=n) ?_ (by omega) hbp
  rcases ZI n with h | h
  ·exact .inl h
  ·exact .inr (lay_ok hbp n d (by omega) (by omega) h)
theorem p_clone (l:List Cl) (tk:Tok) (H:Aa) (hl:l.length<1000000000):Sh.f2z (.sl (enL cCl l) tk) H=some (if l=[]then (.ret (.sl [] .tight),H)else (.ret (dV H.length 0 l.length),H++[.buf 0 (flat cCl l) A0 5])):=by
 have hb:AO 5 []=some (.sl [] .tight):=rfl
 unfold Sh.f2z
 cases l with
 | nil=>
  have ha:FU A0 5 72 (.sl [] .tight) (.sl (enL cCl []) tk) H=some (.sl [] .tight,H):=rfl
  have hn:TN .eql (.sl (enL cCl []) tk)=some .ubool:=rfl
  have hu:∀x:Out,Aj .ubool x x=x:=fun x=>if_pos rfl
  simp only [hn,GMb,GMc,hb,ha]
  exact hu _
 | cons c l=>
  have hn:TN .eql (.sl (enL cCl (c::l)) tk)=some (.bool false):=rfl
  have ha:FU A0 5 72 (.sl [] .tight) (.sl (enL cCl (c::l)) tk) H=some (dV H.length 0 (c::l).length,H++[.buf 0 (flat cCl (c::l)) A0 5]):=by
   have he:Ce 5 (.sl (enL cCl (c::l)) tk) H=some (enL cCl (c::l)):=Oi
   have hlen:(enL cCl (c::l)).length=(c::l).length:=by simp [enL]
   unfold FU
   rw [he]
   simp only [Option.bind_some]
   unfold Ip
   rw [hlen,if_neg (by simp)]
   simp only [List.length_nil,Yy,List.all_nil,List.nil_append]
   rw [if_pos ⟨trivial,by omega,by omega⟩]
   rfl
  simp only [hn,GMb,GMc,hb,ha]
  rw [if_neg (by simp)]
def Yt (P L:List Cl) (i:Nat):Prop:=L.length=P.length∧∀k,k<P.length→L[k]? = if k<i∨P.length-i≤k then P[P.length-1-k]? else P[k]?
theorem Yt.step {P L:List Cl} {i:Nat} (h:Yt P L i) (hi:i<P.length-1-i):Yt P (swp L i (P.length-1-i)) (i+1):=by
 obtain ⟨h1,h2⟩:=h
 have hl:i<L.length:=by omega
 have hj:P.length-1-i<L.length:=by omega
 refine ⟨by rw [OK];exact h1,fun k hk=>?_⟩
 have ei:=h2 i (by omega)
 have ej:=h2 (P.length-1-i) (by omega)
 rw [Yu hl,if_neg (by omega)]at ei
 rw [Yu hj,if_neg (by omega)]at ej
 rw [swp_eq hl hj]
 by_cases k1:k=P.length-1-i
 ·subst k1
  rw [Y9 (by simp;omega),if_pos (by omega),ei]
  congr 1
  omega
 ·rw [Yv (Ne.symm k1)]
  by_cases k2:k=i
  ·subst k2
   rw [Y9 hl,if_pos (by omega),ej]
  ·rw [Yv (Ne.symm k2),h2 k hk]
   by_cases k3:k<i∨P.length-i≤k
   ·rw [if_pos k3,if_pos (by omega)]
   ·rw [if_neg k3,if_neg (by omega)]
theorem Yt.done {P L:List Cl} {i:Nat} (h:Yt P L i) (hi:¬i<P.length-1-i):L=P.reverse:=by
 apply ZH
 intro k
 by_cases hk:k<P.length
 ·rw [h.2 k hk,List.getElem?_reverse hk]
  split
  ·rfl
  ·congr 1
   omega
 ·rw [YA (by rw [h.1];omega),YA (by simp;omega)]
section
variable {p g:Nat} {l:List Cl} {H:Aa}
theorem p_reverse (h:CT H p g l) (hp:0<l.length) (hl:l.length<1000000000):Sh.f1f (dV p g l.length) H=some (.ret (.tup []),BJ H p g l.reverse):=by
 have hw:IntKind.i64.wrap ((l.length:Int)-1)=((l.length-1:Nat):Int):=by rw [Am] <;> omega
 have hln:A5 (dV p g l.length)=some (.int .i64 (l.length:Int)):=rfl
 unfold Sh.f1f
 simp only [hln,GMb,GMc,hw]
 have key:=Ep (G:=fun rec1 vs H1=>Sh.f4r H rec1 (ag vs 0) (ag vs 1) (ag vs 2) H1) (σ:=Nat×List Cl)
  (fun s vs H1=>(Yt l s.2 s.1∧2*s.1≤l.length)∧vs=[dV p g l.length,.int .i64 (s.1:Int),.int .i64 ((l.length:Int)-1-(s.1:Int))]∧H1=BJ H p g s.2) (fun s=>l.length-s.1) (fun s=>¬s.1<l.length-1-s.1) (fun s vs H1 hI hd=>?_)
  (s:=(0,l)) (vs:=[dV p g l.length,.int .i64 0,.int .i64 ((l.length-1:Nat):Int)]) (H:=H) ⟨⟨⟨rfl,fun k hk=>by rw [if_neg (by omega)]⟩,YL _⟩,by dsimp only;rw [show (l.length:Int)-1-((0:Nat):Int)=((l.length-1:Nat):Int)by omega];rfl,(CG h).symm⟩ (by dsimp only;omega)
 ·obtain ⟨⟨i,L⟩,vs,H1,hd,⟨⟨ht,hi⟩,rfl,rfl⟩,rec,hloop⟩:=key
  dsimp only at ht hi hd hloop
  have d1:decide ((i:Int)<(l.length:Int)-1-(i:Int))=false:=decide_eq_false (by omega)
  rw [hloop]
  unfold Sh.f4r
  simp only [Al,Ai,Bb,Bf,GMb,GMc,d1]
  rw [ht.done hd]
 ·obtain ⟨i,L⟩:=s
  obtain ⟨⟨ht,hi⟩,rfl,rfl⟩:=hI
  dsimp only at ht hi hd ⊢
  have hr:CT (BJ H p g L) p g L:=CY h
  have hlt:i<l.length-1-i:=by omega
  have hLl:=ht.1
  have i1:i<L.length:=by omega
  have i2:l.length-1-i<L.length:=by omega
  have e:(l.length:Int)-1-(i:Int)=((l.length-1-i:Nat):Int):=by omega
  have d1:decide ((i:Int)<((l.length-1-i:Nat):Int))=true:=decide_eq_true (by omega)
  have hw1:=Av (show i<9223372036854775807 by omega)
  have hw2:IntKind.i64.wrap (((l.length-1-i:Nat):Int)-1)=(l.length:Int)-1-((i+1:Nat):Int):=by rw [Am] <;> omega
  obtain ⟨s1,s2⟩:=UU hr i1 i2
  rw [B5]at s1 s2
  rw [B5]at s2
  refine ⟨(i+1,swp L i (l.length-1-i)),_,_,by dsimp only;omega,⟨⟨ht.step hlt,by dsimp only;omega⟩,rfl,rfl⟩,fun rec=>?_⟩
  unfold Sh.f4r
  simp only [Al,Ai,Bb,Bf,GMb,GMc,e,d1,BS (show i<l.length by omega),BS (show l.length-1-i<l.length by omega),C3 hr i1,C3 hr i2,BN,s1,s2,B6,AL,hw1,hw2]
theorem p_sort {f:Ab} {l0:List Cl} (hf1:WA AB f l0) (hf2:Xj f l0) (h:CT H p g l) (hm:∀c∈l,c∈l0) (hl:l.length<1000000000) :
  ∃S,Ez ltC S∧Fw ltC l S∧S.length=l.length∧Sh.f1j (dV p g l.length) f H=some (.ret (.tup []),BJ H p g S):=by
 obtain ⟨S,s1,s2,s3,s4⟩:=stable_ok hf1 hf2 h hm hl
 refine ⟨S,s1,s2,s3,?_⟩
 have hln:A5 (dV p g l.length)=some (.int .i64 (l.length:Int)):=rfl
 unfold Sh.f1j
 simp only [hln,GMb,GMc,s4]
def RwT (H:Aa) (p g:Nat) (l:List Cl) (r:List Ab):Prop:=H[p]? = some (.buf g (flat cCl l++r) A0 5)
theorem CT.t (h:CT H p g l):RwT H p g l []:=by unfold RwT;rw [YP];exact h

end
theorem cpL_snoc (lt:Cl→Cl→Bool) (y:Cl):∀(P:List Cl) (x:Cl),cpL lt (P++[x]++[y])=if BC lt y x then cpL lt (P++[x])else cpL lt (P++[x])++[y]:=by
 have key:∀(t:List Cl) (a x:Cl),cpF lt a (t++[x]++[y])=if BC lt y x then cpF lt a (t++[x])else cpF lt a (t++[x])++[y]:=by
  intro t
  induction t with
  | nil=>
   intro a x
   show (if BC lt x a then cpF lt x [y]else x::cpF lt x [y])=if BC lt y x then (if BC lt x a then cpF lt x []else x::cpF lt x [])else (if BC lt x a then cpF lt x []else x::cpF lt x [])++[y]
   have e:cpF lt x [y]=if BC lt y x then []else [y]:=rfl
   rw [e]
   cases BC lt x a <;> cases BC lt y x <;> rfl
  | cons b t ih=>
   intro a x
   have ihb:=ih b x
   show (if BC lt b a then cpF lt b (t++[x]++[y])else b::cpF lt b (t++[x]++[y]))=if BC lt y x then (if BC lt b a then cpF lt b (t++[x])else b::cpF lt b (t++[x]))else (if BC lt b a then cpF lt b (t++[x])else b::cpF lt b (t++[x]))++[y]
   rw [ihb]
   cases BC lt b a <;> cases BC lt y x <;> rfl
 intro P x
 cases P with
 | nil=>
  show x::cpF lt x [y]=if BC lt y x then [x]else [x]++[y]
  have e:cpF lt x [y]=if BC lt y x then []else [y]:=rfl
  rw [e]
  cases BC lt y x <;> rfl
 | cons a P=>
  show a::cpF lt a (P++[x]++[y])=if BC lt y x then a::cpF lt a (P++[x])else (a::cpF lt a (P++[x]))++[y]
  rw [key]
  cases BC lt y x <;> rfl
theorem cpL_len (lt:Cl→Cl→Bool):∀l:List Cl,(cpL lt l).length≤l.length:=by
 have key:∀(t:List Cl) (a:Cl),(cpF lt a t).length≤t.length:=by
  intro t
  induction t with
  | nil=>intro a;exact Yz _
  | cons b t ih=>
   intro a
   have:=ih b
   unfold cpF
   split
   ·simp only [List.length_cons];omega
   ·simp only [List.length_cons];omega
 intro l
 cases l with
 | nil=>exact Yz _
 | cons a t=>have:=key t a;show (cpF lt a t).length+1≤t.length+1;omega
def zCl:List Ab:=[.bool false,.sl [] .tight,.bool false,.sl [] .tight,.int .u8 0]
theorem repl_scal (n:Nat):(N3 n zCl).all Ab.isScal=true:=by
 unfold N3
 induction n with
 | zero=>rfl
 | succ n ih=>rw [List.replicate_succ,List.flatten_cons,QaV,ih];rfl
theorem repl_len (n:Nat):(N3 n zCl).length=n*5:=by
 unfold N3
 induction n with
 | zero=>rfl
 | succ n ih=>rw [List.replicate_succ,List.flatten_cons,Y2,ih,show zCl.length=5 from rfl];omega
theorem flat_split {L:List Cl} {k:Nat} (hk:k≤L.length):(flat cCl L).take (k*5)=flat cCl (L.take k)∧(flat cCl L).drop (k*5)=flat cCl (L.drop k):=by
 have h1:flat cCl L=flat cCl (L.take k)++flat cCl (L.drop k):=by rw [←Ts,Zk]
 have h2:(flat cCl (L.take k)).length=k*5:=by rw [FI,YC,Zr hk]
 rw [h1]
 exact ⟨by rw [←h2,QaA],by rw [←h2,QaD]⟩
section
variable {p g:Nat} {l:List Cl} {H:Aa} {r:List Ab}
theorem X0 {L:List Cl} {k:Nat} (h:RwT H p g L r) (hk:k≤L.length) :
  ∃G r',Lh 5 (some zCl) (.ms p g (k*5) (L.length-k) (L.length-k) 5 false) H=some G∧RwT G p g (L.take k) r'∧(∀i,i≠p→G[i]? = H[i]?)∧G.length=H.length:=by
 unfold Lh
 by_cases h0:L.length-k=0
 ·have:L.take k=L:=Y6 (by omega)
  simp only [h0,if_true]
  exact ⟨H,r,rfl,by rw [this];exact h,fun _ _=>rfl,rfl⟩
 ·have hpl:p<H.length:=(Yw.1 h).1
  have hget:A7 H p g=some (flat cCl L++r):=by
   unfold RwT at h;simp [A7,h]
  have hac:(Ab.agg (N3 (L.length-k) zCl)).acells=some (N3 (L.length-k) zCl):=by
   show (if (N3 (L.length-k) zCl).all Ab.isScal=true then _ else _)=_
   rw [if_pos (repl_scal _)]
  have hfl:(flat cCl L).length=L.length*5:=FI L
  have hset:∀cs,Gy H p g cs=H.set p (.buf g cs A0 5):=fun cs=>by
   unfold RwT at h;unfold Gy;rw [h]
  simp only [h0,if_false,Option.bind_some,if_true,Af,hget,hac,repl_len,Y2,hfl]
  rw [if_pos ⟨trivial,by omega⟩,hset]
  refine ⟨_,(N3 (L.length-k) zCl)++r,rfl,?_,fun i hi=>?_,by rw [YW]⟩
  ·unfold RwT
   rw [Y9 hpl]
   have e1:DF (flat cCl L++r) (k*5) ((L.length-k)*5) (N3 (L.length-k) zCl)=flat cCl (L.take k)++(N3 (L.length-k) zCl++r):=by
    unfold DF
    rw [ZF (by omega),(flat_split hk).1,show k*5+(L.length-k)*5=(flat cCl L).length by omega,QaD,Y1]
   rw [e1]
  ·rw [Yv (Ne.symm hi)]
theorem compact_l2 {f:Ab} {k0:Nat} {H0:Aa} (hf:∀c∈l,∀d∈l,∀H,D6 AI f [.agg (cCl c),.agg (cCl d)] H=some (.ret (.bool (BC ltC c d)),H))
  (h:CT H p g l) (h1:1≤k0) (h2:k0<l.length) (h3:cpL ltC (l.take k0)=l.take k0) (h4:BC ltC l[k0] (l[k0-1]'(by omega))=true) (hl:l.length<1000000000) :
  ∃G r,Ao (fun rec2 vs H1=>Sh.f37 H0 rec2 (ag vs 0) (ag vs 1) (ag vs 2) (ag vs 3) (ag vs 4) H1) AK [dV p g l.length,f,.int .i64 (k0:Int),.ms p g (k0*5) (l.length-k0) (l.length-k0) 5 false,.int .i64 1] H =
   some (.ret (.ms p g 0 (cpL ltC l).length l.length 5 false),G)∧RwT G p g (cpL ltC l) r∧(∀i,i≠p→G[i]? = H[i]?)∧G.length=H.length:=by
 have hsnoc:∀m (hm1:1≤m) (hm:m<l.length),cpL ltC (l.take (m+1))=if BC ltC l[m] (l[m-1]'(by omega))then cpL ltC (l.take m)else cpL ltC (l.take m)++[l[m]]:=fun m hm1 hm=>by
  obtain ⟨j,rfl⟩:∃j,m=j+1:=⟨m-1,by omega⟩
  have:=cpL_snoc ltC l[j+1] (l.take j) (l[j]'(by omega))
  rw [←Y5 (by omega:j<l.length),←Y5 hm]at this
  exact this
 have key:=Ep (G:=fun rec2 vs H1=>Sh.f37 H0 rec2 (ag vs 0) (ag vs 1) (ag vs 2) (ag vs 3) (ag vs 4) H1) (σ:=Nat×List Cl)
  (fun s vs H1=>(k0+1≤s.1∧s.1≤l.length∧s.2.length=l.length∧(cpL ltC (l.take s.1)).length≤s.1-1∧s.2.take (cpL ltC (l.take s.1)).length=cpL ltC (l.take s.1)∧s.2.drop (s.1-1)=l.drop (s.1-1)) ∧
   vs=[dV p g l.length,f,.int .i64 ((cpL ltC (l.take s.1)).length:Int),.ms p g (k0*5) (l.length-k0) (l.length-k0) 5 false,.int .i64 ((s.1-k0:Nat):Int)]∧H1=BJ H p g s.2) (fun s=>l.length-s.1) (fun s=>¬s.1<l.length) (fun s vs H1 hI hd=>?_)
  (s:=(k0+1,l)) (vs:=[dV p g l.length,f,.int .i64 (k0:Int),.ms p g (k0*5) (l.length-k0) (l.length-k0) 5 false,.int .i64 1]) (H:=H)
  (by
   have e1:cpL ltC (l.take (k0+1))=l.take k0:=by rw [hsnoc k0 h1 h2,h4,if_pos rfl,h3]
   have e2:(l.take k0).length=k0:=by rw [YC];omega
   dsimp only
   rw [e1,e2]
   exact ⟨⟨Yz _,h2,rfl,by omega,rfl,by rw [YM]⟩,by rw [Nat.add_sub_cancel_left];rfl,(CG h).symm⟩) (by dsimp only;omega)
 ·obtain ⟨⟨m,L⟩,vs,H1,hd,⟨⟨i1,i2,i3,i4,i5,i6⟩,rfl,rfl⟩,rec,hloop⟩:=key
  dsimp only at i1 i2 i3 i4 i5 i6 hd hloop
  have em:m=l.length:=by omega
  subst em
  rw [Y6 (Yz _)]at i4 i5 hloop
  have hr:RwT (BJ H p g L) p g L []:=(CY h).t
  obtain ⟨G,r,g1,g2,g3,g4⟩:=X0 (k:=(cpL ltC l).length) hr (by omega)
  rw [i3]at g1
  rw [i5]at g2
  have d1:decide (((l.length-k0:Nat):Int)<((l.length-k0:Nat):Int))=false:=decide_eq_false (by omega)
  have hln:A5 (.ms p g (k0*5) (l.length-k0) (l.length-k0) 5 false)=some (.int .i64 ((l.length-k0:Nat):Int)):=rfl
  have s1:Bw 5 (dV p g l.length) (some (.int .i64 ((cpL ltC l).length:Int))) none none=some (.ms p g ((cpL ltC l).length*5) (l.length-(cpL ltC l).length) (l.length-(cpL ltC l).length) 5 false):=by
   have:(cpL ltC l).length≤l.length:=by omega
   simp [Bw,Bt,this]
  have s2:Bw 5 (dV p g l.length) none (some (.int .i64 ((cpL ltC l).length:Int))) none=some (.ms p g 0 (cpL ltC l).length l.length 5 false):=by
   have:(cpL ltC l).length≤l.length:=by omega
   simp [Bw,Bt,this]
  refine ⟨G,r,?_,g2,fun i hi=>?_,?_⟩
  ·rw [hloop]
   unfold Sh.f37
   simp only [Al,Ai,Bb,Bf,B2,BK,GMb,GMc,hln,d1,s1,s2]
   rw [show [Ab.bool false,.sl [] .tight,.bool false,.sl [] .tight,.int .u8 0]=zCl from rfl,g1]
   simp only [GMb,GMc,AL,Ek,forget,Eu,fgt]
  ·rw [g3 i hi]
   unfold BJ
   rw [Yv (Ne.symm hi)]
  ·rw [g4];unfold BJ;rw [YW]
 ·obtain ⟨m,L⟩:=s
  obtain ⟨⟨i1,i2,i3,i4,i5,i6⟩,rfl,rfl⟩:=hI
  dsimp only at i1 i2 i3 i4 i5 i6 hd ⊢
  have hm:m<l.length:=by omega
  have hr:CT (BJ H p g L) p g L:=CY h
  have hLm:m<L.length:=by omega
  have hLm1:m-1<L.length:=by omega
  have e1:L[m]=l[m]:=by
   have:=congrArg (fun x=>x[1]?) i6
   simp only [Zh]at this
   rw [show m-1+1=m by omega,Yu hLm,Yu hm]at this
   exact Z9 this
  have e2:L[m-1]=l[m-1]:=by
   have:=congrArg (fun x=>x[0]?) i6
   simp only [Zh,Nat.add_zero]at this
   rw [Yu hLm1,Yu (by omega)]at this
   exact Z9 this
  have hln:A5 (.ms p g (k0*5) (l.length-k0) (l.length-k0) 5 false)=some (.int .i64 ((l.length-k0:Nat):Int)):=rfl
  have d1:decide (((m-k0:Nat):Int)<((l.length-k0:Nat):Int))=true:=decide_eq_true (by omega)
  have hw1:IntKind.i64.wrap (((m-k0:Nat):Int)-1)=((m-k0-1:Nat):Int):=by rw [Am] <;> omega
  have hw2:IntKind.i64.wrap (((m-k0:Nat):Int)+1)=((m+1-k0:Nat):Int):=by rw [Am] <;> omega
  have x1:Au 5 (.ms p g (k0*5) (l.length-k0) (l.length-k0) 5 false) (.int .i64 ((m-k0:Nat):Int))=some (.ptr p g (m*5)):=by
   rw [CJ (by omega),←Zg,show k0+(m-k0)=m by omega]
  have x2:Au 5 (.ms p g (k0*5) (l.length-k0) (l.length-k0) 5 false) (.int .i64 ((m-k0-1:Nat):Int))=some (.ptr p g ((m-1)*5)):=by
   rw [CJ (by omega),←Zg,show k0+(m-k0-1)=m-1 by omega]
  have c1:=hf l[m] (Y8 hm) (l[m-1]'(by omega)) (Y8 _)
  have hsn:=hsnoc m (by omega) hm
  have l1:=C3 hr hLm
  have l2:=C3 hr hLm1
  rw [e1]at l1
  rw [e2]at l2
  cases he:BC ltC l[m] (l[m-1]'(by omega))with
  | true=>
   rw [he,if_pos rfl]at hsn
   refine ⟨(m+1,L),_,_,by dsimp only;omega,⟨⟨by dsimp only;omega,by dsimp only;omega,i3,by dsimp only;rw [hsn];omega,by dsimp only;rw [hsn];exact i5,by
    dsimp only
    rw [YM]
    have:=congrArg (List.drop 1) i6
    rw [ZG,ZG,show m-1+1=m by omega]at this
    exact this⟩,rfl,rfl⟩,fun rec=>?_⟩
   rw [he]at c1
   unfold Sh.f37 Sh.f78
   simp only [Al,Ai,Bb,Bf,B2,BK,GMb,GMc,hln,d1,hw1,x1,x2,l1,l2,BN,c1,B6,hw2,hsn]
  | false=>
   rw [he]at hsn
   simp only [Y4,if_false]at hsn
   have hk:(cpL ltC (l.take m)).length<L.length:=by omega
   have hwk:=Av (show (cpL ltC (l.take m)).length<9223372036854775807 by omega)
   have hst:=row_st hr hk l[m]
   rw [B5]at hst
   refine ⟨(m+1,L.set (cpL ltC (l.take m)).length l[m]),_,_,by dsimp only;omega,⟨⟨by dsimp only;omega,by dsimp only;omega,by dsimp only;rw [YW];exact i3,by dsimp only;rw [hsn];simp;omega,by
     dsimp only
     rw [hsn,Y2,List.length_singleton,Y5 (by rw [YW];omega),QaW,List.take_set_of_le (Yz _),i5],by
     dsimp only
     rw [YM,List.drop_set_of_lt (by omega)]
     have:=congrArg (List.drop 1) i6
     rw [ZG,ZG,show m-1+1=m by omega]at this
     exact this⟩,rfl,rfl⟩,fun rec=>?_⟩
   rw [he]at c1
   unfold Sh.f37 Sh.f78
   simp only [Al,Ai,Bb,Bf,B2,BK,GMb,GMc,hln,d1,hw1,x1,x2,l1,l2,BN,c1,B6,BS (show (cpL ltC (l.take m)).length<l.length by omega),hst,AL,hwk,hw2,hsn,Y2,List.length_singleton]

end
def dupAt (l:List Cl) (k:Nat):Bool:=match l[k]?,l[k-1]? with
 | some a,some b=>BC ltC a b
 | _,_=>false
theorem dupAt_eq {l:List Cl} {k:Nat} (hk:k<l.length) (hk1:k-1<l.length):dupAt l k=BC ltC l[k] l[k-1]:=by
 unfold dupAt
 rw [Yu hk,Yu hk1]
section
variable {p g:Nat} {l:List Cl} {H:Aa} {r:List Ab} {f:Ab}
theorem p_compact (hf:∀c∈l,∀d∈l,∀H,D6 AI f [.agg (cCl c),.agg (cCl d)] H=some (.ret (.bool (BC ltC c d)),H))
  (h:CT H p g l) (hl:l.length<1000000000) :
  ∃G r,Sh.f1k (dV p g l.length) f H=some (.ret (.ms p g 0 (cpL ltC l).length l.length 5 false),G)∧RwT G p g (cpL ltC l) r∧(∀i,i≠p→G[i]? = H[i]?)∧G.length=H.length:=by
 have hln:A5 (dV p g l.length)=some (.int .i64 (l.length:Int)):=rfl
 have hsnoc:∀m (hm1:1≤m) (hm:m<l.length),cpL ltC (l.take (m+1))=if BC ltC l[m] (l[m-1]'(by omega))then cpL ltC (l.take m)else cpL ltC (l.take m)++[l[m]]:=fun m hm1 hm=>by
  obtain ⟨j,rfl⟩:∃j,m=j+1:=⟨m-1,by omega⟩
  have:=cpL_snoc ltC l[j+1] (l.take j) (l[j]'(by omega))
  rw [←Y5 (by omega:j<l.length),←Y5 hm]at this
  exact this
 unfold Sh.f1k
 by_cases h2:l.length<2
 ·have d2:decide ((l.length:Int)<2)=true:=decide_eq_true (by omega)
  have e:cpL ltC l=l:=by
   match l,h2 with
   | [],_=>rfl
   | [c],_=>rfl
   | _::_::_,h2=>simp only [List.length_cons]at h2;omega
  refine ⟨H,[],?_,by rw [e];exact h.t,fun _ _=>rfl,rfl⟩
  simp only [hln,GMb,GMc,d2,Ek,forget,Eu,fgt]
  rw [e]
 ·have d2:decide ((l.length:Int)<2)=false:=decide_eq_false (by omega)
  have key:=Ep (G:=fun rec1 vs H1=>Sh.f4u H rec1 (ag vs 0) (ag vs 1) (ag vs 2) H1) (σ:=Nat)
   (fun k vs H1=>(1≤k∧k≤l.length∧cpL ltC (l.take k)=l.take k)∧vs=[dV p g l.length,f,.int .i64 (k:Int)]∧H1=H) (fun k=>l.length-k) (fun k=>k<l.length→dupAt l k=true) (fun k vs H1 hI hd=>?_)
   (s:=1) (vs:=[dV p g l.length,f,.int .i64 1]) (H:=H) ⟨⟨Yz _,by omega,by
    cases l with
    | nil=>simp at h2
    | cons c l=>rfl⟩,rfl,rfl⟩ (by omega)
  ·obtain ⟨k,vs,H1,hd,⟨⟨i1,i2,i3⟩,rfl,rfl⟩,rec,hloop⟩:=key
   simp only [hln,GMb,GMc,d2]
   rw [hloop]
   by_cases hk:k<l.length
   ·have hk1:k-1<l.length:=by omega
    have hdd:=hd hk
    rw [dupAt_eq hk hk1]at hdd
    obtain ⟨G,r,g1,g2,g3,g4⟩:=compact_l2 (H0:=H1) hf h i1 hk i3 hdd hl
    refine ⟨G,r,?_,g2,g3,g4⟩
    have d1:decide ((k:Int)<(l.length:Int))=true:=decide_eq_true (by omega)
    have hw1:IntKind.i64.wrap ((k:Int)-1)=((k-1:Nat):Int):=by rw [Am] <;> omega
    have c1:=hf l[k] (Y8 hk) l[k-1] (Y8 hk1)
    rw [hdd]at c1
    have s1:Bw 5 (dV p g l.length) (some (.int .i64 (k:Int))) none none=some (.ms p g (k*5) (l.length-k) (l.length-k) 5 false):=by
     have:k≤l.length:=by omega
     simp [Bw,Bt,this]
    unfold Sh.f4u
    simp only [Al,Ai,Bb,Bf,GMb,GMc,hln,d1,hw1,BS hk,BS (show k-1<l.length by omega),C3 h hk,C3 h (show k-1<l.length by omega),BN,c1,s1]
    exact g1
   ·have d1:decide ((k:Int)<(l.length:Int))=false:=decide_eq_false (by omega)
    have e:cpL ltC l=l:=by
     rw [Y6 (by omega)]at i3;exact i3
    refine ⟨H1,[],?_,by rw [e];exact h.t,fun _ _=>rfl,rfl⟩
    unfold Sh.f4u
    simp only [Al,Ai,Bb,Bf,GMb,GMc,hln,d1,Ek,forget,Eu,fgt]
    rw [e]
  ·obtain ⟨⟨i1,i2,i3⟩,rfl,rfl⟩:=hI
   have hk:k<l.length:=by
    rcases Zf k l.length with q | q
    ·exact q
    ·exact absurd (fun hk=>absurd hk (by omega)) hd
   have hk1:k-1<l.length:=by omega
   have he:BC ltC l[k] l[k-1]=false:=by
    cases e:BC ltC l[k] l[k-1]with
    | false=>rfl
    | true=>exact absurd (fun _=>by rw [dupAt_eq hk hk1];exact e) hd
   have d1:decide ((k:Int)<(l.length:Int))=true:=decide_eq_true (by omega)
   have hw1:IntKind.i64.wrap ((k:Int)-1)=((k-1:Nat):Int):=by rw [Am] <;> omega
   have hw2:=Av (show k<9223372036854775807 by omega)
   have c1:=hf l[k] (Y8 hk) l[k-1] (Y8 hk1)
   rw [he]at c1
   refine ⟨k+1,_,_,by omega,⟨⟨by omega,hk,by rw [hsnoc k i1 hk,if_neg (by rw [he];decide),i3,Y5 hk]⟩,rfl,rfl⟩,fun rec=>?_⟩
   unfold Sh.f4u
   simp only [Al,Ai,Bb,Bf,GMb,GMc,hln,d1,hw1,BS hk,BS (show k-1<l.length by omega),C3 h hk,C3 h (show k-1<l.length by omega),BN,c1,hw2]
theorem UW (h:RwT H p g l r):A7 H p g=some (flat cCl l++r):=by
 unfold RwT at h
 simp [A7,h]
theorem row_ldT {i:Nat} (h:RwT H p g l r) (hi:i<l.length):Ac true 5 (.ptr p g (i*5)) H=some (.agg (cCl l[i])):=by
 have h1:=Lb (f:=cCl) (sz:=5) hi
 have h2:=Up (f:=cCl) (sz:=5) hi
 have h3:((flat cCl l++r).drop (i*5)).take 5=cCl l[i]:=by
  rw [Qav (by omega),ZF (by rw [YG];omega),h2]
 simp only [Ac,UW h,Option.bind_some,if_true,h3]
 rw [if_pos (by rw [Y2];omega)]
theorem row_stT {i:Nat} (h:RwT H p g l r) (hi:i<l.length) (a:Cl):∃G,Af 5 (.ptr p g (i*5)) (.agg (cCl a)) H=some G∧RwT G p g (l.set i a) r∧(∀i,i≠p→G[i]? = H[i]?)∧G.length=H.length:=by
 have hpl:p<H.length:=(Yw.1 h).1
 have h1:=Lb (f:=cCl) (sz:=5) hi
 have hs:=VW (f:=cCl) (sz:=5) (a:=a) hi
 have hset:∀cs,Gy H p g cs=H.set p (.buf g cs A0 5):=fun cs=>by
  unfold RwT at h;unfold Gy;rw [h]
 have hp:DF (flat cCl l++r) (i*5) 5 (cCl a)=flat cCl (l.set i a)++r:=by
  rw [←hs]
  unfold DF
  rw [ZF (by omega),Qav (by omega)]
  simp only [Y1]
 refine ⟨H.set p (.buf g (flat cCl (l.set i a)++r) A0 5),?_,?_,fun j hj=>by rw [Yv (Ne.symm hj)],by rw [YW]⟩
 ·simp only [Af,UW h,Option.bind_some,Pj,show (cCl a).length=5 from rfl]
  rw [if_pos ⟨trivial,by rw [Y2];omega⟩,hset,hp]
 ·unfold RwT
  rw [Y9 hpl]
theorem RwT.push (h:RwT H p g l r) (G:Aa):RwT (H++G) p g l r:=by
 have hpl:p<H.length:=(Yw.1 h).1
 unfold RwT at h ⊢
 rw [Yx hpl];exact h
def z0 (c:Cl):Bool:=decide (c.s=0)
theorem index_z {cap:Nat} (hf:∀c∈l,∀H,D6 AF f [.agg (cCl c)] H=some (.ret (.bool (z0 c)),H)) (h:RwT H p g l r) (hl:l.length<1000000000) :
  Sh.fi (.ms p g 0 l.length cap 5 false) f H=some (.ret (.int .i64 (match l.findIdx? z0 with | some i=>(i:Int) | none=>-1)),H):=by
 have hln:A5 (.ms p g 0 l.length cap 5 false)=some (.int .i64 (l.length:Int)):=rfl
 unfold Sh.fi
 simp only [hln,GMb,GMc]
 have key:=Bk (G:=fun rec1 vs H1=>Sh.f10 H rec1 (ag vs 0) (ag vs 1) (ag vs 2) (ag vs 3) H1) (σ:=Nat) (fun i=>i≤l.length∧(l.take i).findIdx? z0=none)
  (fun i=>[.ms p g 0 l.length cap 5 false,f,.int .i64 (l.length:Int),.int .i64 (i:Int)]) (fun _=>H) (fun i=>l.length-i) (fun _=>some (.ret (.int .i64 (match l.findIdx? z0 with | some i=>(i:Int) | none=>-1)),H)) (fun i rec hi hrec=>?_) 0 ⟨YL _,rfl⟩ (by omega)
 ·exact key
 ·obtain ⟨h1,h2⟩:=hi
  unfold Sh.f10
  by_cases hi:i<l.length
  ·have d1:decide ((i:Int)<(l.length:Int))=true:=decide_eq_true (by omega)
   have x1:Au 5 (.ms p g 0 l.length cap 5 false) (.int .i64 (i:Int))=some (.ptr p g (i*5)):=by rw [CJ hi,Yy]
   have hwi:=Av (show i<9223372036854775807 by omega)
   have c1:=hf l[i] (Y8 hi)
   cases hz:z0 l[i]with
   | true=>
    rw [hz]at c1
    have:l.findIdx? z0=some i:=by
     rw [Qaq]
     refine ⟨hi,hz,fun j hj=>?_⟩
     rw [QaG]at h2
     have:=h2 l[j] (by rw [List.mem_take_iff_getElem];exact ⟨j,by omega,rfl⟩)
     simpa using this
    simp only [Al,Ai,Bb,Bf,B2,GMb,GMc,d1,x1,row_ldT h hi,c1,this]
   | false=>
    rw [hz]at c1
    simp only [Al,Ai,Bb,Bf,B2,GMb,GMc,d1,x1,row_ldT h hi,c1,hwi]
    refine hrec (i+1) ⟨hi,?_⟩ (by omega)
    rw [Y5 hi,List.findIdx?_append,h2]
    simp [hz]
  ·have d1:decide ((i:Int)<(l.length:Int))=false:=decide_eq_false (by omega)
   rw [Y6 (by omega)]at h2
   simp only [Al,Ai,Bb,Bf,B2,GMb,GMc,d1,h2]

end
theorem fall_msX {α:Type} {f:α→List Ab} {sz:Nat} [hf:Sz f sz] [hp:Pl f] {H:Aa} {l:List α} {r:List Ab} {id b d cap:Nat} {ex:Bool} (hg:A7 H id 0=some (flat f l++r)) (hi:b≤id):Hm H b (d+3) (.ms id 0 0 l.length cap sz ex)=some (.sl (enL f l) .no):=by
 have h1:¬id<b:=by omega
 have h2:l.length*sz≤(flat f l++r).length:=by rw [Y2,FI];omega
 have h3:(flat f l++r).take (l.length*sz)=flat f l:=by rw [←FI (f:=f) (sz:=sz) l,QaA]
 unfold Hm
 simp only [frz,h1,if_false,hg,Option.bind_some,ZJ,Yy,h2,if_true,h3,Hh (Pd (f:=f) l),Rt (f:=f) l,On,Option.map_some,forget,Eu,fgt]
section
variable {p g:Nat} {l:List Cl} {H:Aa} {r:List Ab} {f:Ab}
def kp (c:Cl):Bool:=decide (c.s≠0)
theorem kp_z (c:Cl):kp c = !z0 c:=by unfold kp z0;by_cases h:c.s=0 <;> simp [h]
theorem p_delete {cap:Nat} (hf:∀c∈l,∀H,D6 AF f [.agg (cCl c)] H=some (.ret (.bool (z0 c)),H)) (hf2:∀c∈l,∀H,D6 Bc f [.agg (cCl c)] H=some (.ret (.bool (z0 c)),H))
  (h:RwT H p g l r) (hc:l.length≤cap) (hl:cap<1000000000) :
  ∃G r',Sh.f1l (.ms p g 0 l.length cap 5 false) f H=some (.ret (.ms p g 0 (l.filter kp).length cap 5 false),G)∧RwT G p g (l.filter kp) r'∧(∀i,i<H.length→i≠p→G[i]? = H[i]?)∧H.length≤G.length:=by
 have hix:=index_z (cap:=cap) hf h (by omega)
 have hln:A5 (.ms p g 0 l.length cap 5 false)=some (.int .i64 (l.length:Int)):=rfl
 unfold Sh.f1l
 cases hfi:l.findIdx? z0 with
 | none=>
  rw [hfi]at hix
  have e:l.filter kp=l:=by
   rw [List.filter_eq_self]
   intro c hc
   rw [QaG]at hfi
   rw [kp_z,hfi c hc];rfl
  refine ⟨H,r,?_,by rw [e];exact h,fun _ _ _=>rfl,Yz _⟩
  have hb:((-1:Int) == -1)=true:=rfl
  simp only [GMb,GMc,hix,hb,Ek,forget,Eu,fgt]
  rw [e]
 | some i0=>
  rw [hfi]at hix
  rw [Qaq]at hfi
  obtain ⟨hi0,hz0,hless⟩:=hfi
  have hb:(((i0:Nat):Int) == -1)=false:=by rw [beq_eq_false_iff_ne];omega
  have hw0:=Av (show i0<9223372036854775807 by omega)
  have ef:(l.take (i0+1)).filter kp=l.take i0:=by
   rw [Y5 hi0,Zd]
   have e1:(l.take i0).filter kp=l.take i0:=by
    rw [List.filter_eq_self]
    intro c hc
    rw [List.mem_take_iff_getElem]at hc
    obtain ⟨j,hj,rfl⟩:=hc
    rw [kp_z]
    have:=hless j (by omega)
    simpa using this
   have e2:[l[i0]].filter kp=[]:=by simp [Zp,kp_z,hz0]
   rw [e1,e2,YP]
  have key:=Ep (G:=fun rec1 vs H1=>Sh.f4v H rec1 (ag vs 0) (ag vs 1) (ag vs 2) (ag vs 3) H1) (σ:=Nat×List Cl)
   (fun s vs K=>(i0+1≤s.1∧s.1≤l.length∧s.2.length=l.length∧((l.take s.1).filter kp).length<s.1∧s.2.take ((l.take s.1).filter kp).length=(l.take s.1).filter kp∧s.2.drop s.1=l.drop s.1) ∧
    (RwT K p g s.2 r∧(∀i,i<H.length→i≠p→K[i]? = H[i]?)∧H.length≤K.length)∧vs=[.ms p g 0 l.length cap 5 false,f,.int .i64 (((l.take s.1).filter kp).length:Int),.int .i64 (s.1:Int)]) (fun s=>l.length-s.1) (fun s=>¬s.1<l.length) (fun s vs K hI hd=>?_)
   (s:=(i0+1,l)) (vs:=[.ms p g 0 l.length cap 5 false,f,.int .i64 (i0:Int),.int .i64 ((i0+1:Nat):Int)]) (H:=H)
   (by
    have e2:(l.take i0).length=i0:=by rw [YC];omega
    dsimp only
    rw [ef,e2]
    exact ⟨⟨Yz _,hi0,rfl,by omega,rfl,rfl⟩,⟨h,fun _ _ _=>rfl,Yz _⟩,rfl⟩) (by dsimp only;omega)
  ·obtain ⟨⟨j,L⟩,vs,K,hd,⟨⟨i1,i2,i3,i4,i5,i6⟩,⟨k1,k2,k3⟩,rfl⟩,rec,hloop⟩:=key
   dsimp only at i1 i2 i3 i4 i5 i6 k1 hd hloop
   have ej:j=l.length:=by omega
   subst ej
   rw [Y6 (Yz _)]at i4 i5 hloop
   obtain ⟨G,r',g1,g2,g3,g4⟩:=X0 (k:=(l.filter kp).length) k1 (by omega)
   rw [i3]at g1
   rw [i5]at g2
   have d1:decide ((l.length:Int)<(l.length:Int))=false:=decide_eq_false (by omega)
   have s1:Bw 5 (.ms p g 0 l.length cap 5 false) (some (.int .i64 ((l.filter kp).length:Int))) none none=some (.ms p g ((l.filter kp).length*5) (l.length-(l.filter kp).length) (cap-(l.filter kp).length) 5 false):=by
    have:(l.filter kp).length≤l.length:=by omega
    simp [Bw,Bt,this,hc]
   have s2:Bw 5 (.ms p g 0 l.length cap 5 false) none (some (.int .i64 ((l.filter kp).length:Int))) none=some (.ms p g 0 (l.filter kp).length cap 5 false):=by
    have:(l.filter kp).length≤cap:=by omega
    simp [Bw,Bt,this]
   have g1':Lh 5 (some zCl) (.ms p g ((l.filter kp).length*5) (l.length-(l.filter kp).length) (cap-(l.filter kp).length) 5 false) K=some G:=g1
   refine ⟨G,r',?_,g2,fun i hi hne=>by rw [g3 i hne];exact k2 i hi hne,by omega⟩
   simp only [GMb,GMc,hix,hb,hw0]
   rw [hloop]
   unfold Sh.f4v
   simp only [Al,Ai,Bb,Bf,B2,GMb,GMc,hln,d1,s1,s2]
   rw [show [Ab.bool false,.sl [] .tight,.bool false,.sl [] .tight,.int .u8 0]=zCl from rfl,g1']
   simp only [GMb,GMc,AL,Ek,forget,Eu,fgt]
  ·obtain ⟨j,L⟩:=s
   obtain ⟨⟨i1,i2,i3,i4,i5,i6⟩,⟨k1,k2,k3⟩,rfl⟩:=hI
   dsimp only at i1 i2 i3 i4 i5 i6 k1 hd ⊢
   have hj:j<l.length:=by omega
   have hLj:j<L.length:=by omega
   have ej:L[j]=l[j]:=by
    have:=congrArg (fun x=>x[0]?) i6
    simp only [Zh,Nat.add_zero]at this
    rw [Yu hLj,Yu hj]at this
    exact Z9 this
   have edr:L.drop (j+1)=l.drop (j+1):=by
    have:=congrArg (List.drop 1) i6
    rw [ZG,ZG]at this
    exact this
   have d1:decide ((j:Int)<(l.length:Int))=true:=decide_eq_true (by omega)
   have x1:Au 5 (.ms p g 0 l.length cap 5 false) (.int .i64 (j:Int))=some (.ptr p g (j*5)):=by rw [CJ hj,Yy]
   have hwj:=Av (show j<9223372036854775807 by omega)
   have ld:=row_ldT k1 hLj
   rw [ej]at ld
   have al:Ax (some [.bool false,.sl [] .tight,.bool false,.sl [] .tight,.int .u8 0]) K=some (.ptr K.length 0 0,K++[.cel 0 zCl]):=alloc_eq rfl
   have stv:Af 5 (.ptr K.length 0 0) (.agg (cCl l[j])) (K++[.cel 0 zCl])=some (K++[.cel 0 (cCl l[j])]):=by
    simp only [Af,AE Ap,Option.bind_some,Pj,show (cCl l[j]).length=5 from rfl]
    rw [if_pos ⟨trivial,by simp [zCl]⟩,Ch Ap,Bd]
    rfl
   have ldv:Ac true 5 (.ptr K.length 0 0) (K++[.cel 0 (cCl l[j])])=some (.agg (cCl l[j])):=by
    simp only [Ac,AE Ap,Option.bind_some];rfl
   have c1:=hf2 l[j] (Y8 hj)
   have kr:=k1.push [.cel 0 (cCl l[j])]
   have hsn:(l.take (j+1)).filter kp=(l.take j).filter kp++[l[j]].filter kp:=by rw [Y5 hj,Zd]
   cases hz:z0 l[j]with
   | true=>
    have e0:[l[j]].filter kp=[]:=by simp [Zp,kp_z,hz]
    rw [e0,YP]at hsn
    rw [hz]at c1
    refine ⟨(j+1,L),_,K++[.cel 0 (cCl l[j])],by dsimp only;omega,⟨⟨by dsimp only;omega,hj,i3,by dsimp only;rw [hsn];omega,by dsimp only;rw [hsn];exact i5,edr⟩,⟨kr,fun i hi hne=>by rw [Yx (by omega)];exact k2 i hi hne,by simp;omega⟩,rfl⟩,fun rec=>?_⟩
    unfold Sh.f4v Sh.f79
    simp only [Al,Ai,Bb,Bf,B2,GMb,GMc,hln,d1,x1,ld,al,stv,ldv,AL,c1,hwj,hsn]
   | false=>
    have e0:[l[j]].filter kp=[l[j]]:=by simp [Zp,kp_z,hz]
    rw [e0]at hsn
    rw [hz]at c1
    have hi':((l.take j).filter kp).length<L.length:=by omega
    obtain ⟨G,g1,g2,g3,g4⟩:=row_stT kr hi' l[j]
    have hwi:=Av (show ((l.take j).filter kp).length<9223372036854775807 by omega)
    have x2:Au 5 (.ms p g 0 l.length cap 5 false) (.int .i64 (((l.take j).filter kp).length:Int))=some (.ptr p g (((l.take j).filter kp).length*5)):=by rw [CJ (by omega),Yy]
    have hGl:G.length=K.length+1:=by rw [g4];simp
    refine ⟨(j+1,L.set ((l.take j).filter kp).length l[j]),_,G,by dsimp only;omega,⟨⟨by dsimp only;omega,hj,by dsimp only;rw [YW];exact i3,by dsimp only;rw [hsn];simp;omega,by
      dsimp only
      rw [hsn,Y2,List.length_singleton,Y5 (by rw [YW];omega),QaW,List.take_set_of_le (Yz _),i5],by
      dsimp only
      rw [List.drop_set_of_lt (by omega)];exact edr⟩,⟨g2,fun i hi hne=>by rw [g3 i hne,Yx (by omega)];exact k2 i hi hne,by omega⟩,rfl⟩,fun rec=>?_⟩
    unfold Sh.f4v Sh.f79
    simp only [Al,Ai,Bb,Bf,B2,GMb,GMc,hln,d1,x1,x2,ld,al,stv,ldv,AL,c1,g1,hwi,hwj,hsn,Y2,List.length_singleton]

end
theorem Ok {g:FuncId} {F:List Ab→Aa→Out} {o:Orc} {args:List Ab} {H:Aa}:D6 (ent g F o) (.fn g []) args H=F args H:=by
 unfold D6 ent
 simp only [if_true,YP]
theorem Uz {g g':FuncId} {F:List Ab→Aa→Out} {o:Orc} {args:List Ab} {H:Aa} (h:¬g'=g):D6 (ent g F o) (.fn g' []) args H=D6 o (.fn g' []) args H:=by
 unfold D6 ent
 simp only [h,if_false]
theorem RI (F:Ab→Aa→Out) (a:Ab) (H:Aa):ap1 F [a] H=F a H:=rfl
theorem ap2_two (F:Ab→Ab→Aa→Out) (a b:Ab) (H:Aa):ap2 F [a,b] H=F a b H:=rfl
theorem cmp_ins {l:List Cl} (hok:∀c∈l,c.ok):WA AB (.fn 144 []) l:=fun c hc d hd K=>by
 unfold AB
 rw [Ok,ap2_two]
 exact p_order (hok c hc) (hok d hd) K
theorem cmp_sym {l:List Cl} (hok:∀c∈l,c.ok):Xj (.fn 144 []) l:=fun self c hc d hd K=>by
 unfold Be
 rw [Uz (by decide),Ok,ap2_two]
 exact p_order (hok c hc) (hok d hd) K
theorem p_last1 {c d:Cl} (hc:c.ok) (hd:d.ok) (H:Aa):Sh.f4t (.agg (cCl c)) (.agg (cCl d)) H=some (.ret (.bool (BC ltC c d)),H):=by
 have e1:(H++[Blk.cel 0 (cCl c)]++[Blk.cel 0 (cCl d)])[H.length]? = some (.cel 0 (cCl c)):=by simp
 have e2:(H++[Blk.cel 0 (cCl c)]++[Blk.cel 0 (cCl d)])[(H++[Blk.cel 0 (cCl c)]).length]? = some (.cel 0 (cCl d)):=Ap
 have ld:∀ {K:Aa} {p:Nat} {x:Cl},K[p]? = some (.cel 0 (cCl x))→Ac true 5 (.ptr p 0 0) K=some (.agg (cCl x)):=fun h=>by
  simp only [Ac,AE h,Option.bind_some];rfl
 have ho:=fun K=>p_order hc hd K
 have fin:∀q:Bool,rP H (.bool q) (H++[Blk.cel 0 (cCl c)]++[Blk.cel 0 (cCl d)])=some (.ret (.bool q),H):=fun q=>Gp rfl (by simp)
 have hb:(Jv c d == 0)=BC ltC c d:=by rw [←XA];rfl
 unfold Sh.f4t
 simp only [GMb,GMc,boxCl,ld e1,ld e2,ho,hb,fin]
theorem Ui (c:Cl) (H:Aa):Sh.f2x (.agg (cCl c)) H=some (.ret (.bool (z0 c)),H):=by
 have ld:Ac false 1 (.ptr H.length 0 4) (H++[Blk.cel 0 (cCl c)])=some (.int .u8 (c.s.toNat:Int)):=by
  simp only [Ac,AE Ap,Option.bind_some];rfl
 have fin:∀q:Bool,rP H (.bool q) (H++[Blk.cel 0 (cCl c)])=some (.ret (.bool q),H):=fun q=>Gp rfl (by simp)
 have hb:((c.s.toNat:Int) == 0)=z0 c:=by
  unfold z0
  by_cases h:c.s=0
  ·rw [h];rfl
  ·rw [decide_eq_false h,beq_eq_false_iff_ne]
   intro e
   exact h (Qay.1 (by simpa using e))
 unfold Sh.f2x
 simp only [GMb,GMc,boxCl,Ah,Yy,ld,hb,fin]
theorem kp_last (l:List Cl):(Dl l).filter kp=CV l:=rfl
theorem eq_cp {l:List Cl} (hok:∀c∈l,c.ok):∀c∈l,∀d∈l,∀H,D6 AI (.fn 146 []) [.agg (cCl c),.agg (cCl d)] H=some (.ret (.bool (BC ltC c d)),H):=fun c hc d hd K=>by
 unfold AI
 rw [Ok,ap2_two]
 exact p_last1 (hok c hc) (hok d hd) K
theorem z_ix (c:Cl) (K:Aa):D6 AF (.fn 148 []) [.agg (cCl c)] K=some (.ret (.bool (z0 c)),K):=by
 unfold AF
 first
  | rw [Ok,RI];exact Ui c K
  | rw [Uz (by decide),Ok,RI];exact Ui c K
theorem z_del (c:Cl) (K:Aa):D6 Bc (.fn 148 []) [.agg (cCl c)] K=some (.ret (.bool (z0 c)),K):=by
 unfold Bc
 first
  | rw [Ok,RI];exact Ui c K
  | rw [Uz (by decide),Ok,RI];exact Ui c K
theorem last_nil (H:Aa) (f1 f2 f3:Ab):Sh.f1f (.sl [] .tight) H=some (.ret (.tup []),H)∧Sh.f1j (.sl [] .tight) f1 H=some (.ret (.tup []),H) ∧
  Sh.f1k (.sl [] .tight) f2 H=some (.ret (.sl [] .no),H)∧Sh.f1l (.sl [] .no) f3 H=some (.ret (.sl [] .no),H):=by
 have hl:∀tk,A5 (.sl [] tk)=some (.int .i64 0):=fun _=>rfl
 have w1:IntKind.i64.wrap (0-1) = -1:=rfl
 have w2:IntKind.i64.wrap (0+1)=1:=rfl
 have d1:decide ((0:Int) < -1)=false:=rfl
 have d2:decide ((20:Int)≤0)=false:=rfl
 have d3:decide ((1:Int)<0)=false:=rfl
 have d4:decide ((20:Int)<0)=false:=rfl
 have d5:decide ((0:Int)<2)=true:=rfl
 have d6:decide ((0:Int)<0)=false:=rfl
 have hins:Sh.fv (.sl [] .tight) (.int .i64 0) (.int .i64 0) f1 H=some (.ret (.tup []),H):=by
  unfold Sh.fv
  simp only [GMb,GMc,w2]
  rw [Dd DU]
  unfold Sh.f5m
  simp only [Al,Ai,Bb,Bf,B2,BK,GMb,GMc,d3]
 have hst:Sh.f1i (.sl [] .tight) (.int .i64 0) f1 H=some (.ret (.tup []),H):=by
  unfold Sh.f1i
  rw [Dd DU]
  unfold Sh.f4s
  simp only [Al,Ai,Bb,Bf,B2,BK,D8,GMb,GMc,d2,hins]
  rw [Dd DU]
  unfold Sh.f23
  simp only [Al,Ai,Bb,Bf,B2,GMb,GMc,d4]
 have hix:Sh.fi (.sl [] .no) f3 H=some (.ret (.int .i64 (-1)),H):=by
  unfold Sh.fi
  simp only [hl,GMb,GMc]
  rw [Dd DU]
  unfold Sh.f10
  simp only [Al,Ai,Bb,Bf,B2,GMb,GMc,d6]
 refine ⟨?_,?_,?_,?_⟩
 ·unfold Sh.f1f
  simp only [hl,GMb,GMc,w1]
  rw [Dd DU]
  unfold Sh.f4r
  simp only [Al,Ai,Bb,Bf,GMb,GMc,d1]
 ·unfold Sh.f1j
  simp only [hl,GMb,GMc,hst]
 ·unfold Sh.f1k
  simp only [hl,GMb,GMc,d5,Ek,forget,Eu,fgt]
 ·unfold Sh.f1l
  have hb:((-1:Int) == -1)=true:=rfl
  simp only [GMb,GMc,hix,hb,Ek,forget,Eu,fgt]
theorem p_last (l:List Cl) (tk:Tok) (H:Aa) (hl:l.length<1000000000) (hok:∀c∈l,c.ok):Sh.f38 (.sl (enL cCl l) tk) H=some (.ret (.sl (enL cCl (CV l)) .no),H):=by
 have hcl:=p_clone l tk H hl
 unfold Sh.f38
 by_cases h0:l=[]
 ·subst h0
  rw [if_pos rfl]at hcl
  obtain ⟨n1,n2,n3,n4⟩:=last_nil H (.fn 144 []) (.fn 146 []) (.fn 148 [])
  have hl0:CV ([]:List Cl)=[]:=rfl
  simp only [GMb,GMc,hcl,n1,n2,n3,n4,N5,Ft,Option.map_some,hl0]
  rfl
 ·rw [if_neg h0]at hcl
  have hp:0<l.length:=YZ.2 h0
  have r0:CT (H++[.buf 0 (flat cCl l) A0 5]) H.length 0 l:=by unfold CT;simp
  have hrev:=p_reverse r0 hp hl
  have r1:CT (BJ (H++[.buf 0 (flat cCl l) A0 5]) H.length 0 l.reverse) H.length 0 l.reverse:=CY r0
  have hlr:l.reverse.length=l.length:=List.length_reverse
  obtain ⟨S,s1,s2,s3,s4⟩:=p_sort (f:=.fn 144 []) (l0:=l) (cmp_ins hok) (cmp_sym hok) r1 (fun c hc=>List.mem_reverse.1 hc) (by omega)
  rw [hlr,B5]at s4
  rw [hlr]at s3
  have hmS:∀c∈S,c∈l:=fun c hc=>List.mem_reverse.1 ((s2.mem Mm).2 hc)
  have r2:CT (BJ (H++[.buf 0 (flat cCl l) A0 5]) H.length 0 S) H.length 0 S:=CY r0
  obtain ⟨G,r,g1,g2,g3,g4⟩:=p_compact (f:=.fn 146 []) (eq_cp fun c hc=>hok c (hmS c hc)) r2 (by omega)
  have hcp:=cp_last s1 s2
  rw [hcp,s3]at g1
  rw [hcp]at g2
  have hAl:(Dl l).length≤l.length:=by rw [←hcp,←s3];exact cpL_len _ _
  obtain ⟨G2,r',k1,k2,k3,k4⟩:=p_delete (f:=.fn 148 []) (cap:=l.length) (fun c hc K=>z_ix c K) (fun c hc K=>z_del c K) g2 hAl hl
  rw [kp_last]at k1 k2
  have hHl:(H++[Blk.buf 0 (flat cCl l) A0 5]).length=H.length+1:=by simp
  have hGl:G.length=H.length+1:=by rw [g4];unfold BJ;rw [YW,hHl]
  have hold:∀i,i<H.length→G2[i]? = H[i]? := fun i hi=>by
   rw [k3 i (by omega) (by omega),g3 i (by omega)]
   unfold BJ
   rw [Yv (by omega),Yx hi]
  have hfa:=fall_msX (d:=5) (cap:=l.length) (ex:=false) (UW k2) (Yz H.length)
  simp only [GMb,GMc,hcl,hrev,s4,g1,k1,Gc (Cv hold)]
  rw [hfa]
  rfl
end Go.Gm
