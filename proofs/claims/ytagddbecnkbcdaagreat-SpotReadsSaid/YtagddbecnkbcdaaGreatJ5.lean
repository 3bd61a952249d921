/- Texts of this proof, joined. -/
import Derived.Test.YtagddbecnkbcdaaGreatJ2
import Derived.Test.YtagddbecnkbcdaaGreatJ3
import Derived.Test.YtagddbecnkbcdaaGreatJ4
set_option linter.unusedVariables false
set_option linter.unusedSimpArgs false
namespace Go.Gm
def Row1 (v:Ab) (H:Aa) (l:List Nat):Prop:=A5 v=some (.int .i64 (l.length:Int))∧∀(i:Nat) (h:i<l.length),∃p,Au 1 v (.int .i64 (i:Int))=some p∧∀G,Ac false 1 p (H++G)=some (.int .u32 (l[i]:Int))
theorem row_ms {l:List Nat} {H:Aa} {id:Nat} (hg:H[id]? = some (.cel 0 (flat cU l))):Row1 (.ms id 0 0 l.length l.length 1 true) H l:=by
 refine ⟨rfl,fun i h=>?_⟩
 have hidx:=CJ (sz:=1) (id:=id) (n:=l.length) (K:=.i64) (g:=0) (off:=0) (cap:=l.length) (ex:=true) (i:=i) h
 simp only [Yy,YB]at hidx
 exact ⟨_,hidx,fun G=>BG (Ih (f:=cU) (AE hg) h)⟩
theorem q01_bitsR {v:Ab} {H:Aa} {l:List Nat} (hv:Row1 v H l) (hl:l.length≤2199023255552) (hx:Lim l):Sh.f3 v H=some (.ret (.sl (enL cB (Ds (AQ l))) .no),H):=by
 unfold Sh.f3
 refine Ca l.length (fun i=>[v,Eb cB H (AQ (l.take i)),.int .i64 (i:Int)]) (fun i=>DR cB BZ 1 H (AQ (l.take i))) _ (by omega) (fun rec i hi=>?_) (fun rec=>?_)
 ·have hi':(i:Int)<(l.length:Int):=by omega
  have hxi:l[i]<4294967296:=hx _ (Y8 hi)
  have htk:AQ (l.take (i+1))=AQ (l.take i)++Dt 32 l[i]:=by
   rw [Y5 hi,AQ,ZV];simp [AQ]
  have hlen:(AQ (l.take i)).length≤32*2199023255552:=by rw [Cs];simp;omega
  obtain ⟨p,hp1,hp2⟩:=hv.2 i hi
  obtain ⟨G,hG⟩:=G9 (f:=cB) (ty:=BZ) (sz:=1) H (AQ (l.take i))
  have hld:Ac false 1 p (DR cB BZ 1 H (AQ (l.take i)))=some (.int .u32 (l[i]:Int)):=by rw [hG];exact hp2 G
  unfold Sh.f54
  simp only [Al,Bb,Bf,hv.1,BD,Bj,hi',decide_true,AV,hp1,hld,htk]
  generalize AQ (l.take i)=o at hlen
  generalize l[i]=x at hxi
  refine Bk (σ:=Nat×Nat×List Bool) (fun s=>s.1≤32∧s.2.1<4294967296∧s.2.2.length≤o.length+s.1) (fun s=>[v,Eb cB H s.2.2,.int .i64 (i:Int),.int .u32 (s.2.1:Int),.int .i64 (s.1:Int)]) (fun s=>DR cB BZ 1 H s.2.2) (fun s=>32-s.1)
   (fun s=>rec [v,Eb cB H (s.2.2++Dt (32-s.1) s.2.1),.int .i64 ((i+1:Nat):Int)] (DR cB BZ 1 H (s.2.2++Dt (32-s.1) s.2.1))) (fun s rec2 hs hrec=>?_) (0,x,o) ⟨by dsimp only;omega,hxi,by dsimp only;omega⟩ (by dsimp only;omega)
  obtain ⟨k,y,p⟩:=s
  obtain ⟨hk,hy,hp⟩:=hs
  simp only at hk hy hp hrec ⊢
  unfold Sh.f7j
  by_cases h:k<32
  ·have h':(k:Int)<32:=by omega
   have e1:(y:Int).tmod 2=((y%2:Nat):Int):=rfl
   have e2:IntKind.u32.wrap ((y:Int).tdiv 2)=((y / 2:Nat):Int):=by rw [show (y:Int).tdiv 2=((y / 2:Nat):Int) from rfl,CL] <;> omega
   have e3:decide (((y%2:Nat):Int)=1)=(y%2 == 1):=by rw [YD];simp only [beq_iff_eq,decide_eq_true_eq];omega
   have e4:IntKind.i64.wrap ((k:Int)+1)=((k+1:Nat):Int):=by rw [Am] <;> omega
   have:=hrec (k+1,y / 2,p++[y%2 == 1]) ⟨h,by dsimp only;omega,by simp;omega⟩ (by dsimp only;omega)
   simp only [Al,Bb,Bf,B2,BK,Bj,h',decide_true,BD,AV,HD (show (2:Int)≠0 by decide),RH (show (2:Int)≠0 by decide),e1,e2,DN,GP,e3,U5]
   rw [DD (by simp) (by simp;omega) (by simp;omega)]
   simp only [Df,CK,C2,BD,e4,this]
   rw [show 32-k=(32-(k+1))+1 from by omega,Dt];simp
  ·have:k=32:=by omega
   subst this
   have e4:IntKind.i64.wrap ((i:Int)+1)=((i+1:Nat):Int):=by rw [Am] <;> omega
   simp [Dt,e4]
 ·unfold Sh.f54
  obtain ⟨G,hG⟩:=G9 (f:=cB) (ty:=BZ) (sz:=1) H (AQ l)
  rw [Y6 (Yz _)]
  simp only [Al,Bb,Bf,FQ,hG,hv.1,BD,Bj,Zl,decide_false,AM,q01_cut (AQ l) _ _ (by rw [Cs];omega),CK,Co,Ft,Option.map_some]
theorem q01_normR {v:Ab} {H:Aa} {l:List Nat} (hv:Row1 v H l) (hl:l.length≤1099511627776) (hx:Lim l):Sh.fl v H=some (.ret (.sl (enL cU (A4 (val l))) .no),H):=by
 have hc:=Il (AQ l)
 rw [Cs]at hc
 unfold Sh.fl
 rw [q01_bitsR hv (by omega) hx]
 simp only [Fe]
 rw [Vd _ _ _ (by omega)]
 simp only [Fe,Ek,XX,E8,EM l hx]
theorem U9 (a:Nat) (l:List Nat):val (a::l)=a+4294967296*val l:=rfl
theorem div_step {m a v:Nat} (hm:0<m):(a+4294967296*v) / m=(v%m*4294967296+a) / m+4294967296*(v / m)∧(a+4294967296*v)%m=(v%m*4294967296+a)%m:=by
 have h:=Qab v m
 have e:a+4294967296*v=(v%m*4294967296+a)+m*(4294967296*(v / m)):=by
  conv=>lhs;rw [←h]
  rw [Zz,Nat.mul_left_comm]
  omega
 rw [e,QaY _ _ hm,Nat.add_mul_mod_self_left]
 exact ⟨rfl,rfl⟩
theorem quo_lt {m a r:Nat} (hr:r<m) (ha:a<4294967296):(r*4294967296+a) / m<4294967296:=by
 rw [ZB (by omega)]
 have:(r+1)*4294967296≤m*4294967296:=Za _ hr
 omega
theorem q01_div (l:List Nat) (tk:Tok) (m:Nat) (H:Aa) (hl:l.length≤1099511627776) (hx:Lim l) (hm0:0<m) (hm:m<4294967296) :
  Sh.f49 (.sl (enL cU l) tk) (.int .u32 (m:Int)) H=some (.ret (.tup [.sl (enL cU (A4 (val l / m))) .no,.int .u32 ((val l%m:Nat):Int)]),H):=by
 unfold Sh.f49
 have hm0':¬(m:Int)=0:=by omega
 have hmk:=Fo (f:=cU) (a:=0) (n:=l.length) (bytes:=4) (H:=H) (by omega) (by omega)
 simp only [show cU 0=[Ab.int .u32 0] from rfl]at hmk
 have hcm:∀n:Int,AD .u64 (.int .u32 (m:Int))=some (.int .u64 (m:Int)):=fun _=>by rw [Bq,BR (by omega) (by omega)]
 simp only [GMb,GMc,hm0',Aw,hmk]
 have hw0:IntKind.i64.wrap ((l.length:Int)-1)=(l.length:Int)-1:=Am (by omega) (by omega)
 rw [hw0]
 have key:=Bk (G:=fun rec1 vs H1=>Sh.f7o H rec1 (ag vs 0) (ag vs 1) (ag vs 2) (ag vs 3) (ag vs 4) H1) (σ:=Nat×List Nat) (fun s=>s.1≤l.length∧s.2.length=l.length∧Lim s.2∧val (s.2.drop s.1)=val (l.drop s.1) / m)
  (fun s=>[.sl (enL cU l) tk,.int .u32 (m:Int),.ms H.length 0 0 l.length l.length 1 true,.int .u64 ((val (l.drop s.1)%m:Nat):Int),.int .i64 ((s.1:Int)-1)]) (fun s=>H++[.cel 0 (flat cU s.2)]) (fun s=>s.1)
  (fun _=>some (.ret (.tup [.sl (enL cU (A4 (val l / m))) .no,.int .u32 ((val l%m:Nat):Int)]),H)) (fun s rec hs hrec=>?_) (l.length,List.replicate l.length 0) ⟨Yz _,by simp,fun x hx=>by have:=(QaB.1 hx).2;omega,by simp [val]⟩ (by dsimp only;omega)
 ·simp only [List.drop_length,show val []=0 from rfl,Nat.zero_mod]at key
  exact key
 ·obtain ⟨k,O⟩:=s
  obtain ⟨h1,h2,h3,h4⟩:=hs
  simp only at h1 h2 h3 h4 hrec ⊢
  unfold Sh.f7o
  cases k with
  | zero=>
   have hrow:=row_ms (l:=O) (H:=H++[Blk.cel 0 (flat cU O)]) (id:=H.length) Ap
   rw [h2]at hrow
   have hn:=q01_normR hrow (by omega) h3
   have hv:val O=val l / m:=by simpa using h4
   have hlt:val l%m<m:=ZS _ hm0
   have hcv:AD .u32 (.int .u64 ((val l%m:Nat):Int))=some (.int .u32 ((val l%m:Nat):Int)):=by rw [Bq,CL (by omega) (by omega)]
   simp only [GMb,GMc,Ai,show ¬(((0:Nat):Int)-1≥0) from by decide,hn,ZJ,hcv,hv,Co,Dz,Cp,C9,ID,Fs,Option.map_some]
  | succ j=>
   have hj:j<l.length:=h1
   have hi:((j+1:Nat):Int)-1=(j:Int):=by omega
   have ha:=hx _ (Y8 hj)
   have hd:l.drop j=l[j]::l.drop (j+1):=YS hj
   have hr:val (l.drop (j+1))%m<m:=ZS _ hm0
   obtain ⟨s1,s2⟩:=div_step (m:=m) (a:=l[j]) (v:=val (l.drop (j+1))) hm0
   have hq:=quo_lt (m:=m) (a:=l[j]) (r:=val (l.drop (j+1))%m) hr ha
   have hmul:val (l.drop (j+1))%m*4294967296≤4294967295*4294967296:=Za _ (by omega)
   generalize hrr:val (l.drop (j+1))%m=r at *
   have w1:IntKind.u64.wrap ((r:Int)*4294967296)=((r*4294967296:Nat):Int):=by rw [BR] <;> omega
   have w2:AD .u64 (.int .u32 (l[j]:Int))=some (.int .u64 (l[j]:Int)):=by rw [Bq,BR (by omega) (by omega)]
   have w3:IntKind.u64.wrap (((r*4294967296:Nat):Int)+(l[j]:Int))=((r*4294967296+l[j]:Nat):Int):=by rw [BR] <;> omega
   have w4:IntKind.u64.wrap (((r*4294967296+l[j]:Nat):Int).tdiv (m:Int))=(((r*4294967296+l[j]) / m:Nat):Int):=by
    rw [show (((r*4294967296+l[j]:Nat):Int).tdiv (m:Int))=(((r*4294967296+l[j]) / m:Nat):Int) from rfl,BR (Qbd _) (Int.lt_of_lt_of_le (Int.ofNat_lt.2 hq) (by decide))]
   have w5:AD .u32 (.int .u64 (((r*4294967296+l[j]) / m:Nat):Int))=some (.int .u32 (((r*4294967296+l[j]) / m:Nat):Int)):=by rw [Bq,CL (Qbd _) (Int.ofNat_lt.2 hq)]
   have w6:(((r*4294967296+l[j]:Nat):Int).tmod (m:Int))=(((r*4294967296+l[j])%m:Nat):Int):=rfl
   have w7:IntKind.i64.wrap ((j:Int)-1)=(j:Int)-1:=Am (by omega) (by omega)
   have hidx:=CJ (sz:=1) (id:=H.length) (n:=l.length) (K:=.i64) (g:=0) (off:=0) (cap:=l.length) (ex:=true) (i:=j) hj
   simp only [Yy,YB]at hidx
   have hst:=DP (f:=cU) (sz:=1) (l:=O) (i:=j) (a:=(r*4294967296+l[j]) / m) (v:=.int .u32 (((r*4294967296+l[j]) / m:Nat):Int)) (H:=H++[Blk.cel 0 (flat cU O)]) (id:=H.length) (AE Ap) (by omega) rfl
   rw [YB,Ch Ap,Bd]at hst
   have hge:((j:Int)≥0):=by omega
   have hmz:(m:Int)≠0:=hm0'
   have:=hrec (j,O.set j ((r*4294967296+l[j]) / m)) ⟨by omega,by simp [h2],fun x hxx=>by
     rcases QaF hxx with h | h
     ·exact h3 x h
     ·rw [h];exact hq,by
     dsimp only
     rw [hd,U9,s1,List.drop_set,if_neg (by omega),YV,YS (by omega:j<O.length),List.set_cons_zero,U9,h4]⟩ (by dsimp only;omega)
   dsimp only at this
   rw [hd,U9,s2]at this
   rw [hi]
   simp only [GMb,GMc,Ai,hge,w1,Ay hj,A9,List.getElem?_cons_zero,w2,w3,hcm 0,RH hmz,w4,w5,hidx,hst,and_true,eq_self,HD hmz,w6,w7]
   exact this
def MG (n:Nat):List UInt8:=if h:n<10 then [UInt8.ofNat (48+n)]else MG (n / 10)++[UInt8.ofNat (48+n%10)]
termination_by n
decreasing_by omega
def TP (z:Int):List UInt8:=if z<0 then 45::MG z.natAbs else MG z.natAbs
theorem decN_log:∀(k n:Nat),n<10^(k+1)→(MG n).length≤k+1:=by
 intro k
 induction k with
 | zero=>intro n h;unfold MG;rw [dif_pos (by omega)];simp
 | succ k ih=>
  intro n h
  unfold MG
  split
  ·simp
  ·have h2:n / 10<10^(k+1):=by
    rw [ZB (by omega),←Nat.pow_succ];exact h
   have:=ih (n / 10) h2
   simp;omega
theorem Yg (k n:Nat) (h:n<10^k):(MG n).length≤k+(if k=0 then 1 else 0):=by
 cases k with
 | zero=>have:=decN_log 0 n (by omega);simpa using this
 | succ k=>have:=decN_log k n h;simpa using this
theorem digit_u8 {d:Nat} (h:d<10):AD .u8 (.int .u32 (IntKind.u32.wrap (48+(d:Int))))=some (.int .u8 ((UInt8.ofNat (48+d)).toNat:Int)):=by
 rw [Bq,CL (by omega) (by omega),QI (by omega) (by omega),UInt8.toNat_ofNat_of_lt' (show 48+d<256 by omega)]
 rfl
theorem pow10_32 (k:Nat):10^k≤4294967296^k:=Nat.pow_le_pow_left (by omega) k
theorem VF {n:Nat} (h:n<10^4096):(A4 n).length≤4096:=ES (Zs h (pow10_32 4096))
theorem q03_text (z:Int) (H:Aa) (hz:z.natAbs<10^4096):Sh.f2g (big z) H=some (.ret (.str (TP z)),H):=by
 unfold Sh.f2g
 have g0:Ac false 1 (.ptr H.length 0 0) (H++[Blk.cel 0 (A6 z)])=some (.bool (decide (z<0))):=by simp only [Ac,AE Ap,Option.bind_some];rfl
 have g1:Ac false 1 (.ptr H.length 0 1) (H++[Blk.cel 0 (A6 z)])=some (.sl (enL cU (A4 z.natAbs)) .no):=by simp only [Ac,AE Ap,Option.bind_some];rfl
 simp only [GMb,GMc,DC,Ah,Yy,g1]
 have hmeas:∀n:Nat,n<10^4096→(MG n).length≤4096:=fun n h=>Yg 4096 n h
 have key:=Bk (G:=fun rec1 vs H1=>Sh.f7p H rec1 (ag vs 0) (ag vs 1) (ag vs 2) H1) (σ:=Nat×List UInt8) (fun s=>s.1<10^4096∧s.2.length+(MG s.1).length≤5000)
  (fun s=>[.ptr H.length 0 0,.str s.2,.sl (enL cU (A4 s.1)) .no]) (fun _=>H++[.cel 0 (A6 z)]) (fun s=>(MG s.1).length)
  (fun s=>some (.ret (.str ((if z<0 then [45]else [])++MG s.1++s.2)),H)) (fun s rec hs hrec=>?_) (z.natAbs,[]) ⟨hz,by have:=hmeas _ hz;simp;omega⟩ (by have:=hmeas _ hz;dsimp only;omega)
 ·refine key.trans ?_
  unfold TP
  dsimp only
  split <;> simp
 ·obtain ⟨n,s⟩:=s
  obtain ⟨h1,h2⟩:=hs
  simp only at h1 h2 hrec ⊢
  have hdiv:=fun H=>q01_div (A4 n) .no 10 H (by have:=VF h1;omega) (Bp n) (by omega) (by omega)
  simp only [Bx,show ((10:Nat):Int)=10 from rfl]at hdiv
  have hd:n%10<10:=ZS _ (by omega)
  have hdig:=digit_u8 hd
  unfold Sh.f7p
  simp only [GMb,GMc,Ai,hdiv,B1,B8,hdig,build_Y,toStr_enL]
  rw [FO (by simp;omega)]
  simp only [GMb,GMc,Aw]
  by_cases hn:n<10
  ·have h0:n / 10=0:=by omega
   have hm:n%10=n:=by omega
   have hdn:MG n=[UInt8.ofNat (48+n)]:=by unfold MG;rw [dif_pos hn]
   rw [hdn,h0,Du,hm]
   simp only [GMb,GMc,List.length_nil,show ((0:Nat):Int)=0 from rfl,Ah,Nat.add_zero,g0]
   by_cases hz0:z<0
   ·simp only [hz0,GMb,GMc]
    rw [FO (by simp;omega)]
    simp only [GMb,GMc,rP_str]
    simp
   ·simp only [hz0,GMb,GMc,rP_str]
    simp
  ·have h0:n / 10≠0:=by omega
   have hne:¬((A4 (n / 10)).length:Int)=0:=by
    have:=YZ.2 (Rk h0);omega
   have hdn:MG n=MG (n / 10)++[UInt8.ofNat (48+n%10)]:=by
    conv=>lhs;unfold MG
    rw [dif_neg hn]
   have hlen:(MG n).length=(MG (n / 10)).length+1:=by rw [hdn];simp
   have:=hrec (n / 10,[UInt8.ofNat (48+n%10)]++s) ⟨Zm (Nat.div_le_self _ _) h1,by simp;omega⟩ (by dsimp only;omega)
   simp only [hne,GMb,GMc]
   rw [this,hdn]
   simp
def qa (v:Nat) (x:Int) (k:Nat):Int:=if k%2=1 then x+2^(v-1)else x
def qb (v:Nat) (y:Int) (k:Nat):Int:=if 1<k then y+2^(v-1)else y
def inQ (v:Nat) (a b:Int) (c:Cl):Bool:=decide (a≤c.x)&&decide (c.x<a+2^(v-1))&&decide (b≤c.y)&&decide (c.y<b+2^(v-1))
def EC (v:Nat) (x y:Int) (k:Nat) (l:List Cl):List Cl:=l.filter (inQ v (qa v x k) (qb v y k))
def headS:List Cl→Int
 | []=>0
 | c::_=>(c.s.toNat:Int)
def plK (rec:List Nd→Int→Int→List Cl→List Nd×Nat) (v:Nat) (x y:Int) (l:List Cl):Nat→List Nd→List Nd×Nd
 | 0,out=>(out,⟨v,0,0,0,0⟩)
 | k+1,out=>
  if v=1 then ((plK rec v x y l k out).1,(plK rec v x y l k out).2.setKid k (headS (EC v x y k l)))
  else ((rec (plK rec v x y l k out).1 (qa v x k) (qb v y k) (EC v x y k l)).1,(plK rec v x y l k out).2.setKid k ((rec (plK rec v x y l k out).1 (qa v x k) (qb v y k) (EC v x y k l)).2:Int))
def Bl:Nat→List Nd→Int→Int→List Cl→List Nd×Nat
 | 0,out,_,_,_=>(out,0)
 | v+1,out,x,y,l=>if l=[]then (out,0)else ((plK (Bl v) (v+1) x y l 4 out).1++[(plK (Bl v) (v+1) x y l 4 out).2],(plK (Bl v) (v+1) x y l 4 out).1.length+1)
def Om (v:Nat) (x y:Int) (l:List Cl):Nat→Nat
 | 0=>0
 | k+1=>Om v x y l k+(EC v x y k l).length
theorem pow_half (v:Nat):(0:Int)<2^(v-1):=QaK (by omega)
theorem U0 (v:Nat) (x y:Int):∀l:List Cl,Om v x y l 4≤l.length
 | []=>by simp [Om,EC]
 | c::l=>by
  have ih:=U0 v x y l
  have hif:∀(p:Bool) (m:List Cl),(if p=true then c::m else m).length=(if p=true then 1 else 0)+m.length:=fun p m=>by cases p <;> simp <;> omega
  simp only [Om,EC,Zp,qa,qb,hif]at ih ⊢
  simp only [show (0:Nat)%2=0 from rfl,show (1:Nat)%2=1 from rfl,show (2:Nat)%2=0 from rfl,show (3:Nat)%2=1 from rfl,show ¬(1:Nat)<0 from by omega,show ¬(1:Nat)<1 from by omega,show (1:Nat)<2 from by omega,show (1:Nat)<3 from by omega,if_true,if_false,show ¬(0:Nat)=1 from by omega]at ih ⊢
  have key:(if inQ v x y c then 1 else 0)+(if inQ v (x+2^(v-1)) y c then 1 else 0)+(if inQ v x (y+2^(v-1)) c then 1 else 0)+(if inQ v (x+2^(v-1)) (y+2^(v-1)) c then 1 else 0)≤1:=by
   unfold inQ
   have hp:=pow_half v
   generalize (2:Int)^(v-1)=h at hp
   simp only [Y7,decide_eq_true_eq]
   split <;> split <;> split <;> split <;> first | omega | (exfalso;omega)
  simp only [List.length_cons]
  omega
theorem cntQ_mono (v:Nat) (x y:Int) (l:List Cl) {k:Nat} (h:k≤4):Om v x y l k≤l.length:=by
 have h4:=U0 v x y l
 match k,h with
 | 0,_=>simp [Om]
 | 1,_=>simp only [Om]at h4 ⊢;omega
 | 2,_=>simp only [Om]at h4 ⊢;omega
 | 3,_=>simp only [Om]at h4 ⊢;omega
 | 4,_=>exact h4

mutual
theorem X9:∀(v:Nat) (out:List Nd) (x y:Int) (l:List Cl),(Bl v out x y l).1.length≤out.length+l.length*v
 | 0,out,x,y,l=>by simp [Bl]
 | v+1,out,x,y,l=>by
  unfold Bl
  split
  ·simp
  ·rename_i hl
   have h:=Uh v out x y l 4 (Yz _)
   have hc:=U0 (v+1) x y l
   have hpos:0<l.length:=YZ.2 hl
   have:Om (v+1) x y l 4*v≤l.length*v:=Za _ hc
   have e:l.length*(v+1)=l.length*v+l.length:=Nat.mul_succ _ _
   simp only [Y2,List.length_singleton]
   omega
theorem Uh:∀(v:Nat) (out:List Nd) (x y:Int) (l:List Cl) (k:Nat),k≤4→(plK (Bl v) (v+1) x y l k out).1.length≤out.length+Om (v+1) x y l k*v
 | v,out,x,y,l,0,_=>by simp [plK,Om]
 | v,out,x,y,l,k+1,h=>by
  have ih:=Uh v out x y l k (by omega)
  unfold plK Om
  rw [Zg]
  split
  ·dsimp only;omega
  ·have:=X9 v (plK (Bl v) (v+1) x y l k out).1 (qa (v+1) x k) (qb (v+1) y k) (EC (v+1) x y k l)
   dsimp only;omega

end
def PS (b:Nat) (out:List Nd) (v:Ab) (H:Aa):Prop:=(out=[]∧v=.sl [] .tight)∨∃t,b≤t∧v=.sl (enL cNd out) (.own t)∧H[t]? = some (.tok out.length AJ 5)
structure Kp (b:Nat) (H H':Aa):Prop where
 len:H.length≤H'.length
 cel:∀(i:Nat) (cs:List Ab),H[i]? = some (.cel 0 cs)→H'[i]? = some (.cel 0 cs)
 old:∀i,i<b→H'[i]? = H[i]?
theorem Kp.refl (b:Nat) (H:Aa):Kp b H H:=⟨Yz _,fun _ _ h=>h,fun _ _=>rfl⟩
theorem Kp.trans {b:Nat} {H H1 H2:Aa} (h:Kp b H H1) (h':Kp b H1 H2):Kp b H H2:=
 ⟨YJ h.len h'.len,fun i cs hc=>h'.cel i cs (h.cel i cs hc),fun i hi=>(h'.old i hi).trans (h.old i hi)⟩
theorem Kp.app {b:Nat} {H:Aa} (hb:b≤H.length) (G:Aa):Kp b H (H++G):=
 ⟨by simp,fun i cs h=>A1 h,fun i hi=>by rw [Yx (by omega)]⟩
theorem PS.sl {b:Nat} {out:List Nd} {v:Ab} {H:Aa} (h:PS b out v H):∃tk,v=.sl (enL cNd out) tk:=by
 rcases h with ⟨rfl,rfl⟩ | ⟨t,_,rfl,_⟩
 ·exact ⟨_,rfl⟩
 ·exact ⟨_,rfl⟩
theorem PS.left {b:Nat} {out:List Nd} {v:Ab} {H:Aa} (h:PS b out v H) (G:Aa):PS b out v (H++G):=by
 rcases h with h1 | ⟨t,h1,h2,h3⟩
 ·exact .inl h1
 ·exact .inr ⟨t,h1,h2,A1 h3⟩
theorem PS.put {b p:Nat} {out:List Nd} {v:Ab} {H:Aa} {c c':List Ab} (h:PS b out v H) (hp:H[p]? = some (.cel 0 c)):PS b out v (H.set p (.cel 0 c')):=by
 rcases h with h1 | ⟨t,h1,h2,h3⟩
 ·exact .inl h1
 ·refine .inr ⟨t,h1,h2,?_⟩
  have:p≠t:=fun e=>by rw [←e,hp]at h3;cases h3
  rw [Yv this];exact h3
theorem PS.snoc {b:Nat} {out:List Nd} {v:Ab} {H:Aa} (h:PS b out v H) (hb:b≤H.length) (x:Nd) (hl:out.length<3518437208883) :
  ∃v' H',AN AJ 5 40 v (.sl (enL cNd [x]) .tight) H=some (v',H')∧PS b (out++[x]) v' H'∧Kp b H H':=by
 rcases h with ⟨rfl,rfl⟩ | ⟨t,h1,rfl,h3⟩
 ·have:=CE (f:=cNd) (l:=[]) (m:=[x]) (ty:=AJ) (bytes:=40) (tk:=.tight) (H:=H) (by simp) (by simp) (by simp)
  exact ⟨_,_,this,.inr ⟨H.length,hb,rfl,by simp⟩,Kp.app hb _⟩
 ·have:=Ey (f:=cNd) (l:=out) (m:=[x]) (ty:=AJ) (bytes:=40) (tk:=.tight) (H:=H) (t:=t) (by simp) h3 (by simp;omega) (by simp;omega)
  have htl:=(Yw.1 h3).1
  refine ⟨_,_,this,.inr ⟨t,h1,rfl,by simp [htl]⟩,⟨by simp,fun i cs hc=>?_,fun i hi=>?_⟩⟩
  ·have:t≠i:=fun e=>by rw [←e,h3]at hc;cases hc
   rw [Yv this];exact hc
  ·rw [Yv (by omega)]
def TOPk (k:Nat):Nat:=2^k
def TOP:Nat:=TOPk 1400
theorem topk_lt {k m:Nat} (h:k<32*m):TOPk k<4294967296^m:=Vk h
theorem topk_ge {v k:Nat} (h:v≤k):2^v≤TOPk k:=pow2_le h
theorem top_lt:TOP<4294967296^44:=topk_lt (by decide)
theorem top_ge {v:Nat} (h:v≤1400):2^v≤TOP:=topk_ge h
def Cn (v:Nat) (z:Int):Prop:=z.natAbs+2^v≤TOP
theorem Ko (v:Nat):((2:Int)^v).natAbs=2^v:=by rw [QaE];rfl
theorem Cn.sb {v:Nat} {z:Int} (h:Cn v z):SB 44 z:=by
 exact Zm (YJ (Qas _ _) h) top_lt
theorem Cn.add {v:Nat} {z:Int} (h:Cn (v+1) z):Cn v (z+2^v)∧Cn v z:=by
 unfold Cn at *
 have e:(2:Nat)^(v+1)=2^v*2:=Nat.pow_succ _ _
 have h1:=Qbl z (2^v)
 rw [Ko]at h1
 omega
theorem Hz {v:Nat} (h:v≤1400):SB 44 (2^v):=by
 unfold SB
 rw [Ko]
 exact Zm (top_ge h) top_lt
theorem Cn.sb1 {v:Nat} {z:Int} (h:Cn (v+1) z):SB 44 (z+2^v)∧SB 44 (z+2^v+2^v):=by
 refine ⟨h.add.1.sb,?_⟩
 unfold Cn at h
 have e:(2:Nat)^(v+1)=2^v*2:=Nat.pow_succ _ _
 have h1:=Qbl z (2^v)
 have h2:=Qbl (z+2^v) (2^v)
 rw [Ko]at h1 h2
 exact Zm (show (z+2^v+2^v).natAbs≤TOP by omega) top_lt
section
variable {Hc:Aa} {a c:List Ab} {z:Int}
theorem st0 (ha:a.length=2):Af 2 (.ptr Hc.length 0 0) (big z) (Hc++[Blk.cel 0 a]++[Blk.cel 0 c])=some (Hc++[Blk.cel 0 (A6 z)]++[Blk.cel 0 c]):=by
 rw [Cu (cs:=a) (by simp) ha];simp
theorem st1 (hc:c.length=2):Af 2 (.ptr (Hc.length+1) 0 0) (big z) (Hc++[Blk.cel 0 a]++[Blk.cel 0 c])=some (Hc++[Blk.cel 0 a]++[Blk.cel 0 (A6 z)]):=by
 rw [Cu (cs:=c) (by simp) hc];simp

end
theorem place_gather (H:Aa) (self:Ab→Ab→Ab→Ab→Ab→Aa→Out) (j2:LK) (v:Nat) (hv:v≤1329) (w:Ab) (l:List Cl) (tk:Tok) (p6 p8 p15 p20 p45 p47 k:Nat) (B:Aa) (qa qb:Int) (out:Out)
  (hl:l.length<549755813888) (hok:∀c∈l,c.ok) (h15:B[p15]? = some (.cel 0 (A6 (2^(v-1))))) (h45:B[p45]? = some (.cel 0 (A6 qa))) (h47:B[p47]? = some (.cel 0 (A6 qb)))
  (ca:SB 44 qa∧SB 44 (qa+2^(v-1))) (cb:SB 44 qb∧SB 44 (qb+2^(v-1)))
  (fin:∀rec5:LK,Sh.f1v H self j2 rec5 w (.int .i64 (v:Int)) (.sl (enL cCl l) tk) (.ptr p6 0 0) (.ptr p8 0 0) (.ptr p15 0 0) (.ptr p20 0 0) (.int .i64 (k:Int)) (.ptr p45 0 0) (.ptr p47 0 0) (Eb cCl B (l.filter (inQ v qa qb))) (.int .i64 (l.length:Int)) (DR cCl A0 5 B (l.filter (inQ v qa qb)))=out) :
  Sh.f6p H self j2 w (.int .i64 (v:Int)) (.sl (enL cCl l) tk) (.ptr p6 0 0) (.ptr p8 0 0) (.ptr p15 0 0) (.ptr p20 0 0) (.int .i64 (k:Int)) (.ptr p45 0 0) (.ptr p47 0 0) B=out:=by
 unfold Sh.f6p
 refine Ca (G:=fun rec5 vs H1=>Sh.f1v H self j2 rec5 (ag vs 0) (ag vs 1) (ag vs 2) (ag vs 3) (ag vs 4) (ag vs 5) (ag vs 6) (ag vs 7) (ag vs 8) (ag vs 9) (ag vs 10) (ag vs 11) H1) l.length
  (fun i=>[w,.int .i64 (v:Int),.sl (enL cCl l) tk,.ptr p6 0 0,.ptr p8 0 0,.ptr p15 0 0,.ptr p20 0 0,.int .i64 (k:Int),.ptr p45 0 0,.ptr p47 0 0,Eb cCl B ((l.take i).filter (inQ v qa qb)),.int .i64 (i:Int)]) (fun i=>DR cCl A0 5 B ((l.take i).filter (inQ v qa qb))) _ (by omega) (fun rec i hi=>?_) (fun rec=>?_)
 ·have hi':(i:Int)<(l.length:Int):=by omega
  have hws:=Av (show i<9223372036854775807 by omega)
  have hco:=hok _ (Y8 hi)
  rw [Y5 hi,Zd]
  have hfl:((l.take i).filter (inQ v qa qb)).length≤i:=YJ (Z2 _ _) (by simp;omega)
  generalize ((l.take i).filter (inQ v qa qb))=fo at hfl
  obtain ⟨G,hG⟩:=G9 (f:=cCl) (ty:=A0) (sz:=5) B fo
  have t15:=AW (A1 (G:=G) h15)
  have t45:=AW (A1 (G:=G) h45)
  have t47:=AW (A1 (G:=G) h47)
  have ha:=DD (f:=cCl) (ty:=A0) (bytes:=72) (tk:=.tight) (B:=B) (l:=fo) (m:=[l[i]]) (by simp) (by simp;omega) (by simp;omega)
  rw [hG]at ha ⊢
  have hp:SB 44 (2^(v-1)):=Hz (by omega)
  have cx:=fun H z (hz:SB 44 z)=>G7 l[i].x z H (hco.1.lb (by decide)) (hz.lb (by decide))
  have cy:=fun H z (hz:SB 44 z)=>G7 l[i].y z H (hco.2.lb (by decide)) (hz.lb (by decide))
  have ad:=fun H z (hz:SB 44 z)=>JE z (2^(v-1)) H (hz.lb (by decide)) (hp.lb (by decide))
  generalize hc:l[i]=cl at hco cx cy ha
  unfold Sh.f1v
  have hidx:=Ay (f:=cCl) (tk:=tk) (K:=.i64) hi
  rw [hc]at hidx
  have e0:∀(s:Bool),inQ v qa qb cl=s→(if s then [cl]else [])=[cl].filter (inQ v qa qb):=fun s h=>by subst h;simp [Zp]
  simp only [GMb,GMc,Ai,Aw,hi',hidx,An,Yy,Rh,Rg,t15,t45,t47,cx _ _ ca.1,Pg,Sh.f2i,hws]
  cases h1:decide (qa≤cl.x)with
  | false=>
   rw [←e0 false (by simp [inQ,h1])]
   simp only [GMb,GMc,Ai,Rq,and_true,eq_self,Sh.f2i,hws,YP,hG]
  | true=>
   simp only [GMb,GMc,Ai,Uo,and_true,eq_self,t15,t45,t47,ad _ _ ca.1,hidx,An,Yy,Rh,Rg,cx _ _ ca.2,GG]
   cases h2:decide (cl.x<qa+2^(v-1))with
   | false=>
    rw [←e0 false (by simp [inQ,h2])]
    simp only [GMb,GMc,Ai,Rq,and_true,eq_self,Sh.f2i,hws,YP,hG]
   | true=>
    simp only [GMb,GMc,Ai,Uo,and_true,eq_self,t15,t45,t47,hidx,An,Yy,Rh,Rg,cy _ _ cb.1,Pg]
    cases h3:decide (qb≤cl.y)with
    | false=>
     rw [←e0 false (by simp [inQ,h3])]
     simp only [GMb,GMc,Ai,Rq,and_true,eq_self,Sh.f2i,hws,YP,hG]
    | true=>
     simp only [GMb,GMc,Ai,Uo,and_true,eq_self,t15,t45,t47,ad _ _ cb.1,hidx,An,Yy,Rh,Rg,cy _ _ cb.2,GG]
     cases h4:decide (cl.y<qb+2^(v-1))with
     | false=>
      rw [←e0 false (by simp [inQ,h4])]
      simp only [GMb,GMc,Ai,Sh.f2i,hws,YP,hG]
     | true=>
      rw [←e0 true (by unfold inQ;rw [h1,h2,h3,h4];rfl)]
      simp only [GMb,GMc,Ai,hidx,Rj,Kl,ha,Sh.f2i,hws]
 ·rw [Y6 (Yz _)]
  exact fin rec
theorem quartL_mem {v:Nat} {x y:Int} {k:Nat} {l:List Cl} {c:Cl} (h:c∈EC v x y k l):c∈l:=(ZN.1 h).1
theorem quartL_len (v:Nat) (x y:Int) (k:Nat) (l:List Cl):(EC v x y k l).length≤l.length:=Z2 _ _
def PlOk (b n:Nat) (self:Ab→Ab→Ab→Ab→Ab→Aa→Out):Prop:=
 ∀(out:List Nd) (w:Ab) (x y:Int) (l:List Cl) (tk:Tok) (H:Aa),PS b out w H→b≤H.length→(∀c∈l,c.ok)→Cn n x→Cn n y→l.length<549755813888→out.length+l.length*n<3518437208883 →
  ∃H' w',self w (.int .i64 (n:Int)) (big x) (big y) (.sl (enL cCl l) tk) H=some (.ret (.tup [w',.int .i64 ((Bl n out x y l).2:Int)]),H')∧PS b (Bl n out x y l).1 w' H'∧Kp b H H'
theorem qa_c {n:Nat} {x:Int} (h:Cn (n+1) x) (k:Nat):Cn n (qa (n+1) x k)∧SB 44 (qa (n+1) x k)∧SB 44 (qa (n+1) x k+2^(n+1-1)):=by
 unfold qa
 rw [YM]
 split
 ·exact ⟨h.add.1,h.sb1.1,h.sb1.2⟩
 ·exact ⟨h.add.2,h.sb,h.sb1.1⟩
theorem qb_c {n:Nat} {y:Int} (h:Cn (n+1) y) (k:Nat):Cn n (qb (n+1) y k)∧SB 44 (qb (n+1) y k)∧SB 44 (qb (n+1) y k+2^(n+1-1)):=by
 unfold qb
 rw [YM]
 split
 ·exact ⟨h.add.1,h.sb1.1,h.sb1.2⟩
 ·exact ⟨h.add.2,h.sb,h.sb1.1⟩
theorem place_turn {b n:Nat} {self:Ab→Ab→Ab→Ab→Ab→Aa→Out} (hself:n=0∨PlOk b n self) (hn:n+1≤1329) (H Hc:Aa) (out:List Nd) (w:Ab) (x y:Int) (l:List Cl) (tk:Tok) (p6 p8 p15 p20 k:Nat) (hk:k<4) (hb:b≤H.length) (h20:H.length≤p20)
  (hok:∀c∈l,c.ok) (cnx:Cn (n+1) x) (cny:Cn (n+1) y) (hl:l.length<549755813888) (hlen:out.length+l.length*(n+1)<3518437208883)
  (hPS:PS b (plK (Bl n) (n+1) x y l k out).1 w Hc) (f6:Hc[p6]? = some (.cel 0 (A6 x))) (f8:Hc[p8]? = some (.cel 0 (A6 y))) (f15:Hc[p15]? = some (.cel 0 (A6 (2^(n+1-1))))) (f20:Hc[p20]? = some (.cel 0 (cNd (plK (Bl n) (n+1) x y l k out).2))) (hKp:Kp b H Hc) (d6:p6≠p20) (d8:p8≠p20) (d15:p15≠p20) :
  ∃w' Hd,(∀rec:LK,Sh.f5d H self rec w (.int .i64 ((n+1:Nat):Int)) (.sl (enL cCl l) tk) (.ptr p6 0 0) (.ptr p8 0 0) (.ptr p15 0 0) (.ptr p20 0 0) (.int .i64 (k:Int)) Hc=rec [w',.int .i64 ((n+1:Nat):Int),.sl (enL cCl l) tk,.ptr p6 0 0,.ptr p8 0 0,.ptr p15 0 0,.ptr p20 0 0,.int .i64 ((k+1:Nat):Int)] Hd) ∧
   PS b (plK (Bl n) (n+1) x y l (k+1) out).1 w' Hd∧Hd[p6]? = some (.cel 0 (A6 x))∧Hd[p8]? = some (.cel 0 (A6 y))∧Hd[p15]? = some (.cel 0 (A6 (2^(n+1-1))))∧Hd[p20]? = some (.cel 0 (cNd (plK (Bl n) (n+1) x y l (k+1) out).2))∧Kp b H Hd:=by
 have hk':(k:Int)<4:=by omega
 have hws:=Av (show k<9223372036854775807 by omega)
 have hp:SB 44 (2^(n+1-1)):=Hz (by omega)
 have hrem:(k:Int).tmod 2=((k%2:Nat):Int):=rfl
 have hra:decide (((k%2:Nat):Int)=1)=decide (k%2=1):=by rw [YD];simp;omega
 have hrb:decide ((k:Int)>1)=decide (1<k):=by rw [YD];simp only [decide_eq_true_eq];omega
 have adx:=fun H=>JE x (2^(n+1-1)) H (cnx.sb.lb (by decide)) (hp.lb (by decide))
 have ady:=fun H=>JE y (2^(n+1-1)) H (cny.sb.lb (by decide)) (hp.lb (by decide))
 obtain ⟨ca1,ca2⟩:=qa_c cnx k
 obtain ⟨cb1,cb2⟩:=qb_c cny k
 have start:∀(j2:LK) (O:Out),Sh.f6p H self j2 w (.int .i64 ((n+1:Nat):Int)) (.sl (enL cCl l) tk) (.ptr p6 0 0) (.ptr p8 0 0) (.ptr p15 0 0) (.ptr p20 0 0) (.int .i64 (k:Int)) (.ptr Hc.length 0 0) (.ptr (Hc.length+1) 0 0) (Hc++[Blk.cel 0 (A6 (qa (n+1) x k))]++[Blk.cel 0 (A6 (qb (n+1) y k))])=O →
   (bC (Ac true 2 (.ptr p6 0 0) Hc) (fun _=>True) fun x44=>
    Ak (Ax (some [(.bool false),(.sl [] .tight)]) Hc) fun x45 H46=>
    Ak (Ax (some [(.bool false),(.sl [] .tight)]) H46) fun x47 H48=>
    AZ (A3 (Af 2 x45 x44 H48)) fun _ H50=>
    bC (Ac true 2 (.ptr p8 0 0) H50) (fun x51=>Ac true 2 (.ptr p8 0 0) Hc=some x51∧True) fun x51=>
    bK H (A3 (Af 2 x47 x51 H50)) fun _ H53=>
    AH (fun j3=>
    (Ae .none .rem (.int .i64 (k:Int)) (.int .i64 2)).bind fun x197=>
    (Ae .none .eql x197 (.int .i64 1)).bind fun x198=>
    Aj x198 (
    (Ac true 2 (.ptr p6 0 0) H53).bind fun x199=>
    (Ac true 2 (.ptr p15 0 0) H53).bind fun x200=>
    bK H (Sh.f1 x199 x200 H53) fun x201 H202=>
    bK H (A3 (Af 2 x45 x201 H202)) fun _ H204=>
    j3 [w,(.int .i64 ((n+1:Nat):Int)),(.sl (enL cCl l) tk),(.ptr p6 0 0),(.ptr p8 0 0),(.ptr p15 0 0),(.ptr p20 0 0),(.int .i64 (k:Int)),x45,x47] H204) (
    j3 [w,(.int .i64 ((n+1:Nat):Int)),(.sl (enL cCl l) tk),(.ptr p6 0 0),(.ptr p8 0 0),(.ptr p15 0 0),(.ptr p20 0 0),(.int .i64 (k:Int)),x45,x47] H53)) (fun vs H1=>Sh.f4g H self j2 (ag vs 0) (ag vs 1) (ag vs 2) (ag vs 3) (ag vs 4) (ag vs 5) (ag vs 6) (ag vs 7) (ag vs 8) (ag vs 9) H1))=O:=by
  intro j2 O hO
  have l1:(Hc++[Blk.cel 0 [Ab.bool false,.sl [] .tight]]).length=Hc.length+1:=by simp
  have g6:=fun (G G':Aa)=>AW (A1 (G:=G') (A1 (G:=G) f6))
  have g8:=fun (G G':Aa)=>AW (A1 (G:=G') (A1 (G:=G) f8))
  have g15:=fun (G G':Aa)=>AW (A1 (G:=G') (A1 (G:=G) f15))
  have s0:=fun (z:Int) (c:List Ab)=>st0 (Hc:=Hc) (a:=[.bool false,.sl [] .tight]) (c:=c) (z:=z) rfl
  have s0':=fun (z z':Int) (c:List Ab)=>st0 (Hc:=Hc) (a:=A6 z') (c:=c) (z:=z) rfl
  have s1:=fun (z:Int) (a:List Ab)=>st1 (Hc:=Hc) (a:=a) (c:=[.bool false,.sl [] .tight]) (z:=z) rfl
  have s1':=fun (z z':Int) (a:List Ab)=>st1 (Hc:=Hc) (a:=a) (c:=A6 z') (z:=z) rfl
  simp only [GMb,GMc,Ai,AW f6,Cd,l1,s0,g8,AW f8,and_true,eq_self,s1,HD (show (2:Int)≠0 by decide),hrem,hra]
  unfold qa qb at hO
  by_cases hka:k%2=1
  ·rw [if_pos hka]at hO
   by_cases hkb:1<k
   ·rw [if_pos hkb]at hO
    simp only [GMb,GMc,Ai,hka,g6,g15,adx,s0',Sh.f4g,hrb,hkb,g8,ady,s1']
    exact hO
   ·rw [if_neg hkb]at hO
    simp only [GMb,GMc,Ai,hka,g6,g15,adx,s0',Sh.f4g,hrb,hkb]
    exact hO
  ·rw [if_neg hka]at hO
   by_cases hkb:1<k
   ·rw [if_pos hkb]at hO
    simp only [GMb,GMc,Ai,hka,Sh.f4g,hrb,hkb,g8,g15,ady,s1']
    exact hO
   ·rw [if_neg hkb]at hO
    simp only [GMb,GMc,Ai,hka,Sh.f4g,hrb,hkb]
    exact hO
 generalize hB:Hc++[Blk.cel 0 (A6 (qa (n+1) x k))]++[Blk.cel 0 (A6 (qb (n+1) y k))]=B at start
 have b6:B[p6]? = some (.cel 0 (A6 x)):=by rw [←hB];exact A1 (A1 f6)
 have b8:B[p8]? = some (.cel 0 (A6 y)):=by rw [←hB];exact A1 (A1 f8)
 have b15:B[p15]? = some (.cel 0 (A6 (2^(n+1-1)))):=by rw [←hB];exact A1 (A1 f15)
 have b20:B[p20]? = some (.cel 0 (cNd (plK (Bl n) (n+1) x y l k out).2)):=by rw [←hB];exact A1 (A1 f20)
 have b45:B[Hc.length]? = some (.cel 0 (A6 (qa (n+1) x k))):=by rw [←hB];simp
 have b47:B[Hc.length+1]? = some (.cel 0 (A6 (qb (n+1) y k))):=by rw [←hB];simp
 have bPS:PS b (plK (Bl n) (n+1) x y l k out).1 w B:=by rw [←hB];exact (hPS.left _).left _
 have bKp:Kp b H B:=by rw [←hB,Y1];exact hKp.trans (Kp.app (YJ hb hKp.len) _)
 have hcnt:=cntQ_mono (n+1) x y l (show k+1≤4 by omega)
 have hpl:=Uh n out x y l k (by omega)
 have hmul:Om (n+1) x y l (k+1)*n≤l.length*n:=Za _ hcnt
 rw [show Om (n+1) x y l (k+1)*n=Om (n+1) x y l k*n+(EC (n+1) x y k l).length*n from by rw [←Zg];rfl]at hmul
 have hmul2:l.length*(n+1)=l.length*n+l.length:=Nat.mul_succ _ _
 obtain ⟨G,hG⟩:=G9 (f:=cCl) (ty:=A0) (sz:=5) B (EC (n+1) x y k l)
 have hin:∀i,l.filter (inQ (n+1) (qa (n+1) x i) (qb (n+1) y i))=EC (n+1) x y i l:=fun i=>rfl
 suffices hs:∃w' Hd,(∀(rec rec5:LK),Sh.f1v H self (fun vs H1=>Sh.f5c H rec (ag vs 0) (ag vs 1) (ag vs 2) (ag vs 3) (ag vs 4) (ag vs 5) (ag vs 6) (ag vs 7) H1) rec5 w (.int .i64 ((n+1:Nat):Int)) (.sl (enL cCl l) tk) (.ptr p6 0 0) (.ptr p8 0 0) (.ptr p15 0 0) (.ptr p20 0 0) (.int .i64 (k:Int)) (.ptr Hc.length 0 0) (.ptr (Hc.length+1) 0 0) (Eb cCl B (EC (n+1) x y k l)) (.int .i64 (l.length:Int)) (B++G)=rec [w',.int .i64 ((n+1:Nat):Int),.sl (enL cCl l) tk,.ptr p6 0 0,.ptr p8 0 0,.ptr p15 0 0,.ptr p20 0 0,.int .i64 ((k+1:Nat):Int)] Hd) ∧
   PS b (plK (Bl n) (n+1) x y l (k+1) out).1 w' Hd∧Hd[p6]? = some (.cel 0 (A6 x))∧Hd[p8]? = some (.cel 0 (A6 y))∧Hd[p15]? = some (.cel 0 (A6 (2^(n+1-1))))∧Hd[p20]? = some (.cel 0 (cNd (plK (Bl n) (n+1) x y l (k+1) out).2))∧Kp b H Hd by
  obtain ⟨w',Hd,q1,q2⟩:=hs
  refine ⟨w',Hd,fun rec=>?_,q2⟩
  unfold Sh.f5d
  simp only [Bj,BD,hk',decide_true,AV]
  rw [show ∀(f:LK→Out) (j:LK),AH f j=f j from fun _ _=>rfl]
  refine start _ _ (place_gather H self _ (n+1) hn w l tk p6 p8 p15 p20 Hc.length (Hc.length+1) k B _ _ _ hl hok b15 b45 b47 ca2 cb2 fun rec5=>?_)
  rw [hin,hG]
  exact q1 rec rec5
 generalize hq:EC (n+1) x y k l=q at hG hmul
 have hqm:∀c∈q,c.ok:=fun c hc=>hok c (by rw [←hq]at hc;exact quartL_mem hc)
 have hql:q.length≤l.length:=by rw [←hq];exact quartL_len _ _ _ _ _
 have t6:=A1 (G:=G) b6
 have t8:=A1 (G:=G) b8
 have t15:=A1 (G:=G) b15
 have t20:=A1 (G:=G) b20
 have t45:=A1 (G:=G) b45
 have t47:=A1 (G:=G) b47
 have tPS:=bPS.left G
 have tKp:Kp b H (B++G):=bKp.trans (Kp.app (YJ hb bKp.len) G)
 have hlast:¬((l.length:Int)<(l.length:Int)):=by omega
 generalize hT:B++G=T at t6 t8 t15 t20 t45 t47 tPS tKp
 have h20l:=(Yw.1 t20).1
 rcases ZI n with hn0 | hn0
 ·subst hn0
  have hone:¬(((0+1:Nat):Int)>1):=by decide
  have hone':(((0+1:Nat):Int)=1):=rfl
  have hone2:¬((1:Int)>1):=by decide
  have hpk:plK (Bl 0) (0+1) x y l (k+1) out=((plK (Bl 0) (0+1) x y l k out).1,(plK (Bl 0) (0+1) x y l k out).2.setKid k (headS q)):=by
   conv=>lhs;unfold plK
   rw [if_pos rfl,hq]
  rw [hpk]
  cases q with
  | nil=>
   refine ⟨w,T,fun rec rec5=>?_,tPS,t6,t8,t15,?_,tKp⟩
   ·unfold Sh.f1v
    simp only [GMb,GMc,Ai,Aw,hlast,Sh.f6o,hone,hone',hone2,show Eb cCl B []=.sl [] .tight from rfl,show A5 (.sl [] .tight)=some (.int .i64 0) from rfl,show ¬((0:Int)>0) from by decide,Sh.f5c,hws]
   ·rw [t20]
    have:(plK (Bl 0) (0+1) x y l k out).2.setKid k (headS [])=(plK (Bl 0) (0+1) x y l k out).2:=by
     have hz:(plK (Bl 0) (0+1) x y l k out).2.kid k=0:=by
      have:∀j,j≤k→(plK (Bl 0) (0+1) x y l j out).2.kid k=0:=by
       intro j
       induction j with
       | zero=>
        intro _
        unfold plK Nd.kid
        dsimp only
        split <;> rfl
       | succ j ihj=>
        intro hj
        conv=>lhs;unfold plK
        rw [if_pos rfl]
        dsimp only
        rw [G5 _ _ (by omega) hk (by omega)]
        exact ihj (by omega)
      exact this k (Yz _)
     generalize (plK (Bl 0) (0+1) x y l k out).2=nd at hz
     obtain ⟨lv,k0,k1,k2,k3⟩:=nd
     match k,hk,hz with
     | 0,_,hz=>simp only [Nd.kid]at hz;subst hz;rfl
     | 1,_,hz=>simp only [Nd.kid]at hz;subst hz;rfl
     | 2,_,hz=>simp only [Nd.kid]at hz;subst hz;rfl
     | 3,_,hz=>simp only [Nd.kid]at hz;subst hz;rfl
    rw [this]
  | cons c q=>
   have hwc:IntKind.i64.wrap (c.s.toNat:Int)=(c.s.toNat:Int):=wrap_nat (by have:=c.s.toNat_lt;omega)
   have hidx:Au 5 (.sl (enL cCl (c::q)) (.own B.length)) (.int .i64 0)=some (.cptr (cCl c) 0):=Ay (f:=cCl) (l:=c::q) (tk:=.own B.length) (K:=.i64) (i:=0) (by simp)
   have hpos:(((c::q).length:Int)>0):=by simp only [List.length_cons];omega
   refine ⟨w,T.set p20 (.cel 0 (cNd ((plK (Bl 0) (0+1) x y l k out).2.setKid k (c.s.toNat:Int)))),fun rec rec5=>?_,tPS.put t20,by rw [Yv d6.symm];exact t6,by rw [Yv d8.symm];exact t8,by rw [Yv d15.symm];exact t15,by rw [Y9 h20l];rfl,⟨by simp;exact tKp.len,fun i cs hi=>?_,fun i hi=>?_⟩⟩
   ·unfold Sh.f1v
    simp only [GMb,GMc,Ai,Aw,hlast,Sh.f6o,hone,hone',hone2,show Eb cCl B (c::q)=.sl (enL cCl (c::q)) (.own B.length) from rfl,hpos,hidx,An,Ah,Yy,load_sC,Bq,hwc,HL hk,EO t20 hk,Sh.f5c,hws]
   ·have:=(Yw.1 hi).1
    rw [Yv (by omega)];exact tKp.cel i cs hi
   ·rw [Yv (by omega)];exact tKp.old i hi
 ·-- a level above: a node
  have hsf:PlOk b n self:=by rcases hself with h | h;omega;exact h
  have hone:(((n+1:Nat):Int)>1):=by omega
  have hone':¬(((n+1:Nat):Int)=1):=by omega
  have hwn:IntKind.i64.wrap (((n+1:Nat):Int)-1)=(n:Int):=by rw [Am] <;> omega
  have hpk:plK (Bl n) (n+1) x y l (k+1) out=((Bl n (plK (Bl n) (n+1) x y l k out).1 (qa (n+1) x k) (qb (n+1) y k) q).1,(plK (Bl n) (n+1) x y l k out).2.setKid k ((Bl n (plK (Bl n) (n+1) x y l k out).1 (qa (n+1) x k) (qb (n+1) y k) q).2:Int)):=by
   conv=>lhs;unfold plK
   rw [if_neg (by omega),hq]
  rw [hpk]
  obtain ⟨H1,w1,r1,r2,r3⟩:=hsf _ w (qa (n+1) x k) (qb (n+1) y k) q (outK B q) T tPS (YJ hb tKp.len) hqm ca1 cb1 (by omega) (by omega)
  have u20:=r3.cel _ _ t20
  have u20l:=(Yw.1 u20).1
  refine ⟨w1,H1.set p20 (.cel 0 (cNd ((plK (Bl n) (n+1) x y l k out).2.setKid k ((Bl n (plK (Bl n) (n+1) x y l k out).1 (qa (n+1) x k) (qb (n+1) y k) q).2:Int)))),fun rec rec5=>?_,r2.put u20,by rw [Yv d6.symm];exact r3.cel _ _ t6,by rw [Yv d8.symm];exact r3.cel _ _ t8,by rw [Yv d15.symm];exact r3.cel _ _ t15,by rw [Y9 u20l],⟨by simp;exact YJ tKp.len r3.len,fun i cs hi=>?_,fun i hi=>?_⟩⟩
  ·unfold Sh.f1v
   simp only [GMb,GMc,Ai,Aw,hlast,Sh.f6o,hone,hone',FQ,hwn,AW t45,AW t47,r1,B1,B8,Ah,Yy,HL hk,EO u20 hk,Sh.f5c,hws]
  ·have:=(Yw.1 hi).1
   rw [Yv (by omega)];exact r3.cel _ _ (tKp.cel i cs hi)
  ·rw [Yv (by omega),r3.old i hi];exact tKp.old i hi
theorem Vl {b n d:Nat} (hself:n=0∨PlOk b n (Sh.fs d)) (hn:n+1≤1329):PlOk b (n+1) (Sh.fs (d+1)):=by
 intro out w x y l tk H hPS hb hok cnx cny hl hlen
 have hws:IntKind.i64.wrap (((n+1:Nat):Int)-1)=((n:Nat):Int):=by rw [Am] <;> omega
 have hp:SB 44 (2^(n+1-1)):=Hz (by omega)
 have hpow:=fun H=>Jc n H (by omega)
 show ∃H' w',Sh.f7u (Sh.fs d) _ _ _ _ _ _=_∧_
 unfold Sh.f7u Bl
 have s1:∀B:Aa,Af 2 (.ptr B.length 0 0) (big (2^n)) (B++[.cel 0 [.bool false,.sl [] .tight]])=some (B++[.cel 0 (A6 (2^n))]):=fun B=>by rw [Cu (Ap (B:=B)) rfl,Bd]
 simp only [GMb,GMc,DC,Aw]
 by_cases h0:l=[]
 ·subst h0
  simp only [GMb,GMc,List.length_nil,show ((0:Nat):Int)=0 from rfl]
  exact ⟨_,_,rfl,(hPS.left _).left _,(Kp.app hb _).trans (Kp.app (by simp;omega) _)⟩
 ·have hl0:¬((l.length:Int)=0):=by have:=YZ.2 h0;omega
  have hlp:=YZ.2 h0
  simp only [if_neg h0,hl0,GMb,GMc,hws,hpow,Cd,s1,Wv,RJ,J8 (Ap (cs:=cNd nd0)) rfl,Bd]
  generalize h1:H++[Blk.cel 0 (A6 x)]=H1
  generalize h2:H1++[Blk.cel 0 (A6 y)]=H2
  generalize h3:H2++[Blk.cel 0 (A6 (2^n))]=H3
  have e1:H1.length=H.length+1:=by rw [←h1];simp
  have e2:H2.length=H.length+2:=by rw [←h2];simp;omega
  have e3:H3.length=H.length+3:=by rw [←h3];simp;omega
  have f6:(H3++[Blk.cel 0 (cNd ⟨((n+1:Nat):Int),0,0,0,0⟩)])[H.length]? = some (.cel 0 (A6 x)):=by rw [←h3,←h2,←h1];simp
  have f8:(H3++[Blk.cel 0 (cNd ⟨((n+1:Nat):Int),0,0,0,0⟩)])[H1.length]? = some (.cel 0 (A6 y)):=by rw [←h3,←h2];simp
  have f15:(H3++[Blk.cel 0 (cNd ⟨((n+1:Nat):Int),0,0,0,0⟩)])[H2.length]? = some (.cel 0 (A6 (2^n))):=by rw [←h3];simp
  have hPS':PS b out w (H3++[Blk.cel 0 (cNd ⟨((n+1:Nat):Int),0,0,0,0⟩)]):=by rw [←h3,←h2,←h1];exact (((hPS.left _).left _).left _).left _
  have hKp':Kp b H (H3++[Blk.cel 0 (cNd ⟨((n+1:Nat):Int),0,0,0,0⟩)]):=by
   rw [←h3,←h2,←h1];simp only [Y1];exact Kp.app hb _
  have loop:=GB (G:=fun rec1 vs Hc=>Sh.f5d H (Sh.fs d) rec1 (ag vs 0) (ag vs 1) (ag vs 2) (ag vs 3) (ag vs 4) (ag vs 5) (ag vs 6) (ag vs 7) Hc) 4
   (fun k vs Hc=>∃w',vs=[w',.int .i64 ((n+1:Nat):Int),.sl (enL cCl l) tk,.ptr H.length 0 0,.ptr H1.length 0 0,.ptr H2.length 0 0,.ptr H3.length 0 0,.int .i64 (k:Int)]∧PS b (plK (Bl n) (n+1) x y l k out).1 w' Hc∧Hc[H.length]? = some (.cel 0 (A6 x))∧Hc[H1.length]? = some (.cel 0 (A6 y))∧Hc[H2.length]? = some (.cel 0 (A6 (2^n)))∧Hc[H3.length]? = some (.cel 0 (cNd (plK (Bl n) (n+1) x y l k out).2))∧Kp b H Hc)
   (by decide) (fun k vs Hc hk hI=>?_) (vs:=[w,.int .i64 ((n+1:Nat):Int),.sl (enL cCl l) tk,.ptr H.length 0 0,.ptr H1.length 0 0,.ptr H2.length 0 0,.ptr H3.length 0 0,.int .i64 0]) (H:=H3++[Blk.cel 0 (cNd ⟨((n+1:Nat):Int),0,0,0,0⟩)])
   ⟨w,rfl,hPS',f6,f8,f15,by simp [plK],hKp'⟩
  ·obtain ⟨vs',Hc,⟨w',rfl,g1,g2,g3,g4,g5,g6⟩,rec,hloop⟩:=loop
   have hpl:=Uh n out x y l 4 (Yz _)
   have hcnt:=U0 (n+1) x y l
   have hmul:Om (n+1) x y l 4*n≤l.length*n:=Za _ hcnt
   have hmul2:l.length*(n+1)=l.length*n+l.length:=Nat.mul_succ _ _
   obtain ⟨w2,H4,a1,a2,a3⟩:=g1.snoc (YJ hb g6.len) (plK (Bl n) (n+1) x y l 4 out).2 (by omega)
   obtain ⟨tk4,rfl⟩:=a2.sl
   have hf:¬(((4:Nat):Int)<4):=by decide
   refine ⟨H4,_,?_,a2,g6.trans a3⟩
   rw [hloop]
   unfold Sh.f5d
   simp only [GMb,GMc,Ai,hf,HK g5,Kk,a1,Aw,Y2,List.length_singleton]
  ·obtain ⟨w',rfl,g1,g2,g3,g4,g5,g6⟩:=hI
   obtain ⟨w2,Hd,q1,q2,q3,q4,q5,q6,q7⟩:=place_turn hself hn H Hc out w' x y l tk H.length H1.length H2.length H3.length k hk hb (by omega) hok cnx cny hl hlen g1 g2 g3 g4 g5 g6 (by omega) (by omega) (by omega)
   exact ⟨_,_,⟨w2,rfl,q2,q3,q4,q5,q6,q7⟩,q1⟩
theorem X2 (b:Nat):∀n d,n+1≤1329→n+1≤d→PlOk b (n+1) (Sh.fs d)
 | 0,d,h1,h2=>by
  obtain ⟨d,rfl⟩:∃e,d=e+1:=⟨d-1,by omega⟩
  exact Vl (.inl rfl) h1
 | n+1,d,h1,h2=>by
  obtain ⟨d,rfl⟩:∃e,d=e+1:=⟨d-1,by omega⟩
  exact Vl (.inr (X2 b n d (by omega) (by omega))) h1
structure RC where
 n1:Bool
 l1:List Nat
 n2:Bool
 l2:List Nat
 s:UInt8
def cRC (r:RC):List Ab:=[.bool r.n1,.sl (enL cU r.l1) .no,.bool r.n2,.sl (enL cU r.l2) .no,.int .u8 (r.s.toNat:Int)]
instance:Sz cRC 5:=⟨fun _=>rfl⟩
def RC.fits (r:RC):Prop:=Lim r.l1∧Lim r.l2∧r.l1.length≤549755813888∧r.l2.length≤549755813888
def RC.right (r:RC):Bool:=Hv r.n1 r.l1&&Hv r.n2 r.l2
def RC.cl (r:RC):Cl:=⟨HS r.n1 r.l1,HS r.n2 r.l2,r.s⟩
theorem cRC_cl {r:RC} (h:r.right=true) (hf:r.fits):cRC r=cCl r.cl:=by
 simp only [RC.right,Y7]at h
 have e1:=bigC_ok h.1 hf.1
 have e2:=bigC_ok h.2 hf.2.1
 show [Ab.bool r.n1,.sl (enL cU r.l1) .no]++([Ab.bool r.n2,.sl (enL cU r.l2) .no]++[.int .u8 (r.s.toNat:Int)])=_
 rw [e1,e2];rfl
theorem enL_RC {l:List RC} (h:∀r∈l,r.right=true) (hf:∀r∈l,r.fits):enL cRC l=enL cCl (l.map RC.cl):=by
 unfold enL
 rw [List.map_map]
 exact Qbc fun r hr=>cRC_cl (h r hr) (hf r hr)
def IX:Nat→Nat→Cl→Nat
 | 0,v,_=>v
 | f+1,v,c=>if EH v c then v else IX f (v+1) c
def Bh (l:List Cl):Nat:=l.foldl (fun v c=>IX (1330-v) v c) 1
theorem lvUp_ge:∀f v c,v≤IX f v c∧IX f v c≤v+f
 | 0,v,c=>⟨Yz _,Yz _⟩
 | f+1,v,c=>by
  unfold IX
  split
  ·omega
  ·have:=lvUp_ge f (v+1) c;omega
theorem XJ (l:List Cl):∀v,1≤v→v≤1330→v≤l.foldl (fun v c=>IX (1330-v) v c) v∧l.foldl (fun v c=>IX (1330-v) v c) v≤1330:=by
 induction l with
 | nil=>intro v h1 h2;simp;omega
 | cons c l ih=>
  intro v h1 h2
  have h:=lvUp_ge (1330-v) v c
  have:=ih (IX (1330-v) v c) (by omega) (by omega)
  simp only [List.foldl_cons]
  omega
theorem VH (l:List Cl):1≤Bh l∧Bh l≤1330:=XJ l 1 (by omega) (by omega)
def HV (l:List Cl):List Nd×Int:=
 if Bh (CV l)>1329 then ([],4)
 else if ofOk (Bl (Bh (CV l)) [] (-(2^(Bh (CV l)-1))) (-(2^(Bh (CV l)-1))) (CV l)).1 ((Bl (Bh (CV l)) [] (-(2^(Bh (CV l)-1))) (-(2^(Bh (CV l)-1))) (CV l)).2:Int)
 then (SR (Bl (Bh (CV l)) [] (-(2^(Bh (CV l)-1))) (-(2^(Bh (CV l)-1))) (CV l)).1 (Bl (Bh (CV l)) [] (-(2^(Bh (CV l)-1))) (-(2^(Bh (CV l)-1))) (CV l)).2,0)
 else ([],1)
theorem XL {l:List Cl} {c:Cl} (h:c∈CV l):c∈l:=by
 have h1:=(ZN.1 h).1
 have:=(Gt (l:=l) l.length (Yz _)).2
 rw [Y6 (Yz _)]at this
 exact this c h1
theorem XM (l:List Cl):(CV l).length≤l.length:=by
 have h1:(CV l).length≤(Dl l).length:=Z2 _ _
 have:=(Gt (l:=l) l.length (Yz _)).1
 rw [Y6 (Yz _)]at this
 omega
theorem cn_corner {v:Nat} (h1:1≤v) (h:v≤1329):Cn v (-(2^(v-1))):=by
 unfold Cn
 rw [Qba,Ko]
 have e:(2:Nat)^(v+1)=2^v*2:=Nat.pow_succ _ _
 have e1:(2:Nat)^(v-1)≤2^v:=YT (by omega) (by omega)
 have:=top_ge (v:=v+1) (by omega)
 omega
theorem Iw {H Hq:Aa} {tk:Tok} {Q:List Nd} {e:Int} (hc:Hq[H.length]? = some (.cel 0 [.sl [] .tight])) (hold:∀i,i<H.length→Hq[i]? = H[i]?) :
  (bP H (A3 (Af 1 (.ptr H.length 0 0) (.agg [.sl (enL cNd Q) tk]) Hq)) fun _ H37=>(CU [Ac true 1 (.ptr H.length 0 0) H37,some (.int .i64 e)]).bind fun x38=>rPN H x38 H37)=some (.ret (.tup [El Q,.int .i64 e]),H):=by
 have hcl:=(Yw.1 hc).1
 have hst:Af 1 (.ptr H.length 0 0) (.agg [.sl (enL cNd Q) tk]) Hq=some (Hq.set H.length (.cel 0 [.sl (enL cNd Q) tk])):=by
  simp only [Af,AE hc,Option.bind_some,Ch hc];rfl
 have hld:Ac true 1 (.ptr H.length 0 0) (Hq.set H.length (.cel 0 [.sl (enL cNd Q) tk]))=some (.agg [.sl (enL cNd Q) tk]):=by
  have:(Hq.set H.length (.cel 0 [.sl (enL cNd Q) tk]))[H.length]? = some (.cel 0 [.sl (enL cNd Q) tk]):=by rw [Y9 hcl]
  simp only [Ac,AE this,Option.bind_some];rfl
 have htake:(Hq.set H.length (.cel 0 [.sl (enL cNd Q) tk])).take H.length=H:=Cv fun i hi=>by
  rw [Yv (by omega),hold i hi]
 simp only [GMb,GMc,hst,hld,OO,Iu,JB,Option.map_some,Gc htake,Dz,Cp,C9,Iz,Gv,Hl,JS,Fs]
 rfl
theorem loop_all2 {G:LK→LK} (N:Nat) (p:Nat→Bool) (st:Nat→List Ab) (H:Aa) (yes no:Out) (hN:N<1152921504606846976)
  (turn:∀(rec:LK) (i:Nat),i<N→G rec (st i) H=if p i then rec (st (i+1)) H else no) (last:(List.range N).all p=true→∀rec:LK,G rec (st N) H=yes):Ao G AK (st 0) H=if (List.range N).all p then yes else no:=by
 refine Bk (σ:=Nat) (fun i=>i≤N∧∀j,j<i→p j=true) st (fun _=>H) (fun i=>N-i) (fun _=>if (List.range N).all p then yes else no) (fun i rec hi hrec=>?_) 0 ⟨YL _,fun j hj=>by omega⟩ (by omega)
 by_cases h:i<N
 ·rw [turn rec i h]
  cases hp:p i with
  | true=>exact hrec (i+1) ⟨h,fun j hj=>by
    by_cases e:j=i
    ·rw [e];exact hp
    ·exact hi.2 j (by omega)⟩ (by omega)
  | false=>
   have:(List.range N).all p=false:=by rw [Qae];exact ⟨i,by simpa using h,by simp [hp]⟩
   simp [this]
 ·have e:i=N:=by omega
  subst e
  have:(List.range i).all p=true:=by rw [YH];intro j hj;exact hi.2 j (by simpa using hj)
  rw [last this,this];rfl
def V3 (S:List Cl):List Nd×Int:=
 if Bh S>1329 then ([],4)
 else if ofOk (Bl (Bh S) [] (-(2^(Bh S-1))) (-(2^(Bh S-1))) S).1 ((Bl (Bh S) [] (-(2^(Bh S-1))) (-(2^(Bh S-1))) S).2:Int)
 then (SR (Bl (Bh S) [] (-(2^(Bh S-1))) (-(2^(Bh S-1))) S).1 (Bl (Bh S) [] (-(2^(Bh S-1))) (-(2^(Bh S-1))) S).2,0)
 else ([],1)
theorem of07_eq (l:List Cl):HV l=V3 (CV l):=rfl
theorem level_run (H B:Aa) (rec2:LK) (p:Ab) (l:List Cl) (tk:Tok) (i:Nat) (hi:i<l.length) (hll:l.length<2147483648) (hc:l[i].ok):∀(f v n:Nat),f+v=1330→1≤v→f<n →
  Ao (fun rec3 vs H1=>Sh.f6t H rec2 rec3 (ag vs 0) (ag vs 1) (ag vs 2) (ag vs 3) H1) n [p,.sl (enL cCl l) tk,.int .i64 (v:Int),.int .i64 (i:Int)] B=rec2 [p,.sl (enL cCl l) tk,.int .i64 (IX f v l[i]:Int),.int .i64 ((i+1:Nat):Int)] B:=by
 intro f
 induction f with
 | zero=>
  intro v n h1 h2 h3
  obtain ⟨n,rfl⟩:∃m,n=m+1:=⟨n-1,by omega⟩
  have hv:¬(v:Int)≤1329:=by omega
  have hws:=Av (show i<9223372036854775807 by omega)
  rw [Cw]
  unfold Sh.f6t
  simp only [GMb,GMc,Ai,hv,hws]
  rfl
 | succ f ih=>
  intro v n h1 h2 h3
  obtain ⟨n,rfl⟩:∃m,n=m+1:=⟨n-1,by omega⟩
  have hv:(v:Int)≤1329:=by omega
  have hws:=Av (show i<9223372036854775807 by omega)
  have hwv:=Av (show v<9223372036854775807 by omega)
  have hw:=fun H=>q07_within l[i] v H hc h2 (by omega)
  rw [Cw]
  unfold Sh.f6t IX
  simp only [GMb,GMc,Ai,hv,Ay hi,Rj,hw]
  cases EH v l[i]with
  | true=>simp only [GMb,GMc,hws]
  | false=>
   simp only [GMb,GMc,hwv]
   exact ih (v+1) n (by omega) (by omega) (by omega)
theorem QT {H:Aa} {e:Int}:((A2 (some [(.sl [] .tight)]) []).bind fun x57=>bP H (A3 (Af 1 (.ptr H.length 0 0) x57 (H++[.cel 0 [.sl [] .tight]]))) fun _ H59=>(CU [Ac true 1 (.ptr H.length 0 0) H59,some (.int .i64 e)]).bind fun x60=>rPN H x60 H59)=some (.ret (.tup [El [],.int .i64 e]),H):=by
 rw [show A2 (some [(.sl [] .tight)]) []=some (.agg [.sl (enL cNd []) .tight]) from rfl]
 rw [BD]
 exact Iw (by simp) fun i hi=>by rw [Yx hi]
theorem q07_of (l:List RC) (tk:Tok) (H:Aa) (hl:l.length<2147483648) (hf:∀r∈l,r.fits) (hs:∀r∈l,r.right=true→r.cl.ok) :
  Sh.f2j (.sl (enL cRC l) tk) H=some (.ret (if l.all RC.right then .tup [El (HV (l.map RC.cl)).1,.int .i64 (HV (l.map RC.cl)).2]else .tup [El [],.int .i64 1]),H):=by
 unfold Sh.f2j
 rw [alloc_eq (cs:=[.sl [] .tight]) rfl]
 simp only [GMb,GMc]
 have hall:l.all RC.right=(List.range l.length).all fun i=>match l[i]? with | some r=>r.right | none=>true:=by
  rw [YD,YH,YH]
  constructor
  ·intro h i hi
   have hi':i<l.length:=by simpa using hi
   rw [Yu hi'];exact h _ (Y8 hi')
  ·intro h r hr
   obtain ⟨i,hi,rfl⟩:=YX hr
   have:=h i (by simpa using hi)
   rwa [Yu hi]at this
 have key:=loop_all2 (G:=fun rec1 vs H1=>Sh.f6v H rec1 (ag vs 0) (ag vs 1) (ag vs 2) H1) l.length (fun i=>match l[i]? with | some r=>r.right | none=>true) (fun i=>[.sl (enL cRC l) tk,.ptr H.length 0 0,.int .i64 (i:Int)]) (H++[.cel 0 [.sl [] .tight]])
  (some (.ret (.tup [El (HV (l.map RC.cl)).1,.int .i64 (HV (l.map RC.cl)).2]),H)) (some (.ret (.tup [El [],.int .i64 1]),H)) (by omega) (fun rec i hi=>?_) (fun hr rec=>?_)
 ·refine key.trans ?_
  rw [hall]
  cases (List.range l.length).all fun i=>match l[i]? with | some r=>r.right | none=>true <;> rfl
 ·have hi':(i:Int)<(l.length:Int):=by omega
  have hws:=Av (show i<9223372036854775807 by omega)
  have hfi:=hf _ (Y8 hi)
  have g1:∀H,Ac true 2 (.cptr (cRC l[i]) 0) H=some (.agg [.bool l[i].n1,.sl (enL cU l[i].l1) .no]):=fun H=>rfl
  have g2:∀H,Ac true 2 (.cptr (cRC l[i]) 2) H=some (.agg [.bool l[i].n2,.sl (enL cU l[i].l2) .no]):=fun H=>rfl
  have r1:=fun H=>X6 l[i].n1 l[i].l1 .no H hfi.2.2.1
  have r2:=fun H=>X6 l[i].n2 l[i].l2 .no H hfi.2.2.2
  unfold Sh.f6v
  simp only [GMb,GMc,Aw,hi',Ay hi,An,Yy,g1,r1,Yu hi,RC.right]
  cases Hv l[i].n1 l[i].l1 with
  | false=>simp only [GMb,GMc,QT]
  | true=>
   simp only [GMb,GMc,Ay hi,An,Yy,g2,r2]
   cases Hv l[i].n2 l[i].l2 with
   | false=>simp only [GMb,GMc,QT]
   | true=>simp only [GMb,GMc,hws]
 ·rw [←hall]at hr
  have hrr:∀r∈l,r.right=true:=YH.1 hr
  have hcl:∀c∈l.map RC.cl,c.ok:=fun c hc=>by
   obtain ⟨r,h1,rfl⟩:=ZQ.1 hc
   exact hs r h1 (hrr r h1)
  unfold Sh.f6v
  simp only [GMb,GMc,Aw,Zl]
  rw [enL_RC hrr hf]
  generalize hL:l.map RC.cl=L at hcl
  have hLl:L.length<2147483648:=by rw [←hL];simpa using hl
  simp only [GMb,GMc,q07_last L tk _ (by omega) hcl,of07_eq]
  have hsm:∀c∈CV L,c.ok:=fun c hc=>hcl c (XL hc)
  have hsl:=XM L
  generalize CV L=S at hsm hsl
  refine Ca (G:=fun rec2 vs H1=>Sh.f6u H rec2 (ag vs 0) (ag vs 1) (ag vs 2) (ag vs 3) H1) S.length (fun i=>[.ptr H.length 0 0,.sl (enL cCl S) .no,.int .i64 (Bh (S.take i):Int),.int .i64 (i:Int)]) (fun _=>H++[.cel 0 [.sl [] .tight]])
   (some (.ret (.tup [El (V3 S).1,.int .i64 (V3 S).2]),H)) (by omega) (fun rec2 i hi=>?_) (fun rec2=>?_)
  ·have hi':(i:Int)<(S.length:Int):=by omega
   obtain ⟨v1,v2⟩:=VH (S.take i)
   have hrun:=level_run H (H++[.cel 0 [.sl [] .tight]]) rec2 (.ptr H.length 0 0) S .no i hi (by omega) (hsm _ (Y8 hi)) (1330-Bh (S.take i)) (Bh (S.take i)) AK (by omega) v1 (by rw [Dg];omega)
   have hlv:Bh (S.take (i+1))=IX (1330-Bh (S.take i)) (Bh (S.take i)) S[i]:=by
    unfold Bh
    rw [Y5 hi,Qad];rfl
   unfold Sh.f6u
   simp only [GMb,GMc,Ai,Aw,hi']
   rw [hlv]
   exact hrun
  ·obtain ⟨v1,v2⟩:=VH S
   unfold Sh.f6u V3
   rw [Y6 (Yz _)]
   generalize Bh S=v at v1 v2
   simp only [GMb,GMc,Ai,Aw,Zl]
   by_cases hv:v>1329
   ·have hv':(v:Int)>1329:=by omega
    simp only [GMb,GMc,hv',if_pos hv,QT]
   ·have hv':¬(v:Int)>1329:=by omega
    obtain ⟨n,rfl⟩:∃n,v=n+1:=⟨v-1,by omega⟩
    have hwn:IntKind.i64.wrap (((n+1:Nat):Int)-1)=(n:Int):=by rw [Am] <;> omega
    have hp:SB 44 (2^n):=Hz (by omega)
    have hpow:=fun H=>Jc n H (by omega)
    have hmin:=fun H=>I7 (2^n) H (hp.lb (by decide))
    have hcorn:=cn_corner (v:=n+1) (by omega) (by omega)
    rw [YM]at hcorn
    rw [if_neg hv]
    have s1:∀B:Aa,Af 2 (.ptr B.length 0 0) (big (-(2^n))) (B++[.cel 0 [.bool false,.sl [] .tight]])=some (B++[.cel 0 (A6 (-(2^n)))]):=fun B=>by rw [Cu (Ap (B:=B)) rfl,Bd]
    have hmul:S.length*(n+1)≤2147483648*1329:=Qa8 (by omega) (by omega)
    have hlen:([]:List Nd).length+S.length*(n+1)<3518437208883:=by
     simp only [List.length_nil];omega
    obtain ⟨Hq,w',p1,p2,p3⟩:=X2 (H++[Blk.cel 0 [.sl [] .tight]]).length n AK (by omega) (by rw [Dg];omega) [] (.sl [] .tight) (-(2^n)) (-(2^n)) S .no (H++[.cel 0 [.sl [] .tight]]++[.cel 0 (A6 (-(2^n)))]) (.inl ⟨rfl,rfl⟩) (by simp) hsm hcorn hcorn (by omega) hlen
    obtain ⟨tk2,rfl⟩:=p2.sl
    have hpl:=YJ (X9 (n+1) [] (-(2^n)) (-(2^n)) S) (Nat.add_le_add_left hmul _)
    simp only [List.length_nil]at hpl
    simp only [GMb,GMc,hv',hwn,hpow,hmin,Cd,s1,AW Ap,p1,B1,B8,YM]
    generalize Bl (n+1) [] (-(2^n)) (-(2^n)) S=P at p1 p2 hpl
    obtain ⟨Q,r⟩:=P
    dsimp only at p1 p2 hpl ⊢
    have hqo:=fun H=>q06_of Q tk2 (r:Int) H (by omega)
    have hc':Hq[H.length]? = some (.cel 0 [.sl [] .tight]):=p3.cel _ _ (by simp)
    have hold:∀i,i<H.length→Hq[i]? = H[i]? := fun i hi=>by
     rw [p3.old i (by simp;omega),Y1,Yx hi]
    simp only [GMb,GMc,hqo]
    cases ofOk Q (r:Int)with
    | false=>
     simp only [GMb,GMc,B1,B8,El,C6]
     exact Iw hc' hold
    | true=>
     simp only [GMb,GMc,B1,B8,El,C6,Int.toNat_natCast]
     exact Iw hc' hold
def PY (c:UInt8):Bool:=decide (33≤c.toNat∧c.toNat≤126)
theorem Vc (c:UInt8) (H:Aa):Sh.f1p (.int .u8 (c.toNat:Int)) H=some (.ret (.bool (PY c)),H):=by
 unfold Sh.f1p PY
 by_cases h:(33:Int)≤c.toNat
 ·have:33≤c.toNat:=by omega
  simp [h,this];omega
 ·have:¬33≤c.toNat:=by omega
  simp [h,this]
def N1 (s:List UInt8):Bool:=s.all PY&&decide (1≤s.length∧s.length≤40)
theorem q04_rule (s:List UInt8) (H:Aa) (hs:s.length<1152921504606846976):Sh.f3v (.str s) H=some (.ret (.bool (N1 s)),H):=by
 unfold Sh.f3v
 refine Bk (σ:=Nat) (fun i=>i≤s.length∧(s.take i).all PY=true) (fun i=>[.str s,.int .i64 (i:Int)]) (fun _=>H) (fun i=>s.length-i) (fun _=>some (.ret (.bool (N1 s)),H)) (fun i rec hi hrec=>?_) 0 ⟨by omega,by simp⟩ (by omega)
 obtain ⟨hi,hall⟩:=hi
 unfold Sh.f84
 by_cases h:i<s.length
 ·have hx:(i:Int)<(s.length:Int):=by omega
  simp only [Al,Bb,DH,Option.bind_some,Bj,hx,decide_true,AV,B9 h,Vc,Fe,Jq]
  cases hc:PY s[i]with
  | false=>
   have:N1 s=false:=by
    simp only [N1,ZL];left
    rw [Qae];exact ⟨s[i],Y8 h,by simp [hc]⟩
   simp [this]
  | true=>
   have:=hrec (i+1) ⟨h,by rw [Y5 h,QaV];simp [hall,hc]⟩ (by omega)
   simp (disch:=omega) [Am]
   simpa using this
 ·have hx:¬(i:Int)<(s.length:Int):=by omega
  have he:s.take i=s:=Y6 (by omega)
  rw [he]at hall
  by_cases h1:(1:Int)≤s.length
  ·simp [hx,h1,N1,hall]
   by_cases h2:s.length≤40
   ·have:(s.length:Int)≤40:=by omega
    simp [this,h2];omega
   ·have:¬(s.length:Int)≤40:=by omega
    simp [this,h2]
  ·have:s=[]:=YE (by omega)
   subst this
   have hz:i=0:=by simpa using hi
   subst hz;simp [N1]
def HJ (rule:List UInt8) (L:List Nd):List Ab:=[.str rule,.sl (enL cNd L) .no]
def pat (rule:List UInt8) (L:List Nd):Ab:=.agg (HJ rule L)
theorem boxPat (rule:List UInt8) (L:List Nd) (H:Aa):Bz true 2 (pat rule L) H=some (.ptr H.length 0 0,H++[.cel 0 (HJ rule L)]):=Ct rfl rfl
section
variable {H:Aa} {p:Nat} {rule:List UInt8} {L:List Nd}
theorem VB (hg:H[p]? = some (.cel 0 (HJ rule L))):Ac false 1 (.ptr p 0 0) H=some (.str rule):=by
 simp only [Ac,AE hg,Option.bind_some];rfl
theorem KV (hg:H[p]? = some (.cel 0 (HJ rule L))):Ac true 1 (.ptr p 0 1) H=some (El L):=by
 simp only [Ac,AE hg,Option.bind_some];rfl
theorem So (hg:H[p]? = some (.cel 0 (HJ rule L))):Ac true 2 (.ptr p 0 0) H=some (pat rule L):=by
 simp only [Ac,AE hg,Option.bind_some];rfl

end
theorem q11_right (rule:List UInt8) (L:List Nd) (H:Aa) (hr:rule.length<1152921504606846976) (hL:L.length<17592186044415):Sh.f3x (pat rule L) H=some (.ret (.bool (N1 rule&&HA L)),H):=by
 unfold Sh.f3x
 have e1:(H++[Blk.cel 0 (HJ rule L)])[H.length]? = some (.cel 0 (HJ rule L)):=Ap
 simp only [GMb,GMc,boxPat,Ah,Yy,Nat.add_zero,VB e1,q04_rule rule _ hr]
 cases N1 rule with
 | false=>simp only [GMb,GMc,FP]
 | true=>simp only [GMb,GMc,Ah,Yy,KV e1,El,C6,q05_right L .no _ hL,FP]
def JR (a b:Int):Bool:=decide (0≤a)&&decide (a≤1000)&&decide (0≤b)&&decide (b≤100000)
theorem q11_fine (a b:Int) (H:Aa):Sh.f13 (.agg [.int .i64 a,.int .i64 b]) H=some (.ret (.bool (JR a b)),H):=by
 unfold Sh.f13 JR
 have e1:(H++[Blk.cel 0 [.int .i64 a,.int .i64 b]])[H.length]? = some (.cel 0 [.int .i64 a,.int .i64 b]):=Ap
 have g1:Ac false 1 (.ptr H.length 0 0) (H++[Blk.cel 0 [.int .i64 a,.int .i64 b]])=some (.int .i64 a):=by simp only [Ac,AE e1,Option.bind_some];rfl
 have g2:Ac false 1 (.ptr H.length 0 1) (H++[Blk.cel 0 [.int .i64 a,.int .i64 b]])=some (.int .i64 b):=by simp only [Ac,AE e1,Option.bind_some];rfl
 simp only [GMb,GMc,Ct (sz:=2) (cs:=[Ab.int .i64 a,.int .i64 b]) rfl rfl,Ah,Yy,Nat.add_zero,g1,ge_iff_le]
 cases decide (0≤a)with
 | false=>simp only [GMb,GMc,FP]
 | true=>
  simp only [GMb,GMc,Ah,Yy,Nat.add_zero,g1]
  cases decide (a≤1000)with
  | false=>simp only [GMb,GMc,FP]
  | true=>
   simp only [GMb,GMc,Ah,Yy,g2,ge_iff_le]
   cases decide (0≤b)with
   | false=>simp only [GMb,GMc,FP]
   | true=>simp only [GMb,GMc,Ah,Yy,g2,FP]
theorem q11_format (n:Int) (H:Aa):Sh.f3u (.int .i64 n) H=some (.ret (.bool (decide (1≤n)&&decide (n≤5))),H):=by
 unfold Sh.f3u
 simp only [GMb,GMc,ge_iff_le]
 cases decide (1≤n) <;> simp only [GMb,GMc]
def St (a:Int):Prop:=0≤a∧a≤255
def Lv (L:List Nd) (v n:Nat):Prop:=n≤L.length∧(n=0∨(AS L n).lv.toNat=v)
theorem Lv.kid {L:List Nd} (hl:AU L=true) {v n k:Nat} (h0:0<n) (h:Lv L (v+1) n) (h1:1<(AS L n).lv) (hk:k<4):Lv L v ((AS L n).kid k).toNat∧((AS L n).kid k).toNat<n∧0≤(AS L n).kid k:=by
 obtain ⟨m,rfl⟩:∃m,n=m+1:=⟨n-1,by omega⟩
 have hm:m<L.length:=h.1
 obtain ⟨l1,l2,l3⟩:=AP hl hm
 have hx:AS L ((m+1:Nat):Int)=L[m]:=BA hm
 have hv:=h.2
 rw [hx]at h1 hv ⊢
 obtain ⟨q1,q2,q3⟩:=l3 k hk
 by_cases hc:0<L[m].kid k
 ·obtain ⟨r1,r2⟩:=q3 h1 hc
  obtain ⟨c,hcc⟩:∃c:Nat,L[m].kid k=((c+1:Nat):Int):=⟨(L[m].kid k-1).toNat,by omega⟩
  have hcl:c<L.length:=by omega
  have:=r2 L[c] (by rw [show (L[m].kid k-1).toNat=c from by omega];exact Yu hcl)
  rw [hcc,show (((c+1:Nat):Int)).toNat=c+1 from by omega]
  refine ⟨⟨by omega,.inr ?_⟩,by omega,by omega⟩
  rw [BA hcl];omega
 ·rw [show (L[m].kid k).toNat=0 from by omega]
  exact ⟨⟨YL _,.inl rfl⟩,by omega,q1⟩
theorem emp_iff {L:List Nd} (hl:AU L=true) {n:Nat} (h0:0<n) (hn:n≤L.length):(AC L).getD n true=(List.range 4).all fun k=>decide ((AS L n).kid k=0)||(decide (1<(AS L n).lv)&&(AC L).getD ((AS L n).kid k).toNat true):=by
 obtain ⟨m,rfl⟩:∃m,n=m+1:=⟨n-1,by omega⟩
 have hm:m<L.length:=hn
 have hpre:∀(r l:List Nd),∃s,AC (l++r)=AC l++s:=by
  intro r
  induction r with
  | nil=>intro l;exact ⟨[],by simp⟩
  | cons x r ih=>
   intro l
   obtain ⟨s,hs⟩:=ih (l++[x])
   exact ⟨[R0 (AC l) x]++s,by rw [show l++x::r=l++[x]++r from by simp,hs,Pf];simp⟩
 have hL:L=L.take m++[L[m]]++L.drop (m+1):=by
  rw [←Y5 hm,Zk]
 obtain ⟨s,hs⟩:=hpre (L.drop (m+1)) (L.take m++[L[m]])
 rw [←hL,Pf]at hs
 have hlen:(AC (L.take m)).length=m+1:=by rw [D0];simp;omega
 have hat:(AC L).getD (m+1) true=R0 (AC (L.take m)) L[m]:=by
  rw [hs,Y0,Yx (by simp [hlen]),YO (by omega),hlen];simp
 rw [hat,BA hm]
 obtain ⟨l1,l2,l3⟩:=AP hl hm
 unfold R0
 have hk:∀k,k<4→(decide (1<L[m].lv)&&(AC (L.take m)).getD (L[m].kid k).toNat true)=(decide (1<L[m].lv)&&(AC L).getD (L[m].kid k).toNat true):=by
  intro k hk
  obtain ⟨q1,q2,q3⟩:=l3 k hk
  by_cases h1:1<L[m].lv
  ·have hlt:(L[m].kid k).toNat<m+1:=by
    by_cases hc:0<L[m].kid k
    ·have:=(q3 h1 hc).1;omega
    ·omega
   congr 1
   rw [hs,Y1,Y0,Y0,Yx (by omega)]
  ·simp [h1]
 rw [Qs,Qs,hk 0 (by omega),hk 1 (by omega),hk 2 (by omega),hk 3 (by omega)]
section
variable {L:List Nd}
end
theorem Lv.num {L:List Nd} {v n:Nat} (h:Lv L v n) (h0:0<n) (hl:AU L=true):(AS L (n:Int)).lv=(v:Int)∧1≤v:=by
 have hv:(AS L (n:Int)).lv.toNat=v:=by rcases h.2 with h | h <;> omega
 obtain ⟨m,rfl⟩:∃m,n=m+1:=⟨n-1,by omega⟩
 rw [BA h.1]at hv ⊢
 have:=(AP hl h.1).1
 omega
def InSq (v:Nat) (x y:Int) (c:Cl):Prop:=x≤c.x∧c.x<x+2^v∧y≤c.y∧c.y<y+2^v
theorem inQ_sq {v:Nat} {a b:Int} {c:Cl}:inQ (v+1) a b c=true↔InSq v a b c:=by
 unfold inQ InSq
 simp only [Y7,decide_eq_true_eq,YM]
 constructor
 ·rintro ⟨⟨⟨h1,h2⟩,h3⟩,h4⟩;exact ⟨h1,h2,h3,h4⟩
 ·rintro ⟨h1,h2,h3,h4⟩;exact ⟨⟨⟨h1,h2⟩,h3⟩,h4⟩
theorem quart_in {v:Nat} {x y:Int} {k:Nat} {l:List Cl} {c:Cl} (h:c∈EC (v+1) x y k l):InSq v (qa (v+1) x k) (qb (v+1) y k) c:=inQ_sq.1 (ZN.1 h).2
theorem lvUp_in:∀f v c,IX f v c<v+f→EH (IX f v c) c=true
 | 0,v,c,h=>by simp [IX]at h
 | f+1,v,c,h=>by
  unfold IX at h ⊢
  split
  ·rename_i hw;exact hw
  ·rename_i hw
   rw [if_neg hw]at h
   exact lvUp_in f (v+1) c (by omega)
theorem pow_le2 {v w:Nat} (h:v≤w):(2:Int)^v≤2^w:=by
 have h1:(2:Nat)^v≤2^w:=YT (by omega) h
 have h2:((2^v:Nat):Int)≤((2^w:Nat):Int):=by omega
 simpa using h2
theorem within_mono {v w:Nat} {c:Cl} (h:EH v c=true) (hw:v≤w):EH w c=true:=by
 have h1:=pow_le2 (show v-1≤w-1 by omega)
 simp only [EH,inZ,Y7,decide_eq_true_eq]at h ⊢
 generalize (2:Int)^(v-1)=p at *
 generalize (2:Int)^(w-1)=q at *
 omega
theorem Rl:∀(l:List Cl) (v:Nat),1≤v→v≤1330→l.foldl (fun v c=>IX (1330-v) v c) v≤1329→∀c∈l,EH (l.foldl (fun v c=>IX (1330-v) v c) v) c=true
 | [],v,_,_,_,c,hc=>by cases hc
 | d::l,v,h1,h2,h3,c,hc=>by
  have hu:=lvUp_ge (1330-v) v d
  have hf:=XJ l (IX (1330-v) v d) (by omega) (by omega)
  simp only [List.foldl_cons]at h3 ⊢
  rcases Zc.1 hc with rfl | hc
  ·exact within_mono (lvUp_in (1330-v) v c (by omega)) hf.1
  ·exact Rl l _ (by omega) (by omega) h3 c hc
theorem level_in {S:List Cl} (h:Bh S≤1329):∀c∈S,EH (Bh S) c=true:=Rl S 1 (by omega) (by omega) h
theorem within_sq {v:Nat} {c:Cl} (h1:1≤v) (h:EH v c=true):InSq v (-(2^(v-1))) (-(2^(v-1))) c:=by
 obtain ⟨w,rfl⟩:∃w,v=w+1:=⟨v-1,by omega⟩
 have e:(2:Int)^(w+1)=2^w*2:=QaS _ _
 simp only [EH,inZ,Y7,decide_eq_true_eq,YM]at h
 unfold InSq
 rw [YM,e]
 generalize (2:Int)^w=p at *
 omega
def maxK (m:Int) (x:Nd):Nat→Int
 | 0=>m
 | k+1=>max (maxK m x k) (x.kid k)
def Qa (L:List Nd):Int:=L.foldl (fun m x=>if x.lv=1 then maxK m x 4 else m) 0
theorem quad_eq (L:List Nd):El L=.agg [.sl (enL cNd L) .no]:=rfl
theorem boxQ (L:List Nd) (H:Aa):Bz true 1 (El L) H=some (.ptr H.length 0 0,H++[.cel 0 (C6 L)]):=Ct rfl rfl
section
variable {H:Aa} {p:Nat} {L:List Nd}
theorem Dx (hg:H[p]? = some (.cel 0 (C6 L))):Ac false 1 (.ptr p 0 0) H=some (.sl (enL cNd L) .no):=by
 simp only [Ac,AE hg,Option.bind_some];rfl
theorem Ul (hg:H[p]? = some (.cel 0 (C6 L))):Ac true 1 (.ptr p 0 0) H=some (El L):=by
 simp only [Ac,AE hg,Option.bind_some];rfl

end
theorem q08_most (L:List Nd) (H:Aa) (hL:L.length<1152921504606846976):Sh.f2e (El L) H=some (.ret (.int .u8 (IntKind.u8.wrap (Qa L))),H):=by
 unfold Sh.f2e
 have e1:(H++[Blk.cel 0 (C6 L)])[H.length]? = some (.cel 0 (C6 L)):=Ap
 simp only [GMb,GMc,boxQ]
 refine Ca (G:=fun rec1 vs H1=>Sh.f6e H rec1 (ag vs 0) (ag vs 1) (ag vs 2) H1) L.length (fun i=>[.ptr H.length 0 0,.int .i64 (Qa (L.take i)),.int .i64 (i:Int)]) (fun _=>H++[.cel 0 (C6 L)]) _ hL (fun rec i hi=>?_) (fun rec=>?_)
 ·have hi':(i:Int)<(L.length:Int):=by omega
  have hws:=Av (show i<9223372036854775807 by omega)
  have hm:Qa (L.take (i+1))=if L[i].lv=1 then maxK (Qa (L.take i)) L[i] 4 else Qa (L.take i):=by
   unfold Qa
   rw [Y5 hi,Qad];rfl
  rw [hm]
  generalize Qa (L.take i)=m
  unfold Sh.f6e
  simp only [GMb,GMc,Ah,Yy,Dx e1,Aw,hi']
  by_cases hlv:L[i].lv=1
  ·rw [if_pos hlv]
   refine Ca (G:=fun rec2 vs H1=>Sh.f56 H rec rec2 (ag vs 0) (ag vs 1) (ag vs 2) (ag vs 3) H1) 4 (fun k=>[.ptr H.length 0 0,.int .i64 (maxK m L[i] k),.int .i64 (i:Int),.int .i64 (k:Int)]) (fun _=>H++[.cel 0 (C6 L)]) _ (by decide) (fun rec2 k hk=>?_) (fun rec2=>?_)
   ·have hk':(k:Int)<4:=by omega
    unfold Sh.f56
    simp only [GMb,GMc,An,Ah,A9,Yy,Nat.add_zero,YB,BY,hk',Dx e1,Ay hi,hlv,Dy hk,Dq hk,max_int,Av (show k<9223372036854775807 by omega),maxK]
   ·have hf:¬(((4:Nat):Int)<4):=by decide
    unfold Sh.f56
    simp only [GMb,GMc,hf,hws]
  ·rw [if_neg hlv,Dd DU]
   have hf:((0:Int)<4):=by decide
   unfold Sh.f56
   simp only [GMb,GMc,An,Ah,A9,Yy,Nat.add_zero,YB,BY,hf,Dx e1,Ay hi,hlv,hws]
 ·unfold Sh.f6e
  rw [Y6 (Yz _)]
  simp only [GMb,GMc,Ah,Yy,Dx e1,Aw,Zl,Bq,I6]
theorem maxK_st {m:Int} {x:Nd} (hm:St m) (hx:∀k,k<4→St (x.kid k)):∀k,k≤4→St (maxK m x k)
 | 0,_=>hm
 | k+1,h=>by
  have h1:=maxK_st hm hx k (by omega)
  have h2:=hx k (by omega)
  obtain ⟨a1,a2⟩:=h1
  obtain ⟨b1,b2⟩:=h2
  exact ⟨show (0:Int)≤max (maxK m x k) (x.kid k)by omega,show max (maxK m x k) (x.kid k)≤(255:Int)by omega⟩
theorem mostZ_st {L:List Nd} (hl:AU L=true):St (Qa L):=by
 have key:∀(l:List Nd) (m:Int),St m→(∀x∈l,x.lv=1→∀k,k<4→St (x.kid k))→St (l.foldl (fun m x=>if x.lv=1 then maxK m x 4 else m) m):=by
  intro l
  induction l with
  | nil=>intro m hm _;exact hm
  | cons a l ih=>
   intro m hm hx
   refine ih _ ?_ fun x h=>hx x (by simp [h])
   dsimp only
   split
   ·rename_i h;exact maxK_st hm (hx a (by simp) h) 4 (Yz _)
   ·exact hm
 refine key L 0 ⟨Qbb _,by decide⟩ fun x hx hlv k hk=>?_
 obtain ⟨i,hi,rfl⟩:=YX hx
 have:=(AP hl hi).2.2 k hk
 exact ⟨this.1,this.2.1 hlv⟩
theorem q08_mostZ {L:List Nd} (H:Aa) (hL:L.length<1152921504606846976) (hl:AU L=true):Sh.f2e (El L) H=some (.ret (.int .u8 (Qa L)),H):=by
 have:=mostZ_st hl
 rw [q08_most L H hL,QI this.1 (by have:=this.2;omega)]
def cBO:Option Int→List Ab
 | none=>[.bool false,.sl [] .tight]
 | some z=>A6 z
instance:Sz cBO 2:=⟨fun a=>by cases a <;> rfl⟩
instance:Pl cBO:=⟨fun a=>by cases a <;> rfl⟩
def bo (a:Option Int):Int:=a.getD 0
theorem acells_BO (z:Int):(big z).acells=some (cBO (some z)):=QE z
theorem addO (a b:Option Int) (H:Aa) (ha:LB (bo a)) (hb:LB (bo b)):Sh.f1 (.agg (cBO a)) (.agg (cBO b)) H=some (.ret (big (bo a+bo b)),H):=by
 have e:∀a:Option Int,LB (bo a)→∃n l tk,cBO a=[.bool n,.sl (enL cU l) tk]∧l.length≤549755813888∧Lim l∧HS n l=bo a:=by
  intro a h
  cases a with
  | none=>exact ⟨false,[],.tight,rfl,by simp,(fun x hx=>by simp at hx),rfl⟩
  | some z=>exact ⟨decide (z<0),A4 z.natAbs,.no,rfl,h,Bp _,LE z⟩
 obtain ⟨n1,l1,t1,e1,b1,x1,i1⟩:=e a ha
 obtain ⟨n2,l2,t2,e2,b2,x2,i2⟩:=e b hb
 rw [e1,e2,q02_add _ _ _ _ _ _ _ b1 b2 x1 x2,i1,i2]
def DW (nf:Nat→Nat) (E:List (Option Int)) (x:Nd) (j:Nat):Int:=
 (if 1<j then 2^(x.lv.toNat-1)else 0)+(if 1<x.lv then bo (E.getD (x.kid (nf j)).toNat none)else 0)
def D3 (nf:Nat→Nat) (E:List (Option Int)) (x:Nd) (j:Nat):Option Int:=
 if 1<x.lv then some (DW nf E x j)else if 1<j then some (2^(x.lv.toNat-1))else none
theorem Wi (nf:Nat→Nat) (E:List (Option Int)) (x:Nd) (j:Nat):bo (D3 nf E x j)=DW nf E x j:=by
 unfold D3
 split
 ·rfl
 ·rename_i h
  unfold DW
  rw [if_neg h]
  split <;> simp [bo]
def EX (nf:Nat→Nat) (E:List (Option Int)) (x:Nd):Nat→Bool×Option Int
 | 0=>(false,none)
 | j+1=>if x.kid (nf j)=0 then EX nf E x j
  else if (EX nf E x j).1=false∨DW nf E x j<bo (EX nf E x j).2 then (true,D3 nf E x j)else EX nf E x j
def CW (nf:Nat→Nat) (L:List Nd):List (Option Int):=L.foldl (fun E x=>E++[(EX nf E x 4).2]) [none]
theorem edgeL_snoc (nf:Nat→Nat) (L:List Nd) (x:Nd):CW nf (L++[x])=CW nf L++[(EX nf (CW nf L) x 4).2]:=by simp [CW]
theorem I0 (nf:Nat→Nat) (L:List Nd):(CW nf L).length=L.length+1:=by
 have key:∀(l:List Nd) (E:List (Option Int)),(l.foldl (fun E x=>E++[(EX nf E x 4).2]) E).length=l.length+E.length:=by
  intro l
  induction l with
  | nil=>intro E;simp
  | cons a l ih=>intro E;simp only [List.foldl_cons,ih];simp;omega
 unfold CW;rw [key];simp
theorem Wh (nf:Nat→Nat) (L:List Nd) {i:Nat} (hi:i<L.length):CW nf (L.take (i+1))=CW nf (L.take i)++[(EX nf (CW nf (L.take i)) L[i] 4).2]:=by
 rw [Y5 hi,edgeL_snoc]
def EB (L:List Nd) (E:List (Option Int)):Prop:=∀(m:Nat) (x:Nd) (o:Option Int),L[m]? = some x→E[m+1]? = some o→0≤bo o∧bo o<2^x.lv.toNat
theorem edgeJ_b {nf:Nat→Nat} {E:List (Option Int)} {x:Nd} {j:Nat} (hx:1≤x.lv) (hE:1<x.lv→0≤bo (E.getD (x.kid (nf j)).toNat none)∧bo (E.getD (x.kid (nf j)).toNat none)<2^(x.lv.toNat-1)):0≤DW nf E x j∧DW nf E x j<2^x.lv.toNat:=by
 unfold DW
 have e:(2:Int)^x.lv.toNat=2^(x.lv.toNat-1)*2:=by rw [←QaS];congr 1;omega
 have hp:(0:Int)<2^(x.lv.toNat-1):=QaK (by omega)
 rw [e]
 by_cases h1:1<x.lv
 ·obtain ⟨h2,h3⟩:=hE h1
  rw [if_pos h1]
  generalize (2:Int)^(x.lv.toNat-1)=p at *
  split <;> omega
 ·rw [if_neg h1]
  generalize (2:Int)^(x.lv.toNat-1)=p at *
  split <;> omega
theorem Uw {nf:Nat→Nat} {E:List (Option Int)} {x:Nd} (hb:∀j,j<4→0≤DW nf E x j∧DW nf E x j<2^x.lv.toNat):∀j,j≤4→0≤bo (EX nf E x j).2∧bo (EX nf E x j).2<2^x.lv.toNat
 | 0,_=>⟨Qbb _,QaK (by omega)⟩
 | j+1,hj=>by
  unfold EX
  split
  ·exact Uw hb j (by omega)
  ·split
   ·rw [Wi];exact hb j (by omega)
   ·exact Uw hb j (by omega)
theorem Wg {nf:Nat→Nat} (hnf:∀j,nf j<4) {L:List Nd} (hl:AU L=true) {i:Nat} (hi:i<L.length) (hE:EB (L.take i) (CW nf (L.take i))) (j:Nat) (h1:1<L[i].lv):0≤bo ((CW nf (L.take i)).getD (L[i].kid (nf j)).toNat none)∧bo ((CW nf (L.take i)).getD (L[i].kid (nf j)).toNat none)<2^(L[i].lv.toNat-1):=by
 obtain ⟨l1,l2,l3⟩:=AP hl hi
 obtain ⟨q1,q2,q3⟩:=l3 (nf j) (hnf j)
 have hp:(0:Int)<2^(L[i].lv.toNat-1):=QaK (by omega)
 by_cases hc:0<L[i].kid (nf j)
 ·obtain ⟨r1,r2⟩:=q3 h1 hc
  obtain ⟨m,hm⟩:∃m:Nat,(L[i].kid (nf j)).toNat=m+1:=⟨(L[i].kid (nf j)).toNat-1,by omega⟩
  have hmi:m<i:=by omega
  have hml:m<L.length:=by omega
  have hlen:=I0 nf (L.take i)
  rw [YC,Zr (by omega)]at hlen
  have hlt:m+1<(CW nf (L.take i)).length:=by omega
  have:=hE m L[m] _ (by rw [Zo hmi,Yu hml]) (Yu hlt)
  have hlv:=r2 L[m] (by rw [show (L[i].kid (nf j)-1).toNat=m from by omega];exact Yu hml)
  rw [hm,Y0,Yu hlt,show L[i].lv.toNat-1=L[m].lv.toNat from by omega]
  exact this
 ·rw [show (L[i].kid (nf j)).toNat=0 from by omega]
  have h0:(CW nf (L.take i)).getD 0 none=none:=by
   have key:∀(l:List Nd) (E:List (Option Int)),E[0]? = some none→(l.foldl (fun E x=>E++[(EX nf E x 4).2]) E)[0]? = some none:=by
    intro l
    induction l with
    | nil=>intro E h;exact h
    | cons a l ih=>intro E h;exact ih _ (by rw [Yx (Yw.1 h).1];exact h)
   rw [Y0,show (CW nf (L.take i))[0]? = some none from key _ [none] rfl];rfl
  rw [h0];exact ⟨Qbb _,hp⟩
theorem edgeL_b {nf:Nat→Nat} (hnf:∀j,nf j<4) {L:List Nd} (hl:AU L=true):∀i,i≤L.length→EB (L.take i) (CW nf (L.take i))
 | 0,_=>by intro m x o h;simp at h
 | i+1,h=>by
  have ih:=edgeL_b hnf hl i (by omega)
  rw [Wh nf L h]
  intro m x o hx hz
  have hlen:=I0 nf (L.take i)
  rw [YC,Zr (by omega)]at hlen
  by_cases hn:m<i
  ·rw [Yx (by omega)]at hz
   rw [Zo (by omega)]at hx
   exact ih m x o (by rw [Zo hn];exact hx) hz
  ·rw [YO (by omega),hlen]at hz
   have hmi:m=i:=by
    have:=(Yw.1 hz).1
    simp at this;omega
   subst hmi
   simp only [YV,List.getElem?_cons_zero,Y3]at hz
   rw [Zo (by omega),Yu h]at hx
   injection hx with hx
   rw [←hx,←hz]
   exact Uw (fun j _=>edgeJ_b (AP hl h).1 (Wg hnf hl h ih j)) 4 (Yz _)
section
variable {len sz id g o m p:Nat} {K:IntKind} {Hc:Aa} {nf:Nat→Nat}
theorem idx_arr (h:m<len):BQ len sz (.ptr id g o) (.int K (m:Int))=some (.ptr id g (o+m*sz)):=by
 unfold BQ
 simp only []
 rw [if_pos ⟨by omega,by omega⟩];simp
def FV (a b:Nat):List Ab:=[.int .i64 (a:Int),.int .i64 (b:Int)]
theorem load_two {a b:Nat} (hg:Hc[p]? = some (.cel 0 (FV a b))) (h:m<2):Ac false 1 (.ptr p 0 m) Hc=some (.int .i64 ((if m=0 then a else b:Nat):Int)):=by
 simp only [Ac,AE hg,Option.bind_some,Y4,if_false]
 match m,h with
 | 0,_=>rfl
 | 1,_=>rfl
theorem FE {a:Option Int} (hg:Hc[p]? = some (.cel 0 (cBO a))):Ac true 2 (.ptr p 0 0) Hc=some (.agg (cBO a)):=by
 simp only [Ac,AE hg,Option.bind_some,if_true]
 cases a <;> rfl
theorem W6 (a:Option Int):(Ab.agg (cBO a)).acells=some (cBO a):=by cases a <;> rfl
theorem OL {a:Option Int} {cs:List Ab} (hg:Hc[p]? = some (.cel 0 cs)) (hl:cs.length=2):Af 2 (.ptr p 0 0) (.agg (cBO a)) Hc=some (Hc.set p (.cel 0 (cBO a))):=by
 simp only [Af,AE hg,Option.bind_some,W6,Ch hg,G8 hl]
 rw [if_pos ⟨by cases a <;> rfl,by omega⟩]

end
theorem big_BO (z:Int):big z=.agg (cBO (some z)):=rfl
def Rep (z:Int) (cs:List Ab):Prop:=∃n l tk,cs=[.bool n,.sl (enL cU l) tk]∧l.length≤549755813888∧Lim l∧HS n l=z
theorem Rep.big {z:Int} (h:LB z):Rep z (A6 z):=⟨decide (z<0),A4 z.natAbs,.no,rfl,h,Bp _,LE z⟩
theorem Rep.bo {a:Option Int} (h:LB (bo a)):Rep (Go.Gm.bo a) (cBO a):=by
 cases a with
 | none=>exact ⟨false,[],.tight,rfl,by simp,(fun x hx=>by simp at hx),rfl⟩
 | some z=>exact Rep.big h
theorem Rep.lb {z:Int} {cs:List Ab} (h:Rep z cs):LB z:=by
 obtain ⟨n,l,tk,_,h2,h3,rfl⟩:=h
 unfold LB
 rw [bigI_abs]
 exact YJ (ES (val_lt l h3)) h2
theorem addR {a b:Int} {cs ds:List Ab} (ha:Rep a cs) (hb:Rep b ds) (H:Aa):Sh.f1 (.agg cs) (.agg ds) H=some (.ret (Go.Gm.big (a+b)),H):=by
 obtain ⟨n1,l1,t1,rfl,b1,x1,rfl⟩:=ha
 obtain ⟨n2,l2,t2,rfl,b2,x2,rfl⟩:=hb
 exact q02_add _ _ _ _ _ _ _ b1 b2 x1 x2
theorem minusR {a:Int} {cs:List Ab} (ha:Rep a cs) (H:Aa):Sh.f6 (.agg cs) H=some (.ret (Go.Gm.big (-a)),H):=by
 obtain ⟨n1,l1,t1,rfl,b1,x1,rfl⟩:=ha
 exact Sd _ _ _ _ (by omega) x1
theorem boxR {a:Int} {cs:List Ab} (ha:Rep a cs) (H:Aa):Bz true 2 (.agg cs) H=some (.ptr H.length 0 0,H++[.cel 0 cs]):=by
 obtain ⟨n1,l1,t1,rfl,b1,x1,rfl⟩:=ha
 exact Ct rfl rfl
theorem loadR {a:Int} {cs:List Ab} {H:Aa} {p:Nat} (ha:Rep a cs) (hg:H[p]? = some (.cel 0 cs)):Ac true 2 (.ptr p 0 0) H=some (.agg cs):=by
 obtain ⟨n1,l1,t1,rfl,b1,x1,rfl⟩:=ha
 simp only [Ac,AE hg,Option.bind_some];rfl
theorem subR {a b:Int} {cs ds:List Ab} (ha:Rep a cs) (hb:Rep b ds) (H:Aa):Sh.fp (.agg cs) (.agg ds) H=some (.ret (Go.Gm.big (a-b)),H):=by
 unfold Sh.fp
 have e1:(H++[Blk.cel 0 cs]++[Blk.cel 0 ds]++[Blk.cel 0 [.bool false,.sl [] .tight]])[H.length]? = some (.cel 0 cs):=by simp
 have e2:(H++[Blk.cel 0 cs]++[Blk.cel 0 ds]++[Blk.cel 0 [.bool false,.sl [] .tight]])[(H++[Blk.cel 0 cs]).length]? = some (.cel 0 ds):=by simp
 have hz:=Rep.big hb.lb.neg
 simp only [GMb,GMc,boxR ha,boxR hb,Cd,loadR ha e1,loadR hb e2,minusR hb,and_true,eq_self]
 rw [←W5 (-b)]
 simp only [GMb,GMc,addR ha hz,Cu (Ap (B:=H++[Blk.cel 0 cs]++[Blk.cel 0 ds]) (cs:=[.bool false,.sl [] .tight])) rfl,Bd,AW Ap]
 rw [show a + -b=a-b from rfl]
 simp only [Y1,Co,fall_big,Option.map_some]
theorem cmpR {a b:Int} {cs ds:List Ab} (ha:Rep a cs) (hb:Rep b ds) (H:Aa):Sh.f2 (.agg cs) (.agg ds) H=some (.ret (.int .i64 (EZ a b)),H):=by
 unfold Sh.f2
 have e1:(H++[Blk.cel 0 cs]++[Blk.cel 0 ds])[H.length]? = some (.cel 0 cs):=by simp
 have e2:(H++[Blk.cel 0 cs]++[Blk.cel 0 ds])[(H++[Blk.cel 0 cs]).length]? = some (.cel 0 ds):=Ap
 simp only [GMb,GMc,boxR ha,boxR hb,loadR ha e1,loadR hb e2,subR ha hb,Cd]
 generalize hB:H++[Blk.cel 0 cs]++[Blk.cel 0 ds]=B
 have g0:Ac false 1 (.ptr B.length 0 0) (B++[Blk.cel 0 (A6 (a-b))])=some (.bool (decide (a-b<0))):=by
  simp only [Ac,AE Ap,Option.bind_some];rfl
 have g1:Ac false 1 (.ptr B.length 0 1) (B++[Blk.cel 0 (A6 (a-b))])=some (.sl (enL cU (A4 (a-b).natAbs)) .no):=by
  simp only [Ac,AE Ap,Option.bind_some];rfl
 have fin:∀q:Int,rP H (.int .i64 q) (B++[Blk.cel 0 (A6 (a-b))])=some (.ret (.int .i64 q),H):=fun q=>by rw [←hB];simp only [Y1];exact I6
 simp only [Cu (Ap (B:=B) (cs:=[.bool false,.sl [] .tight])) rfl,Bd,GMb,GMc,Ah,Yy,Nat.add_zero,g0,g1,Aw]
 unfold EZ
 by_cases h0:a=b
 ·subst h0
  have:((A4 (a-a).natAbs).length:Int)=0:=by rw [Int.sub_self];simp [Du]
  simp only [this,GMb,GMc,fin,Zl]
 ·have hne:A4 (a-b).natAbs≠[]:=Rk (by omega)
  have hp:=YZ.2 hne
  have hz:¬((A4 (a-b).natAbs).length:Int)=0:=by omega
  by_cases hn:a<b
  ·have h1:a-b<0:=by omega
   simp only [hz,GMb,GMc,h1,hn,fin]
  ·have h1:¬a-b<0:=by omega
   simp only [hz,GMb,GMc,h1,hn,h0,fin]
def I9 (x:Nd) (j:Nat):Option Int:=if 1<j then some (2^(x.lv.toNat-1))else none
theorem boxTwo (a b:Nat) (H:Aa):Bz true 2 (.agg (FV a b)) H=some (.ptr H.length 0 0,H++[.cel 0 (FV a b)]):=Ct rfl rfl
theorem edge_turn {nf:Nat→Nat} (hnf:∀j,nf j<4) {L:List Nd} (tk:Tok) (H Hc:Aa) (E:List (Option Int)) (i j pN pF id ph:Nat) (hi:i<L.length) (hj:j<4) (hL:L.length<549755813888)
  (hE:E.length=L.length+1) (hlv:1≤L[i].lv∧L[i].lv≤1329) (hkid:0≤L[i].kid (nf j)) (hin:1<L[i].lv→(L[i].kid (nf j)).toNat<E.length∧(L[i].kid (nf j)).toNat≠i+1∧LB (bo (E.getD (L[i].kid (nf j)).toNat none)))
  (hJ:LB (DW nf E L[i] j)) (q:Bool×Option Int) (hq:LB (bo q.2)) (hbase:H.length≤pN∧H.length≤pF∧H.length≤id∧H.length≤ph) (dN:pN≠id) (dF:pF≠id) (dH:ph≠id)
  (fN:Hc[pN]? = some (.cel 0 (FV (nf 0) (nf 1)))) (fF:Hc[pF]? = some (.cel 0 (FV (nf 2) (nf 3)))) (fR:Hc[id]? = some (.cel 0 (flat cBO (E.set (i+1) q.2)))) (fH:Hc[ph]? = some (.cel 0 (A6 (2^(L[i].lv.toNat-1))))) (hold:∀k,k<H.length→Hc[k]? = H[k]?) (hlen:H.length≤Hc.length) :
  ∃Hd,(∀rec1 rec2:LK,Sh.f6c H rec1 rec2 (.sl (enL cNd L) tk) (.ptr pN 0 0) (.ptr pF 0 0) (.ms id 0 0 (L.length+1) (L.length+1) 2 true) (.int .i64 (i:Int)) (.ptr ph 0 0) (.bool q.1) (.int .i64 (j:Int)) Hc=rec2 [.sl (enL cNd L) tk,.ptr pN 0 0,.ptr pF 0 0,.ms id 0 0 (L.length+1) (L.length+1) 2 true,.int .i64 (i:Int),.ptr ph 0 0,.bool (if L[i].kid (nf j)=0 then q else if q.1=false∨DW nf E L[i] j<bo q.2 then (true,D3 nf E L[i] j)else q).1,.int .i64 ((j+1:Nat):Int)] Hd) ∧
   Hd[pN]? = some (.cel 0 (FV (nf 0) (nf 1)))∧Hd[pF]? = some (.cel 0 (FV (nf 2) (nf 3)))∧Hd[id]? = some (.cel 0 (flat cBO (E.set (i+1) (if L[i].kid (nf j)=0 then q else if q.1=false∨DW nf E L[i] j<bo q.2 then (true,D3 nf E L[i] j)else q).2)))∧Hd[ph]? = some (.cel 0 (A6 (2^(L[i].lv.toNat-1))))∧(∀k,k<H.length→Hd[k]? = H[k]?)∧H.length≤Hd.length:=by
 have hj':(j:Int)<4:=by omega
 have hws:=Av (show j<9223372036854775807 by omega)
 have hwi:=Av (show i<9223372036854775807 by omega)
 have hm2:j%2<2:=ZS _ (by omega)
 have hrem:(j:Int).tmod 2=((j%2:Nat):Int):=rfl
 have hgt:decide ((j:Int)>1)=decide (1<j):=by rw [YD];simp only [decide_eq_true_eq];omega
 have hnj:nf j=if 1<j then (if j%2=0 then nf 2 else nf 3)else (if j%2=0 then nf 0 else nf 1):=by
  match j,hj with
  | 0,_=>rfl
  | 1,_=>rfl
  | 2,_=>rfl
  | 3,_=>rfl
 have hz:A2 (some [(.bool false),(.sl [] .tight)]) []=some (.agg (cBO none)):=rfl
 generalize hB:Hc++[Blk.cel 0 (cBO (I9 L[i] j))]=B
 have bN:B[pN]? = some (.cel 0 (FV (nf 0) (nf 1))):=by rw [←hB];exact A1 fN
 have bF:B[pF]? = some (.cel 0 (FV (nf 2) (nf 3))):=by rw [←hB];exact A1 fF
 have bR:B[id]? = some (.cel 0 (flat cBO (E.set (i+1) q.2))):=by rw [←hB];exact A1 fR
 have bH:B[ph]? = some (.cel 0 (A6 (2^(L[i].lv.toNat-1)))):=by rw [←hB];exact A1 fH
 have bM:B[Hc.length]? = some (.cel 0 (cBO (I9 L[i] j))):=by rw [←hB];exact Ap
 have bold:∀k,k<H.length→B[k]? = H[k]? := fun k hk=>by rw [←hB,Yx (by omega)];exact hold k hk
 have bl:B.length=Hc.length+1:=by rw [←hB];simp
 suffices hs:∃Hd,(∀rec2:LK,Sh.f6b H (fun vs H1=>Sh.f2d H rec2 (ag vs 0) (ag vs 1) (ag vs 2) (ag vs 3) (ag vs 4) (ag vs 5) (ag vs 6) (ag vs 7) H1) (.sl (enL cNd L) tk) (.ptr pN 0 0) (.ptr pF 0 0) (.ms id 0 0 (L.length+1) (L.length+1) 2 true) (.int .i64 (i:Int)) (.ptr ph 0 0) (.bool q.1) (.int .i64 (j:Int)) (.int .i64 (nf j:Int)) (.ptr Hc.length 0 0) B=rec2 [.sl (enL cNd L) tk,.ptr pN 0 0,.ptr pF 0 0,.ms id 0 0 (L.length+1) (L.length+1) 2 true,.int .i64 (i:Int),.ptr ph 0 0,.bool (if L[i].kid (nf j)=0 then q else if q.1=false∨DW nf E L[i] j<bo q.2 then (true,D3 nf E L[i] j)else q).1,.int .i64 ((j+1:Nat):Int)] Hd) ∧
   Hd[pN]? = some (.cel 0 (FV (nf 0) (nf 1)))∧Hd[pF]? = some (.cel 0 (FV (nf 2) (nf 3)))∧Hd[id]? = some (.cel 0 (flat cBO (E.set (i+1) (if L[i].kid (nf j)=0 then q else if q.1=false∨DW nf E L[i] j<bo q.2 then (true,D3 nf E L[i] j)else q).2)))∧Hd[ph]? = some (.cel 0 (A6 (2^(L[i].lv.toNat-1))))∧(∀k,k<H.length→Hd[k]? = H[k]?)∧H.length≤Hd.length by
  obtain ⟨Hd,h1,h2⟩:=hs
  refine ⟨Hd,fun rec1 rec2=>?_,h2⟩
  have hst:∀a:Option Int,Af 2 (.ptr Hc.length 0 0) (.agg (cBO a)) (Hc++[Blk.cel 0 (cBO none)])=some (Hc++[Blk.cel 0 (cBO a)]):=fun a=>by rw [OL (Ap (B:=Hc)) rfl,Bd]
  have halloc:Ax (some [.bool false,.sl [] .tight]) Hc=some (.ptr Hc.length 0 0,Hc++[.cel 0 (cBO none)]):=Cd Hc
  unfold Sh.f6c
  simp only [GMb,GMc,hj',HD (show (2:Int)≠0 by decide),hrem,idx_arr hm2,Yy,YB,load_two fN hm2,hz,halloc,hst,Ai,hgt]
  by_cases h1j:1<j
  ·have hF:(Hc++[Blk.cel 0 (cBO none)])[pF]? = some (.cel 0 (FV (nf 2) (nf 3))):=A1 fF
   have hH:(Hc++[Blk.cel 0 (cBO none)])[ph]? = some (.cel 0 (A6 (2^(L[i].lv.toNat-1)))):=A1 fH
   rw [if_pos h1j]at hnj
   have hmo:I9 L[i] j=some (2^(L[i].lv.toNat-1)):=by unfold I9;rw [if_pos h1j]
   simp only [GMb,GMc,h1j,Ai,idx_arr hm2,Yy,YB,load_two hF hm2,AW hH]
   rw [big_BO]
   simp only [GMb,GMc,hst]
   rw [←hmo,hB,←hnj]
   exact h1 rec2
  ·rw [if_neg h1j]at hnj
   have hmo:I9 L[i] j=none:=by unfold I9;rw [if_neg h1j]
   simp only [GMb,GMc,h1j,Ai]
   rw [←hmo,hB,←hnj]
   exact h1 rec2
 have hnk:=hnf j
 have hEl:(E.set (i+1) q.2).length=L.length+1:=by simp [hE]
 by_cases hk0:L[i].kid (nf j)=0
 ·refine ⟨B,fun rec2=>?_,bN,bF,by rw [if_pos hk0];exact bR,bH,bold,by omega⟩
  unfold Sh.f6b
  simp only [GMb,GMc,An,Ah,A9,Yy,Nat.add_zero,YB,BY,Ay hi,Dy hnk,Dq hnk,hk0,Ai,Sh.f2d,hws]
 ·-- the distance
  obtain ⟨c,hc⟩:=Zj hkid
  have hct:(L[i].kid (nf j)).toNat=c:=by omega
  rw [hct]at hin
  generalize hD:B++[Blk.cel 0 (cBO (D3 nf E L[i] j))]=D
  have dn:D[pN]? = some (.cel 0 (FV (nf 0) (nf 1))):=by rw [←hD];exact A1 bN
  have df:D[pF]? = some (.cel 0 (FV (nf 2) (nf 3))):=by rw [←hD];exact A1 bF
  have dr:D[id]? = some (.cel 0 (flat cBO (E.set (i+1) q.2))):=by rw [←hD];exact A1 bR
  have dh:D[ph]? = some (.cel 0 (A6 (2^(L[i].lv.toNat-1)))):=by rw [←hD];exact A1 bH
  have dd:D[B.length]? = some (.cel 0 (cBO (D3 nf E L[i] j))):=by rw [←hD];exact Ap
  have dold:∀k,k<H.length→D[k]? = H[k]? := fun k hk=>by rw [←hD,Yx (by omega)];exact bold k hk
  have dl:D.length=B.length+1:=by rw [←hD];simp
  have hidl:=(Yw.1 dr).1
  have hrowI:=CJ (sz:=2) (id:=id) (n:=L.length+1) (K:=.i64) (g:=0) (off:=0) (cap:=L.length+1) (ex:=true) (i:=i+1) (by omega)
  rw [Yy]at hrowI
  have hldI:=Ri (f:=cBO) (sz:=2) (AE dr) (i:=i+1) (by omega)
  rw [QaW]at hldI
  have hstI:=DP (f:=cBO) (sz:=2) (l:=E.set (i+1) q.2) (i:=i+1) (a:=D3 nf E L[i] j) (v:=.agg (cBO (D3 nf E L[i] j))) (AE dr) (by omega) (W6 _)
  rw [Ch dr,List.set_set]at hstI
  have hJ':LB (bo (D3 nf E L[i] j)):=by rw [Wi];exact hJ
  have hcmp:=fun H=>cmpR (Rep.bo hJ') (Rep.bo hq) H
  simp only [Wi]at hcmp
  have h5:∃Hd,(∀rec2:LK,Sh.f55 H (fun vs H1=>Sh.f2d H rec2 (ag vs 0) (ag vs 1) (ag vs 2) (ag vs 3) (ag vs 4) (ag vs 5) (ag vs 6) (ag vs 7) H1) (.sl (enL cNd L) tk) (.ptr pN 0 0) (.ptr pF 0 0) (.ms id 0 0 (L.length+1) (L.length+1) 2 true) (.int .i64 (i:Int)) (.ptr ph 0 0) (.bool q.1) (.int .i64 (j:Int)) (.ptr B.length 0 0) D=rec2 [.sl (enL cNd L) tk,.ptr pN 0 0,.ptr pF 0 0,.ms id 0 0 (L.length+1) (L.length+1) 2 true,.int .i64 (i:Int),.ptr ph 0 0,.bool (if q.1=false∨DW nf E L[i] j<bo q.2 then (true,D3 nf E L[i] j)else q).1,.int .i64 ((j+1:Nat):Int)] Hd) ∧
    Hd[pN]? = some (.cel 0 (FV (nf 0) (nf 1)))∧Hd[pF]? = some (.cel 0 (FV (nf 2) (nf 3)))∧Hd[id]? = some (.cel 0 (flat cBO (E.set (i+1) (if q.1=false∨DW nf E L[i] j<bo q.2 then (true,D3 nf E L[i] j)else q).2)))∧Hd[ph]? = some (.cel 0 (A6 (2^(L[i].lv.toNat-1))))∧(∀k,k<H.length→Hd[k]? = H[k]?)∧H.length≤Hd.length:=by
   have put:(D.set id (.cel 0 (flat cBO (E.set (i+1) (D3 nf E L[i] j)))))[pN]? = some (.cel 0 (FV (nf 0) (nf 1)))∧(D.set id (.cel 0 (flat cBO (E.set (i+1) (D3 nf E L[i] j)))))[pF]? = some (.cel 0 (FV (nf 2) (nf 3)))∧(D.set id (.cel 0 (flat cBO (E.set (i+1) (D3 nf E L[i] j)))))[id]? = some (.cel 0 (flat cBO (E.set (i+1) (D3 nf E L[i] j))))∧(D.set id (.cel 0 (flat cBO (E.set (i+1) (D3 nf E L[i] j)))))[ph]? = some (.cel 0 (A6 (2^(L[i].lv.toNat-1))))∧(∀k,k<H.length→(D.set id (.cel 0 (flat cBO (E.set (i+1) (D3 nf E L[i] j)))))[k]? = H[k]?)∧H.length≤(D.set id (.cel 0 (flat cBO (E.set (i+1) (D3 nf E L[i] j))))).length:=
    ⟨by rw [Yv dN.symm];exact dn,by rw [Yv dF.symm];exact df,by rw [Y9 hidl],by rw [Yv dH.symm];exact dh,fun k hk=>by rw [Yv (by omega)];exact dold k hk,by simp;omega⟩
   cases hq1:q.1 with
   | false=>
    rw [if_pos (Or.inl rfl)]
    refine ⟨_,fun rec2=>?_,put⟩
    unfold Sh.f55
    simp only [GMb,GMc,FE dd,hwi,hrowI,hstI,Ai,Sh.f2d,hws]
   | true=>
    by_cases hlt:DW nf E L[i] j<bo q.2
    ·rw [if_pos (Or.inr hlt)]
     refine ⟨_,fun rec2=>?_,put⟩
     unfold Sh.f55
     simp only [GMb,GMc,FE dd,hwi,hrowI,hldI,hcmp,GG,hlt,hstI,Ai,Sh.f2d,hws]
    ·rw [if_neg (by intro h;rcases h with h | h;cases h;exact hlt h)]
     refine ⟨D,fun rec2=>?_,dn,df,dr,dh,dold,by omega⟩
     unfold Sh.f55
     simp only [GMb,GMc,FE dd,hwi,hrowI,hldI,hcmp,GG,hlt,Ai,Sh.f2d,hws,hq1]
  rw [if_neg hk0]
  obtain ⟨Hd,g1,g2⟩:=h5
  refine ⟨Hd,fun rec2=>?_,g2⟩
  have hk0':¬(c:Int)=0:=by rw [←hc];exact hk0
  have hst:∀a:Option Int,∀cs:Option Int,Af 2 (.ptr B.length 0 0) (.agg (cBO a)) (B++[Blk.cel 0 (cBO cs)])=some (B++[Blk.cel 0 (cBO a)]):=fun a cs=>by rw [OL (Ap (B:=B)) (by cases cs <;> rfl),Bd]
  have halloc:Ax (some [.bool false,.sl [] .tight]) B=some (.ptr B.length 0 0,B++[.cel 0 (cBO none)]):=Cd B
  unfold Sh.f6b
  simp only [GMb,GMc,An,Ah,A9,Yy,Nat.add_zero,YB,BY,Ay hi,Dy hnk,Dq hnk,hc,hk0',FE bM,halloc,hst,Ai]
  by_cases h1:1<L[i].lv
  ·have h1':L[i].lv>1:=h1
   obtain ⟨i1,i2,i3⟩:=hin h1
   have hB1M:(B++[Blk.cel 0 (cBO (I9 L[i] j))])[Hc.length]? = some (.cel 0 (cBO (I9 L[i] j))):=A1 bM
   have hB1R:(B++[Blk.cel 0 (cBO (I9 L[i] j))])[id]? = some (.cel 0 (flat cBO (E.set (i+1) q.2))):=A1 bR
   have hrowC:=CJ (sz:=2) (id:=id) (n:=L.length+1) (K:=.i64) (g:=0) (off:=0) (cap:=L.length+1) (ex:=true) (i:=c) (by omega)
   rw [Yy]at hrowC
   have hldC:=Ri (f:=cBO) (sz:=2) (AE hB1R) (i:=c) (by omega)
   rw [List.getElem_set_ne (by omega)]at hldC
   have hgd:E.getD c none=E[c]:=by rw [Y0,Yu i1];rfl
   rw [hgd]at i3
   have hmb:LB (bo (I9 L[i] j)):=by
    unfold I9
    split
    ·exact (Hz (by omega)).lb (by decide)
    ·exact LB_zero
   have hadd:=fun H=>addR (Rep.bo hmb) (Rep.bo i3) H
   have hsum:bo (I9 L[i] j)+bo E[c]=DW nf E L[i] j:=by
    unfold DW I9
    rw [if_pos h1,hct,hgd]
    split <;> rfl
   have hDd:D3 nf E L[i] j=some (DW nf E L[i] j):=by unfold D3;rw [if_pos h1]
   simp only [GMb,GMc,h1',FE hB1M,hrowC,hldC,hadd,hsum]
   rw [big_BO,←hDd]
   simp only [GMb,GMc,hst,hD,Ai]
   exact g1 rec2
  ·have h1':¬L[i].lv>1:=h1
   have hDd:D3 nf E L[i] j=I9 L[i] j:=by unfold D3 I9;rw [if_neg h1]
   simp only [GMb,GMc,h1',Ai]
   rw [←hDd,hD]
   exact g1 rec2
theorem Od {z:Int} {v:Nat} (h0:0≤z) (h:z<2^v) (hv:v≤1400):LB z:=by
 have h1:=Hz hv
 have h2:=Ko v
 unfold SB at h1
 refine LB.of (k:=44) (Zm ?_ h1) (by decide)
 generalize (2:Int)^v=p at *
 omega
theorem OP {nf:Nat→Nat} (hnf:∀j,nf j<4) (L:List Nd) (tk:Tok) (H:Aa) (hL:L.length<549755813888) (hl:AU L=true) :
  Sh.f15 (.sl (enL cNd L) tk) (.agg (FV (nf 0) (nf 1))) (.agg (FV (nf 2) (nf 3))) H=some (.ret (.sl (enL cBO (CW nf L)) .no),H):=by
 unfold Sh.f15
 have hmk:=Fo (f:=cBO) (a:=none) (n:=L.length+1) (bytes:=32) (H:=H++[Blk.cel 0 (FV (nf 0) (nf 1))]++[Blk.cel 0 (FV (nf 2) (nf 3))]) (by omega) (by omega)
 simp only [show cBO none=[Ab.bool false,.sl [] .tight] from rfl]at hmk
 simp only [GMb,GMc,boxTwo,Aw,Av (show L.length<9223372036854775807 by omega),hmk]
 have l1:(H++[Blk.cel 0 (FV (nf 0) (nf 1))]).length=H.length+1:=by simp
 have l2:(H++[Blk.cel 0 (FV (nf 0) (nf 1))]++[Blk.cel 0 (FV (nf 2) (nf 3))]).length=H.length+2:=by simp
 rw [l1,l2]
 have loop:=GB (G:=fun rec1 vs Hc=>Sh.f6d H rec1 (ag vs 0) (ag vs 1) (ag vs 2) (ag vs 3) (ag vs 4) Hc) L.length
  (fun i vs Hc=>vs=[.sl (enL cNd L) tk,.ptr H.length 0 0,.ptr (H.length+1) 0 0,.ms (H.length+2) 0 0 (L.length+1) (L.length+1) 2 true,.int .i64 (i:Int)]∧Hc[H.length]? = some (.cel 0 (FV (nf 0) (nf 1)))∧Hc[H.length+1]? = some (.cel 0 (FV (nf 2) (nf 3)))∧Hc[H.length+2]? = some (.cel 0 (flat cBO (CW nf (L.take i)++List.replicate (L.length-i) none)))∧(∀k,k<H.length→Hc[k]? = H[k]?)∧H.length+3≤Hc.length)
  (by omega) (fun i vs Hc hi hI=>?_) (vs:=[.sl (enL cNd L) tk,.ptr H.length 0 0,.ptr (H.length+1) 0 0,.ms (H.length+2) 0 0 (L.length+1) (L.length+1) 2 true,.int .i64 0])
  (H:=H++[Blk.cel 0 (FV (nf 0) (nf 1))]++[Blk.cel 0 (FV (nf 2) (nf 3))]++[Blk.cel 0 (flat cBO (List.replicate (L.length+1) none))])
  ⟨rfl,by simp,by simp,by simp [CW,List.replicate_succ],fun k hk=>by rw [Y1,Y1,Yx hk],by simp⟩
 ·obtain ⟨vs',Hc,⟨rfl,f1,f2,f3,f4,f5⟩,rec,hloop⟩:=loop
  rw [hloop]
  unfold Sh.f6d
  rw [Y6 (Yz _),YV,List.replicate_zero,YP]at f3
  have hfa:=Us (f:=cBO) (b:=H.length) (d:=5) (cap:=L.length+1) (ex:=true) (AE f3) (by omega)
  rw [I0]at hfa
  simp only [GMb,GMc,Ai,Aw,Zl,Gc (Cv f4),hfa,Option.map_some]
 ·obtain ⟨rfl,f1,f2,f3,f4,f5⟩:=hI
  have hi':(i:Int)<(L.length:Int):=by omega
  have hwi:=Av (show i<9223372036854775807 by omega)
  obtain ⟨v1,v2,v3⟩:=AP hl hi
  have hw:IntKind.i64.wrap (L[i].lv-1)=((L[i].lv.toNat-1:Nat):Int):=by rw [Am] <;> omega
  have hpow:=fun H=>Jc (L[i].lv.toNat-1) H (by omega)
  have hEB:=edgeL_b hnf hl i (by omega)
  have hlen:(CW nf (L.take i)).length=i+1:=by rw [I0];simp;omega
  have s1:Af 2 (.ptr Hc.length 0 0) (big (2^(L[i].lv.toNat-1))) (Hc++[.cel 0 [.bool false,.sl [] .tight]])=some (Hc++[.cel 0 (A6 (2^(L[i].lv.toNat-1)))]):=by rw [Cu (Ap (B:=Hc)) rfl,Bd]
  generalize hE:CW nf (L.take i)++List.replicate (L.length-i) none=E at f3
  have hEl:E.length=L.length+1:=by rw [←hE];simp [hlen];omega
  have hgetE:∀c,c≤i→E.getD c none=(CW nf (L.take i)).getD c none:=fun c hc=>by
   rw [←hE,Y0,Y0,Yx (by omega)]
  have hkidle:∀j,1<L[i].lv→(L[i].kid (nf j)).toNat≤i:=fun j h1=>by
   obtain ⟨q1,q2,q3⟩:=v3 (nf j) (hnf j)
   by_cases hc:0<L[i].kid (nf j)
   ·have:=(q3 h1 hc).1;omega
   ·omega
  have hJeq:∀j,DW nf E L[i] j=DW nf (CW nf (L.take i)) L[i] j:=fun j=>by
   unfold DW
   by_cases h1:1<L[i].lv
   ·rw [if_pos h1,if_pos h1,hgetE _ (hkidle j h1)]
   ·rw [if_neg h1,if_neg h1]
  have hDeq:∀j,D3 nf E L[i] j=D3 nf (CW nf (L.take i)) L[i] j:=fun j=>by unfold D3;rw [hJeq]
  have hKeq:∀j,EX nf E L[i] j=EX nf (CW nf (L.take i)) L[i] j:=fun j=>by
   induction j with
   | zero=>rfl
   | succ j ih=>unfold EX;rw [ih,hJeq,hDeq]
  have hJb:∀j,0≤DW nf E L[i] j∧DW nf E L[i] j<2^L[i].lv.toNat:=fun j=>by rw [hJeq];exact edgeJ_b v1 (Wg hnf hl hi hEB j)
  have hJl:∀j,LB (DW nf E L[i] j):=fun j=>Od (hJb j).1 (hJb j).2 (by omega)
  have hKl:∀j,j≤4→LB (bo (EX nf E L[i] j).2):=fun j hj=>by
   have:=Uw (fun j _=>hJb j) j hj
   exact Od this.1 this.2 (by omega)
  have hrep:List.replicate (L.length-i) (none:Option Int)=none::List.replicate (L.length-(i+1)) none:=by rw [show L.length-i=(L.length-(i+1))+1 from by omega,List.replicate_succ]
  have hset:∀o:Option Int,E.set (i+1) o=CW nf (L.take i)++o::List.replicate (L.length-(i+1)) none:=fun o=>by
   rw [←hE,hrep,YR _ _ (by omega),hlen,YV,List.set_cons_zero]
  have hset0:E.set (i+1) (EX nf E L[i] 0).2=E:=by rw [hset];show CW nf (L.take i)++none::_=E;rw [←hrep,hE]
  have turn:=fun (j:Nat) (hj:j<4) (Hd:Aa)=>edge_turn hnf tk H Hd E i j H.length (H.length+1) (H.length+2) Hc.length hi hj hL hEl ⟨v1,v2⟩ (v3 (nf j) (hnf j)).1 (fun h1=>⟨by have:=hkidle j h1;omega,by have:=hkidle j h1;omega,by
    rw [hgetE _ (hkidle j h1)]
    have:=Wg hnf hl hi hEB j h1
    exact Od this.1 this.2 (by omega)⟩) (hJl j) (EX nf E L[i] j) (hKl j (by omega)) ⟨by omega,by omega,by omega,by omega⟩ (by omega) (by omega) (by omega)
  have next:∀j,(if L[i].kid (nf j)=0 then EX nf E L[i] j else if (EX nf E L[i] j).1=false∨DW nf E L[i] j<bo (EX nf E L[i] j).2 then (true,D3 nf E L[i] j)else EX nf E L[i] j)=EX nf E L[i] (j+1):=fun j=>rfl
  simp only [next]at turn
  obtain ⟨H1,t1,a1,b1,c1,d1,e1,g1⟩:=turn 0 (by omega) (Hc++[Blk.cel 0 (A6 (2^(L[i].lv.toNat-1)))]) (A1 f1) (A1 f2) (by rw [hset0];exact A1 f3) Ap (fun k hk=>by rw [Yx (by omega)];exact f4 k hk) (by simp;omega)
  obtain ⟨H2,t2,a2,b2,c2,d2,e2,g2⟩:=turn 1 (by omega) H1 a1 b1 c1 d1 e1 g1
  obtain ⟨H3,t3,a3,b3,c3,d3,e3,g3⟩:=turn 2 (by omega) H2 a2 b2 c2 d2 e2 g2
  obtain ⟨H4,t4,a4,b4,c4,d4,e4,g4⟩:=turn 3 (by omega) H3 a3 b3 c3 d3 e3 g3
  have hidl:=(Yw.1 c4).1
  refine ⟨[.sl (enL cNd L) tk,.ptr H.length 0 0,.ptr (H.length+1) 0 0,.ms (H.length+2) 0 0 (L.length+1) (L.length+1) 2 true,.int .i64 ((i+1:Nat):Int)],H4,⟨rfl,a4,b4,?_,e4,by omega⟩,fun rec=>?_⟩
  ·rw [c4,Wh nf L hi,hset,←hKeq];simp
  ·unfold Sh.f6d
   simp only [GMb,GMc,An,Ah,A9,Yy,Nat.add_zero,YB,BY,Ai,Aw,hi',Ay hi,hw,hpow,Cd,s1]
   obtain ⟨n,hn⟩:=XW 5 (by decide)
   have hf:¬(((3+1:Nat):Int)<4):=by decide
   rw [hn,show n+5=(((n+1)+1)+1+1)+1 from rfl,Cw]
   simp only [Al,Ai]
   refine (t1 rec _).trans ?_
   rw [Cw]
   simp only [Al,Ai]
   refine (t2 rec _).trans ?_
   rw [Cw]
   simp only [Al,Ai]
   refine (t3 rec _).trans ?_
   rw [Cw]
   simp only [Al,Ai]
   refine (t4 rec _).trans ?_
   rw [Cw]
   unfold Sh.f6c
   simp only [GMb,GMc,Ai,hf,hwi]
def PU (x y w h:Int):List Ab:=A6 x++A6 y++A6 w++A6 h
def TZ (x y w h:Int):Ab:=.agg (PU x y w h)
def Ib:List Ab:=[.bool false,.sl [] .tight,.bool false,.sl [] .tight,.bool false,.sl [] .tight,.bool false,.sl [] .tight]
def nfW (j:Nat):Nat:=match j with | 0=>0 | 1=>2 | 2=>1 | _=>3
def nfE (j:Nat):Nat:=match j with | 0=>1 | 1=>3 | 2=>0 | _=>2
def nfN (j:Nat):Nat:=match j with | 0=>0 | 1=>1 | 2=>2 | _=>3
def nfS (j:Nat):Nat:=match j with | 0=>2 | 1=>3 | 2=>0 | _=>1
def Hr (nf:Nat→Nat) (L:List Nd):Option Int:=(CW nf L).getD L.length none
def bxX (L:List Nd):Int:=-(2^((Ck L).toNat-1))+bo (Hr nfW L)
def bxY (L:List Nd):Int:=-(2^((Ck L).toNat-1))+bo (Hr nfN L)
def bxW (L:List Nd):Int:=2^(Ck L).toNat-(bo (Hr nfW L)+bo (Hr nfE L))
def bxH (L:List Nd):Int:=2^(Ck L).toNat-(bo (Hr nfN L)+bo (Hr nfS L))
theorem nfW_lt (j:Nat):nfW j<4:=by unfold nfW;split <;> omega
theorem nfE_lt (j:Nat):nfE j<4:=by unfold nfE;split <;> omega
theorem nfN_lt (j:Nat):nfN j<4:=by unfold nfN;split <;> omega
theorem nfS_lt (j:Nat):nfS j<4:=by unfold nfS;split <;> omega
theorem build_two (a b:Nat):A2 (some [.int .i64 0,.int .i64 0]) [(0,1,.int .i64 (a:Int)),(1,1,.int .i64 (b:Int))]=some (.agg (FV a b)):=by
 simp [A2,Gu,DF,FV]
theorem Ld {nf:Nat→Nat} (hnf:∀j,nf j<4) {L:List Nd} (hl:AU L=true) (h0:0<L.length):0≤bo (Hr nf L)∧bo (Hr nf L)<2^(Ck L).toNat:=by
 have hb:=edgeL_b hnf hl L.length (Yz _)
 rw [Y6 (Yz _)]at hb
 have hm:L.length-1<L.length:=by omega
 have hlt:L.length<(CW nf L).length:=by rw [I0];omega
 have:=hb (L.length-1) L[L.length-1] (CW nf L)[L.length] (Yu hm) (by rw [show L.length-1+1=L.length from by omega];exact Yu hlt)
 have ht:Ck L=L[L.length-1].lv:=by unfold Ck;rw [Eo (n:=L.length-1) (by omega) hm]
 unfold Hr
 rw [Y0,Yu hlt,ht]
 exact this
theorem IZ (B:Aa) (o:Option Int):Af 2 (.ptr B.length 0 0) (.agg (cBO o)) (B++[Blk.cel 0 [.bool false,.sl [] .tight]])=some (B++[Blk.cel 0 (cBO o)]):=by
 rw [OL (Ap (B:=B) (cs:=[.bool false,.sl [] .tight])) rfl,Bd]
theorem OX {nf:Nat→Nat} (L:List Nd) (H:Aa) (k:Ab→Out):((Au 2 (.sl (enL cBO (CW nf L)) .no) (.int .i64 (L.length:Int))).bind fun x20=>(Ac true 2 x20 H).bind k)=k (.agg (cBO (Hr nf L))):=by
 have hlt:L.length<(CW nf L).length:=by rw [I0];omega
 rw [Ay hlt]
 unfold Hr
 rw [Y0,Yu hlt]
 cases (CW nf L)[L.length] <;> rfl
theorem Uv {nf:Nat→Nat} (hnf:∀j,nf j<4) {L:List Nd} (hl:AU L=true) (h0:0<L.length):LB (bo (Hr nf L)):=by
 have:=Ld hnf hl h0
 have hle:=Tk hl h0 (Yz _)
 exact Od this.1 this.2 (YJ hle (by omega))
theorem q09_of (L:List Nd) (H:Aa) (hL:L.length<549755813888) (hl:AU L=true) (h0:L≠[]) :
  Sh.f1s (El L) H=some (.ret (.tup [TZ (bxX L) (bxY L) (bxW L) (bxH L),.bool true]),H):=by
 have hlen:0<L.length:=YZ.2 h0
 have hl0:¬((L.length:Int)=0):=by omega
 have hLv:Lv L (Ck L).toNat L.length:=⟨Yz _,.inr rfl⟩
 obtain ⟨hn1,hn2⟩:=hLv.num hlen hl
 have htop:Ck L=((Ck L).toNat:Int):=hn1
 have hle:(Ck L).toNat≤1329:=Tk hl hlen (Yz _)
 have bW:=Uv nfW_lt hl hlen
 have bE:=Uv nfE_lt hl hlen
 have bN:=Uv nfN_lt hl hlen
 have bS:=Uv nfS_lt hl hlen
 have kW:=fun H=>OP nfW_lt L .no H hL hl
 have kE:=fun H=>OP nfE_lt L .no H hL hl
 have kN:=fun H=>OP nfN_lt L .no H hL hl
 have kS:=fun H=>OP nfS_lt L .no H hL hl
 simp only [nfW,nfE,nfN,nfS]at kW kE kN kS
 have lvl:=fun H=>X4 L .no H (show L.length<17592186044415 by omega)
 rw [←quad_eq]at lvl
 simp only [if_neg h0]at lvl
 unfold Sh.f1s
 have hzb:Ax (some [(.bool false),(.sl [] .tight),(.bool false),(.sl [] .tight),(.bool false),(.sl [] .tight),(.bool false),(.sl [] .tight)]) (H++[Blk.cel 0 (C6 L)])=some (.ptr (H++[Blk.cel 0 (C6 L)]).length 0 0,H++[Blk.cel 0 (C6 L)]++[.cel 0 Ib]):=alloc_eq rfl
 simp only [GMb,GMc,boxQ,hzb]
 generalize h2:H++[Blk.cel 0 (C6 L)]++[Blk.cel 0 Ib]=H2
 generalize h1:(H++[Blk.cel 0 (C6 L)]).length=p1
 have n2:Ac false 1 (.ptr H.length 0 0) H2=some (.sl (enL cNd L) .no):=Dx (by rw [←h2];simp)
 have q2:Ac true 1 (.ptr H.length 0 0) H2=some (El L):=Ul (by rw [←h2];simp)
 have z2:H2[p1]? = some (.cel 0 Ib):=by rw [←h2,←h1];exact Ap
 have o2:∀k,k<H.length→H2[k]? = H[k]? := fun k hk=>by rw [←h2,Y1,Yx hk]
 have p1l:H.length<p1:=by rw [←h1];simp
 have tw:=fun (a b:Nat)=>build_two a b
 have t02:=tw 0 2
 have t13:=tw 1 3
 have t01:=tw 0 1
 have t23:=tw 2 3
 simp only [show ((0:Nat):Int)=0 from rfl,show ((1:Nat):Int)=1 from rfl,show ((2:Nat):Int)=2 from rfl,show ((3:Nat):Int)=3 from rfl]at t02 t13 t01 t23
 simp only [GMb,GMc,Ah,Yy,Nat.add_zero,n2,Aw,hl0,t02,t13,t01,t23,kW]
 rw [OX]
 simp only [GMb,GMc,Cd,IZ]
 generalize h3:H2++[Blk.cel 0 (cBO (Hr nfW L))]=H3
 have n3:Ac false 1 (.ptr H.length 0 0) H3=some (.sl (enL cNd L) .no):=by rw [←h3];exact BG n2
 have w3:Ac true 2 (.ptr H2.length 0 0) H3=some (.agg (cBO (Hr nfW L))):=by rw [←h3];exact FE Ap
 simp only [GMb,GMc,Ah,Yy,Nat.add_zero,n3,t02,t13,t01,t23,kE]
 rw [OX]
 simp only [GMb,GMc,Cd,IZ]
 generalize h4:H3++[Blk.cel 0 (cBO (Hr nfE L))]=H4
 have n4:Ac false 1 (.ptr H.length 0 0) H4=some (.sl (enL cNd L) .no):=by rw [←h4];exact BG n3
 have e4:Ac true 2 (.ptr H3.length 0 0) H4=some (.agg (cBO (Hr nfE L))):=by rw [←h4];exact FE Ap
 simp only [GMb,GMc,Ah,Yy,Nat.add_zero,n4,t02,t13,t01,t23,kN]
 rw [OX]
 simp only [GMb,GMc,Cd,IZ]
 generalize h5:H4++[Blk.cel 0 (cBO (Hr nfN L))]=H5
 have n5:Ac false 1 (.ptr H.length 0 0) H5=some (.sl (enL cNd L) .no):=by rw [←h5];exact BG n4
 have d5:Ac true 2 (.ptr H4.length 0 0) H5=some (.agg (cBO (Hr nfN L))):=by rw [←h5];exact FE Ap
 simp only [GMb,GMc,Ah,Yy,Nat.add_zero,n5,t02,t13,t01,t23,kS]
 rw [OX]
 simp only [GMb,GMc,Cd,IZ]
 generalize h6:H5++[Blk.cel 0 (cBO (Hr nfS L))]=H6
 have q6:Ac true 1 (.ptr H.length 0 0) H6=some (El L):=by rw [←h6,←h5,←h4,←h3];exact BG (BG (BG (BG q2)))
 have s6:Ac true 2 (.ptr H5.length 0 0) H6=some (.agg (cBO (Hr nfS L))):=by rw [←h6];exact FE Ap
 have w6:Ac true 2 (.ptr H2.length 0 0) H6=some (.agg (cBO (Hr nfW L))):=by rw [←h6,←h5,←h4];exact BG (BG (BG w3))
 have e6:Ac true 2 (.ptr H3.length 0 0) H6=some (.agg (cBO (Hr nfE L))):=by rw [←h6,←h5];exact BG (BG e4)
 have d6:Ac true 2 (.ptr H4.length 0 0) H6=some (.agg (cBO (Hr nfN L))):=by rw [←h6];exact BG d5
 have z6:H6[p1]? = some (.cel 0 Ib):=by rw [←h6,←h5,←h4,←h3];exact A1 (A1 (A1 (A1 z2)))
 have o6:∀k,k<H.length→H6[k]? = H[k]? := fun k hk=>by
  have hk2:k<H2.length:=by rw [←h2];simp;omega
  rw [←h6,←h5,←h4,←h3,Y1,Y1,Y1,Yx hk2];exact o2 k hk
 unfold bxX bxY bxW bxH
 generalize hv:(Ck L).toNat=v at *
 have hpw1:=fun H=>Jc v H (by omega)
 have hpw2:=fun H=>Jc (v-1) H (by omega)
 have hw:IntKind.i64.wrap ((v:Int)-1)=((v-1:Nat):Int):=Iq (by omega) (by omega)
 have sb1:=(Hz (show v≤1400 by omega)).lb (show 44≤549755813888 by decide)
 have sb2:=(Hz (show v-1≤1400 by omega)).lb (show 44≤549755813888 by decide)
 have hmin:=fun H=>I7 (2^(v-1)) H sb2
 have lB:(H6++[Blk.cel 0 [Ab.bool false,.sl [] .tight]]).length=H6.length+1:=by simp
 have s0:=fun (z:Int) (c:List Ab)=>st0 (Hc:=H6) (a:=[.bool false,.sl [] .tight]) (c:=c) (z:=z) rfl
 have s1:=fun (z:Int) (a:List Ab)=>st1 (Hc:=H6) (a:=a) (c:=[.bool false,.sl [] .tight]) (z:=z) rfl
 rw [htop]at lvl
 simp only [GMb,GMc,q6,lvl,hpw1,hw,hpw2,hmin,Cd,lB,s0,s1]
 generalize h8:H6++[Blk.cel 0 (A6 (2^v))]++[Blk.cel 0 (A6 (-(2^(v-1))))]=H8
 have c8:Ac true 2 (.ptr (H6.length+1) 0 0) H8=some (big (-(2^(v-1)))):=AW (by rw [←h8];simp)
 have g8:Ac true 2 (.ptr H6.length 0 0) H8=some (big (2^v)):=AW (by rw [←h8];simp)
 have w8:Ac true 2 (.ptr H2.length 0 0) H8=some (.agg (cBO (Hr nfW L))):=by rw [←h8];exact BG (BG w6)
 have e8:Ac true 2 (.ptr H3.length 0 0) H8=some (.agg (cBO (Hr nfE L))):=by rw [←h8];exact BG (BG e6)
 have d8:Ac true 2 (.ptr H4.length 0 0) H8=some (.agg (cBO (Hr nfN L))):=by rw [←h8];exact BG (BG d6)
 have s8:Ac true 2 (.ptr H5.length 0 0) H8=some (.agg (cBO (Hr nfS L))):=by rw [←h8];exact BG (BG s6)
 have z8:H8[p1]? = some (.cel 0 Ib):=by rw [←h8];exact A1 (A1 z6)
 have o8:∀k,k<H.length→H8[k]? = H[k]? := fun k hk=>by
  have hk6:k<H6.length:=by
   have:=(Yw.1 z6).1;omega
  rw [←h8,Y1,Yx hk6];exact o6 k hk
 have rW:=Rep.bo bW
 have rE:=Rep.bo bE
 have rN:=Rep.bo bN
 have rS:=Rep.bo bS
 have rC:=Rep.big sb2.neg
 have rG:=Rep.big sb1
 have aX:=fun H=>addR rC rW H
 have aY:=fun H=>addR rC rN H
 have aWE:=fun H=>addR rW rE H
 have aNS:=fun H=>addR rN rS H
 simp only [W5]at aX aY
 have sumlb:∀a b:Int,0≤a→a<2^v→0≤b→b<2^v→LB (a+b):=fun a b ha1 ha2 hb1 hb2=>Od (v:=v+1) (by omega) (by rw [QaS];omega) (by omega)
 have eW:=Ld nfW_lt hl hlen
 have eE:=Ld nfE_lt hl hlen
 have eN:=Ld nfN_lt hl hlen
 have eS:=Ld nfS_lt hl hlen
 rw [hv]at eW eE eN eS
 have bW':=fun H=>subR rG (Rep.big (sumlb _ _ eW.1 eW.2 eE.1 eE.2)) H
 have bH':=fun H=>subR rG (Rep.big (sumlb _ _ eN.1 eN.2 eS.1 eS.2)) H
 simp only [W5]at bW' bH'
 simp only [GMb,GMc,c8,g8,w8,e8,d8,s8,and_true,eq_self,aX,aY,aWE,aNS,bW',bH']
 have hbd:∀x y w h:Int,A2 (some [(.bool false),(.sl [] .tight),(.bool false),(.sl [] .tight),(.bool false),(.sl [] .tight),(.bool false),(.sl [] .tight)]) [(0,2,big x),(2,2,big y),(4,2,big w),(6,2,big h)]=some (TZ x y w h):=fun x y w h=>by
  unfold TZ PU
  simp [A2,Gu,DF,A6]
 have hacc:∀x y w h:Int,(TZ x y w h).acells=some (PU x y w h):=fun x y w h=>CF (by simp [PU,A6])
 have hp1:=(Yw.1 z8).1
 have hst:∀x y w h:Int,Af 8 (.ptr p1 0 0) (TZ x y w h) H8=some (H8.set p1 (.cel 0 (PU x y w h))):=fun x y w h=>by
  simp only [Af,AE z8,Option.bind_some,hacc,Ch z8,G8 (cs:=Ib) (sz:=8) rfl]
  rw [if_pos ⟨rfl,by decide⟩]
 have hld:∀x y w h:Int,Ac true 8 (.ptr p1 0 0) (H8.set p1 (.cel 0 (PU x y w h)))=some (TZ x y w h):=fun x y w h=>by
  have:(H8.set p1 (.cel 0 (PU x y w h)))[p1]? = some (.cel 0 (PU x y w h)):=by rw [Y9 hp1]
  simp only [Ac,AE this,Option.bind_some];rfl
 have htk:∀x y w h:Int,(H8.set p1 (.cel 0 (PU x y w h))).take H.length=H:=fun x y w h=>Cv fun k hk=>by
  rw [Yv (by omega)];exact o8 k hk
 have hfp:∀(x y w h:Int) (H':Aa) (n d:Nat),Fy H' n (d+3) (TZ x y w h)=some (TZ x y w h):=fun x y w h H' n d=>by
  unfold TZ PU A6;simp
 simp only [hbd,GMb,GMc,hst,hld,OO,Iu,JB,Option.map_some,Gc (htk _ _ _ _),Dz,Cp,C9,hfp,Hj]
def bx (L:List Nd) (f:List Nd→Int):Int:=if L=[]then 0 else f L
theorem box_acells (x y w h:Int):(TZ x y w h).acells=some (PU x y w h):=CF (by simp [PU,A6])
theorem W4 (H:Aa):Ax (some [(.bool false),(.sl [] .tight),(.bool false),(.sl [] .tight),(.bool false),(.sl [] .tight),(.bool false),(.sl [] .tight)]) H=some (.ptr H.length 0 0,H++[.cel 0 Ib]):=alloc_eq rfl
theorem q09_ofB (L:List Nd) (H:Aa) (hL:L.length<549755813888) (hl:AU L=true) :
  Sh.f1s (El L) H=some (.ret (.tup [TZ (bx L bxX) (bx L bxY) (bx L bxW) (bx L bxH),.bool (decide (L≠[]))]),H):=by
 unfold bx
 by_cases h0:L=[]
 ·subst h0
  unfold Sh.f1s
  have n2:Ac false 1 (.ptr H.length 0 0) (H++[Blk.cel 0 (C6 [])]++[Blk.cel 0 Ib])=some (.sl (enL cNd []) .no):=Dx (by simp)
  have hb:A2 (some [(.bool false),(.sl [] .tight),(.bool false),(.sl [] .tight),(.bool false),(.sl [] .tight),(.bool false),(.sl [] .tight)]) []=some (.agg Ib):=rfl
  have hst:Af 8 (.ptr (H++[Blk.cel 0 (C6 [])]).length 0 0) (.agg Ib) (H++[Blk.cel 0 (C6 [])]++[Blk.cel 0 Ib])=some (H++[Blk.cel 0 (C6 [])]++[Blk.cel 0 Ib]):=by
   have hz:(H++[Blk.cel 0 (C6 [])]++[Blk.cel 0 Ib])[(H++[Blk.cel 0 (C6 [])]).length]? = some (.cel 0 Ib):=Ap
   simp only [Af,AE hz,Option.bind_some,Ch hz,CF (cs:=Ib) rfl,G8 (cs:=Ib) (sz:=8) rfl,Bd]
   rfl
  have hld:Ac true 8 (.ptr (H++[Blk.cel 0 (C6 [])]).length 0 0) (H++[Blk.cel 0 (C6 [])]++[Blk.cel 0 Ib])=some (.agg Ib):=by
   simp only [Ac,AE (Ap (cs:=Ib)),Option.bind_some];rfl
  simp only [GMb,GMc,boxQ,W4,Ah,Yy,n2,Aw,List.length_nil,show ((0:Nat):Int)=0 from rfl,hb,hst,hld,OO,Iu,JB,Option.map_some]
  rw [Y1]
  simp only [Co,Dz,Cp,C9,Iz,Ib,Gv,Hl,Q9,JS,Hj,BD,Option.map_some]
  rfl
 ·rw [q09_of L H hL hl h0]
  simp only [if_false,ne_eq,h0,not_false_eq_true,decide_true]
theorem bx_lb {L:List Nd} (hl:AU L=true):LB (bx L bxW)∧LB (bx L bxH):=by
 unfold bx
 by_cases h0:L=[]
 ·rw [if_pos h0,if_pos h0];exact ⟨LB_zero,LB_zero⟩
 ·rw [if_neg h0,if_neg h0]
  have hlen:0<L.length:=YZ.2 h0
  have eW:=Ld nfW_lt hl hlen
  have eE:=Ld nfE_lt hl hlen
  have eN:=Ld nfN_lt hl hlen
  have eS:=Ld nfS_lt hl hlen
  have hle:(Ck L).toNat≤1329:=Tk hl hlen (Yz _)
  have key:∀a b:Int,0≤a→a<2^(Ck L).toNat→0≤b→b<2^(Ck L).toNat→LB (2^(Ck L).toNat-(a+b)):=fun a b h1 h2 h3 h4=>by
   have hs:=Hz (show (Ck L).toNat≤1400 by omega)
   have ha:=Ko (Ck L).toNat
   unfold SB at hs
   refine LB.of (k:=44) (Zm ?_ hs) (by decide)
   generalize (2:Int)^(Ck L).toNat=p at *
   omega
  exact ⟨key _ _ eW.1 eW.2 eE.1 eE.2,key _ _ eN.1 eN.2 eS.1 eS.2⟩
def QJ (L:List Nd) (m:Int):Bool:=decide (bx L bxW≤m)&&decide (bx L bxH≤m)
theorem cmp_leq (a b:Int):decide (EZ a b≤0)=decide (a≤b):=by
 unfold EZ;rw [YD]
 split
 ·simp;omega
 ·split
  ·simp;omega
  ·simp;omega
theorem LB_i64 {m:Int} (h0:-9223372036854775808≤m) (h1:m≤9223372036854775807):LB m:=LB.of (k:=3) (show m.natAbs<4294967296^3 by rw [show (4294967296:Nat)^3=79228162514264337593543950336 from by decide];omega) (by decide)
theorem q09_within (L:List Nd) (m:Int) (H:Aa) (hL:L.length<549755813888) (hl:AU L=true) (h0:-9223372036854775808≤m) (h1:m≤9223372036854775807) :
  Sh.f42 (El L) (.int .i64 m) H=some (.ret (.bool (QJ L m)),H):=by
 unfold Sh.f42 QJ
 have q1:Ac true 1 (.ptr H.length 0 0) (H++[Blk.cel 0 (C6 L)])=some (El L):=Ul Ap
 obtain ⟨b1,b2⟩:=bx_lb hl
 have hof:=fun H=>q02_of m H h0 h1
 have cW:=fun H=>G7 (bx L bxW) m H b1 (LB_i64 h0 h1)
 have cH:=fun H=>G7 (bx L bxH) m H b2 (LB_i64 h0 h1)
 simp only [GMb,GMc,boxQ,q1,q09_ofB L _ hL hl,B1,B8,W4]
 generalize bx L bxX=x
 generalize bx L bxY=y
 generalize bx L bxW=w at *
 generalize bx L bxH=h at *
 generalize hB:H++[Blk.cel 0 (C6 L)]=B
 have hst:Af 8 (.ptr B.length 0 0) (TZ x y w h) (B++[Blk.cel 0 Ib])=some (B++[Blk.cel 0 (PU x y w h)]):=by
  simp only [Af,AE (Ap (B:=B) (cs:=Ib)),Option.bind_some,box_acells,Ch (Ap (B:=B) (cs:=Ib)),G8 (cs:=Ib) (sz:=8) rfl,Bd]
  rfl
 have g4:Ac true 2 (.ptr B.length 0 4) (B++[Blk.cel 0 (PU x y w h)])=some (big w):=by
  simp only [Ac,AE (Ap (B:=B)),Option.bind_some];rfl
 have g6:Ac true 2 (.ptr B.length 0 6) (B++[Blk.cel 0 (PU x y w h)])=some (big h):=by
  simp only [Ac,AE (Ap (B:=B)),Option.bind_some];rfl
 have fin:∀q:Bool,rP H (.bool q) (B++[Blk.cel 0 (PU x y w h)])=some (.ret (.bool q),H):=fun q=>by rw [←hB,Y1];exact FP
 simp only [hst,GMb,GMc,hof,Ah,Yy,g4,g6,and_true,eq_self,cW,cmp_leq]
 cases decide (w≤m)with
 | false=>simp only [GMb,GMc,Rq,and_true,eq_self,fin]
 | true=>simp only [GMb,GMc,hof,Ah,Yy,g6,Uo,and_true,eq_self,cH,cmp_leq,fin]
section
variable {α:Type} {f:α→List Ab} {ty:TypeId} {sz:Nat}
def RS (f:α→List Ab) (ty:TypeId) (sz b:Nat) (out:List α) (v:Ab) (H:Aa):Prop:=(out=[]∧v=.sl [] .tight)∨∃t,b≤t∧v=.sl (enL f out) (.own t)∧H[t]? = some (.tok out.length ty sz)
theorem RS.sl {b:Nat} {out:List α} {v:Ab} {H:Aa} (h:RS f ty sz b out v H):∃tk,v=.sl (enL f out) tk:=by
 rcases h with ⟨rfl,rfl⟩ | ⟨t,_,rfl,_⟩
 ·exact ⟨_,rfl⟩
 ·exact ⟨_,rfl⟩
theorem RS.left {b:Nat} {out:List α} {v:Ab} {H:Aa} (h:RS f ty sz b out v H) (G:Aa):RS f ty sz b out v (H++G):=by
 rcases h with h1 | ⟨t,h1,h2,h3⟩
 ·exact .inl h1
 ·exact .inr ⟨t,h1,h2,A1 h3⟩
theorem RS.put {b p:Nat} {out:List α} {v:Ab} {H:Aa} {c c':List Ab} (h:RS f ty sz b out v H) (hp:H[p]? = some (.cel 0 c)):RS f ty sz b out v (H.set p (.cel 0 c')):=by
 rcases h with h1 | ⟨t,h1,h2,h3⟩
 ·exact .inl h1
 ·refine .inr ⟨t,h1,h2,?_⟩
  have:p≠t:=fun e=>by rw [←e,hp]at h3;cases h3
  rw [Yv this];exact h3
theorem RS.snoc [hf:Sz f sz] {bytes b:Nat} {out:List α} {v:Ab} {H:Aa} (h:RS f ty sz b out v H) (hb:b≤H.length) (x:α) (tk:Tok) (hl:(out.length+1)*bytes≤140737488355328) (hl2:out.length+1≤140737488355328) :
  ∃v' H',AN ty sz bytes v (.sl (enL f [x]) tk) H=some (v',H')∧RS f ty sz b (out++[x]) v' H'∧Kp b H H':=by
 rcases h with ⟨rfl,rfl⟩ | ⟨t,h1,rfl,h3⟩
 ·have:=CE (f:=f) (l:=[]) (m:=[x]) (ty:=ty) (bytes:=bytes) (tk:=tk) (H:=H) (by simp) (by simpa using hl) (by simp)
  exact ⟨_,_,this,.inr ⟨H.length,hb,rfl,by simp⟩,Kp.app hb _⟩
 ·have:=Ey (f:=f) (l:=out) (m:=[x]) (ty:=ty) (bytes:=bytes) (tk:=tk) (H:=H) (t:=t) (by simp) h3 (by simpa using hl) (by simpa using hl2)
  have htl:=(Yw.1 h3).1
  refine ⟨_,_,this,.inr ⟨t,h1,rfl,by simp [htl]⟩,⟨by simp,fun i cs hc=>?_,fun i hi=>?_⟩⟩
  ·have:t≠i:=fun e=>by rw [←e,h3]at hc;cases hc
   rw [Yv this];exact hc
  ·rw [Yv (by omega)]

end
def IY (b n:Int):List Ab:=[.int .i64 b,.int .i64 n]
def Og (f:Int) (L:List Nd) (b:Int):Bool:=decide (f=5)||(QJ L b&&(decide (f=4)||decide (Qa L≤1)))
def Lj (f:Int) (rule:List UInt8) (L:List Nd) (b n:Int):Int:=
 if (decide (1≤f)&&decide (f≤5)&&(N1 rule&&HA L)&&JR b n)=false then 1 else if Og f L b=false then 5 else 0
theorem QU {L:List Nd} (h:HA L=true):AU L=true:=by
 simp only [HA,Z4,decide_eq_true_eq,Y7]at h
 rcases h with h | h
 ·subst h;rfl
 ·exact h.1.1.1
theorem q11_express (f:Int) (rule:List UInt8) (L:List Nd) (b n:Int) (H:Aa) (hL:L.length<549755813888) (hl:AU L=true) (h0:-9223372036854775808≤b) (h1:b≤9223372036854775807) :
  Sh.f43 (.int .i64 f) (pat rule L) (.agg (IY b n)) H=some (.ret (.bool (Og f L b)),H):=by
 unfold Sh.f43 Og
 have hbx:∀H,Bz true 2 (.agg (IY b n)) H=some (.ptr H.length 0 0,H++[.cel 0 (IY b n)]):=fun H=>Ct rfl rfl
 have e4:(H++[Blk.cel 0 (HJ rule L)]++[Blk.cel 0 (IY b n)])[H.length]? = some (.cel 0 (HJ rule L)):=by simp
 have g6:Ac false 1 (.ptr (H++[Blk.cel 0 (HJ rule L)]).length 0 0) (H++[Blk.cel 0 (HJ rule L)]++[Blk.cel 0 (IY b n)])=some (.int .i64 b):=by
  simp only [Ac,AE (Ap (B:=H++[Blk.cel 0 (HJ rule L)])),Option.bind_some];rfl
 have fin:∀q:Bool,rP H (.bool q) (H++[Blk.cel 0 (HJ rule L)]++[Blk.cel 0 (IY b n)])=some (.ret (.bool q),H):=fun q=>by rw [Y1];exact FP
 have hwi:=fun H=>q09_within L b H hL hl h0 h1
 have hmo:=fun H=>q08_mostZ H (show L.length<1152921504606846976 by omega) hl
 simp only [GMb,GMc,boxPat,hbx]
 by_cases h5:f=5
 ·simp only [h5,GMb,GMc,fin]
 ·simp only [h5,GMb,GMc,Ah,Yy,KV e4,g6,hwi]
  cases QJ L b with
  | false=>simp only [GMb,GMc,fin]
  | true=>
   by_cases h4:f=4
   ·simp only [h4,GMb,GMc,fin]
   ·simp only [h4,GMb,GMc,Ah,Yy,KV e4,hmo,fin]
theorem q11_check (f:Int) (rule:List UInt8) (L:List Nd) (b n:Int) (H:Aa) (hr:rule.length<1152921504606846976) (hL:L.length<549755813888) (h0:-9223372036854775808≤b) (h1:b≤9223372036854775807) :
  Sh.f44 (.int .i64 f) (pat rule L) (.agg (IY b n)) H=some (.ret (.int .i64 (Lj f rule L b n)),H):=by
 unfold Sh.f44 Lj
 have hbx:∀H,Bz true 2 (.agg (IY b n)) H=some (.ptr H.length 0 0,H++[.cel 0 (IY b n)]):=fun H=>Ct rfl rfl
 have e4:(H++[Blk.cel 0 (HJ rule L)]++[Blk.cel 0 (IY b n)])[H.length]? = some (.cel 0 (HJ rule L)):=by simp
 have g6:Ac true 2 (.ptr (H++[Blk.cel 0 (HJ rule L)]).length 0 0) (H++[Blk.cel 0 (HJ rule L)]++[Blk.cel 0 (IY b n)])=some (.agg (IY b n)):=by
  simp only [Ac,AE (Ap (B:=H++[Blk.cel 0 (HJ rule L)])),Option.bind_some];rfl
 have fin:∀q:Int,rP H (.int .i64 q) (H++[Blk.cel 0 (HJ rule L)]++[Blk.cel 0 (IY b n)])=some (.ret (.int .i64 q),H):=fun q=>by rw [Y1];exact I6
 have hfm:=fun H=>q11_format f H
 have hrt:=fun H=>q11_right rule L H hr (by omega)
 have hfi:=fun H=>q11_fine b n H
 simp only [GMb,GMc,boxPat,hbx,hfm]
 cases hf:(decide (1≤f)&&decide (f≤5))with
 | false=>simp only [GMb,GMc,fin]
 | true=>
  simp only [GMb,GMc,So e4,hrt]
  cases hq:(N1 rule&&HA L)with
  | false=>simp only [GMb,GMc,fin]
  | true=>
   have hl:AU L=true:=by
    simp only [Y7]at hq
    exact QU hq.2
   have hex:=fun H=>q11_express f rule L b n H hL hl h0 h1
   have hfi':∀H,Sh.f13 (.agg (IY b n)) H=some (.ret (.bool (JR b n)),H):=hfi
   simp only [GMb,GMc,g6,hfi']
   cases JR b n with
   | false=>simp only [GMb,GMc,fin]
   | true=>
    simp only [GMb,GMc,So e4,g6,hex]
    cases Og f L b with
    | false=>simp only [GMb,GMc,fin];rfl
    | true=>simp only [GMb,GMc,fin];rfl
theorem check_ok {f:Int} {rule:List UInt8} {L:List Nd} {b n:Int} (h:Lj f rule L b n=0) (hf:f≠5):AU L=true∧0≤b∧b≤1000∧QJ L b=true∧N1 rule=true∧HA L=true:=by
 unfold Lj at h
 split at h
 ·cases h
 ·rename_i h1
  split at h
  ·cases h
  ·rename_i h2
   simp only [Bool.not_eq_false,Y7,JR,Og,decide_eq_true_eq,Z4]at h1 h2
   obtain ⟨⟨_,h3,h4⟩,h5⟩:=h1
   refine ⟨QU h4,h5.1.1.1,h5.1.1.2,?_,h3,h4⟩
   rcases h2 with h2 | h2
   ·exact absurd h2 hf
   ·exact h2.1
theorem sb_lt10 {z:Int} {k m:Nat} (h:SB k z) (hk:10*k≤m):z.natAbs<10^m:=Zs h (pow10_le hk)
theorem sb_dec {z:Int} (h:SB 44 z):z.natAbs<10^4096∧(TP z).length≤5000:=by
 have h1:z.natAbs<10^4096:=sb_lt10 (m:=4096) h (by decide)
 refine ⟨h1,?_⟩
 have:=Yg 4096 z.natAbs h1
 simp only [show ¬((4096:Nat)=0)by decide,if_false]at this
 unfold TP
 split
 ·simp;omega
 ·omega
theorem u8_nat {n:Nat} (h:n<256):((UInt8.ofNat n).toNat:Int)=(n:Int):=by rw [UInt8.toNat_ofNat_of_lt' (show n<256 from h)]
theorem Tl {ι:Type} {G:ι→LK→LK} {σ:Type} (I:σ→List Ab→Aa→Prop) (μ:σ→Nat) (done:σ→Prop)
  (turn:∀(s:σ) (vs:List Ab) (H:Aa),I s vs H→¬done s→∃s' vs' H',μ s'<μ s∧I s' vs' H'∧∀(i:ι) (rec:LK),G i rec vs H=rec vs' H')
  {s:σ} {vs:List Ab} {H:Aa} (h0:I s vs H) (hm:μ s<1152921504606846976):∃s' vs' H',done s'∧I s' vs' H'∧∀i,∃rec,Ao (G i) AK vs H=G i rec vs' H':=by
 have key:∀(n:Nat) (s:σ) (vs:List Ab) (H:Aa),μ s<n→I s vs H→∃s' vs' H',done s'∧I s' vs' H'∧∀i,∃rec,Ao (G i) n vs H=G i rec vs' H':=by
  intro n
  induction n with
  | zero=>intro s vs H hn _;omega
  | succ n ih=>
   intro s vs H hn hI
   by_cases hd:done s
   ·exact ⟨s,vs,H,hd,hI,fun i=>⟨Ao (G i) n,Cw n vs H⟩⟩
   ·obtain ⟨s1,vs1,H1,h1,h2,h3⟩:=turn s vs H hI hd
    obtain ⟨s2,vs2,H2,h4,h5,h6⟩:=ih s1 vs1 H1 (by omega) h2
    exact ⟨s2,vs2,H2,h4,h5,fun i=>(h6 i).imp fun rec h7=>by rw [Cw,h3,h7]⟩
 exact key AK s vs H (by rw [Dg];exact hm) h0
theorem Ep {G:LK→LK} {σ:Type} (I:σ→List Ab→Aa→Prop) (μ:σ→Nat) (done:σ→Prop)
  (turn:∀(s:σ) (vs:List Ab) (H:Aa),I s vs H→¬done s→∃s' vs' H',μ s'<μ s∧I s' vs' H'∧∀rec:LK,G rec vs H=rec vs' H')
  {s:σ} {vs:List Ab} {H:Aa} (h0:I s vs H) (hm:μ s<1152921504606846976):∃s' vs' H',done s'∧I s' vs' H'∧∃rec,Ao G AK vs H=G rec vs' H':=by
 obtain ⟨s',vs',H',h1,h2,h3⟩:=Tl (G:=fun (_:Unit)=>G) I μ done (fun s vs H hI hd=>by
  obtain ⟨s1,vs1,H1,h1,h2,h3⟩:=turn s vs H hI hd
  exact ⟨s1,vs1,H1,h1,h2,fun _=>h3⟩) h0 hm
 exact ⟨s',vs',H',h1,h2,h3 ()⟩
theorem Kp.get {b p:Nat} {H H':Aa} {cs:List Ab} (h:Kp b H H') (hp:H[p]? = some (.cel 0 cs)):H'[p]? = some (.cel 0 cs):=h.cel p cs hp
section
variable {p g:Nat} {f:Ab} {self:Ab→Ab→Ab→Ab→Ab→Aa→Out}
theorem Ro {i j:Nat} (hi:i<1000000000) (hj:j<1000000000):AD .u64 (.int .i64 ((i:Int)+(j:Int)))=some (.int .u64 ((i+j:Nat):Int))∧IntKind.i64.wrap ((i:Int)+(j:Int))=(i:Int)+(j:Int) ∧
  Ae .none .shr (.int .u64 ((i+j:Nat):Int)) (.int .u64 1)=some (.int .u64 (((i+j) / 2:Nat):Int))∧AD .i64 (.int .u64 (((i+j) / 2:Nat):Int))=some (.int .i64 (((i+j) / 2:Nat):Int)):=by
 refine ⟨?_,by rw [Am] <;> omega,?_,?_⟩
 ·rw [Bq]
  have:IntKind.u64.wrap ((i:Int)+(j:Int))=((i+j:Nat):Int):=by
   rw [show (i:Int)+(j:Int)=((i+j:Nat):Int)by omega]
   exact BR (by omega) (by omega)
  rw [this]
 ·have hs:Ae .none .shr (.int .u64 ((i+j:Nat):Int)) (.int .u64 1)=some (.int .u64 (Int.fdiv ((i+j:Nat):Int) (2^(min (1:Int).toNat IntKind.u64.bits)))):=rfl
  rw [hs,show (2:Int)^(min (1:Int).toNat IntKind.u64.bits)=2 from by decide,Qah _ (by omega)]
  congr 2
 ·rw [Bq,wrap_nat (by omega)]
theorem sym_up {l:List Cl} {i a:Nat} {H0 H:Aa} (h:CT H p g l) (hi:i≤l.length) (ha:a<i) (hl:l.length<1000000000) :
  Ao (fun rec2 vs H1=>Sh.f32 H0 rec2 (ag vs 0) (ag vs 1) (ag vs 2) H1) AK [dV p g l.length,.int .i64 (i:Int),.int .i64 (a:Int)] H=some (.ret (.tup []),BJ H p g (upR a (i-1-a) l)):=by
 have hlen:∀k,(upR a k l).length=l.length:=fun k=>by
  induction k with
  | zero=>rfl
  | succ k ih=>unfold upR;rw [OK,ih]
 have key:=Ca (G:=fun rec2 vs H1=>Sh.f32 H0 rec2 (ag vs 0) (ag vs 1) (ag vs 2) H1) (i-1-a)
  (fun k=>[dV p g l.length,.int .i64 (i:Int),.int .i64 ((a+k:Nat):Int)]) (fun k=>BJ H p g (upR a k l)) (some (.ret (.tup []),BJ H p g (upR a (i-1-a) l))) (by omega) (fun rec k hk=>?_) (fun rec=>?_)
 ·rw [show upR a 0 l=l from rfl,CG h]at key;exact key
 ·unfold Sh.f32
  have hr:CT (BJ H p g (upR a k l)) p g (upR a k l):=CY h
  have hln:=hlen k
  have hw:IntKind.i64.wrap ((i:Int)-1)=((i-1:Nat):Int):=by rw [Am] <;> omega
  have hd:decide (((a+k:Nat):Int)<((i-1:Nat):Int))=true:=decide_eq_true (by omega)
  have hwk:=Av (show a+k<9223372036854775807 by omega)
  have i1:a+k<(upR a k l).length:=by omega
  have i2:a+k+1<(upR a k l).length:=by omega
  obtain ⟨s1,s2⟩:=UU hr i1 i2
  rw [B5]at s1 s2
  rw [B5]at s2
  simp only [Al,Ai,Bb,Bf,GMb,GMc,hw,hd,hwk,BS (show a+k<l.length by omega),BS (show a+k+1<l.length by omega),C3 hr i1,C3 hr i2,BN,s1,s2,B6,AL]
  rfl
 ·unfold Sh.f32
  have hw:IntKind.i64.wrap ((i:Int)-1)=((i-1:Nat):Int):=by rw [Am] <;> omega
  have hd:decide (((a+(i-1-a):Nat):Int)<((i-1:Nat):Int))=false:=decide_eq_false (by omega)
  simp only [Al,Ai,Bb,Bf,GMb,GMc,hw,hd]
theorem sym_dn {l:List Cl} {i m:Nat} {H0 H:Aa} (h:CT H p g l) (hi:i≤m) (hm:m<l.length) (hl:l.length<1000000000) :
  Ao (fun rec4 vs H1=>Sh.f34 H0 rec4 (ag vs 0) (ag vs 1) (ag vs 2) H1) AK [dV p g l.length,.int .i64 (i:Int),.int .i64 (m:Int)] H=some (.ret (.tup []),BJ H p g (dnR m (m-i) l)):=by
 have hlen:∀k,(dnR m k l).length=l.length:=fun k=>by
  induction k with
  | zero=>rfl
  | succ k ih=>unfold dnR;rw [OK,ih]
 have key:=Ca (G:=fun rec4 vs H1=>Sh.f34 H0 rec4 (ag vs 0) (ag vs 1) (ag vs 2) H1) (m-i)
  (fun k=>[dV p g l.length,.int .i64 (i:Int),.int .i64 ((m:Int)-(k:Int))]) (fun k=>BJ H p g (dnR m k l)) (some (.ret (.tup []),BJ H p g (dnR m (m-i) l))) (by omega) (fun rec k hk=>?_) (fun rec=>?_)
 ·rw [show dnR m 0 l=l from rfl,CG h,show (m:Int)-((0:Nat):Int)=(m:Int)by omega]at key;exact key
 ·unfold Sh.f34
  have hr:CT (BJ H p g (dnR m k l)) p g (dnR m k l):=CY h
  have hln:=hlen k
  have e:(m:Int)-(k:Int)=((m-k:Nat):Int):=by omega
  have e2:(m:Int)-((k+1:Nat):Int)=((m-k-1:Nat):Int):=by omega
  have hd:decide (((m-k:Nat):Int)>(i:Int))=true:=decide_eq_true (by omega)
  have hwk:IntKind.i64.wrap (((m-k:Nat):Int)-1)=((m-k-1:Nat):Int):=by rw [Am] <;> omega
  have i1:m-k<(dnR m k l).length:=by omega
  have i2:m-k-1<(dnR m k l).length:=by omega
  obtain ⟨s1,s2⟩:=UU hr i1 i2
  rw [B5]at s1 s2
  rw [B5]at s2
  simp only [Al,Ai,Bb,Bf,GMb,GMc,e,e2,hd,hwk,BS (show m-k<l.length by omega),BS (show m-k-1<l.length by omega),C3 hr i1,C3 hr i2,BN,s1,s2,B6,AL]
  rfl
 ·unfold Sh.f34
  have e:(m:Int)-((m-i:Nat):Int)=(i:Int):=by omega
  have hd:decide ((i:Int)>(i:Int))=false:=decide_eq_false (by omega)
  simp only [Al,Ai,Bb,Bf,GMb,GMc,e,hd]

end
section
variable {p g:Nat} {f:Ab} {self:Ab→Ab→Ab→Ab→Ab→Aa→Out} {l0:List Cl}
abbrev Xj (f:Ab) (l0:List Cl):Prop:=∀self,WA (Be self) f l0
theorem sym_l1 (hf:Xj f l0) {l:List Cl} {a m b:Nat} {H0 H:Aa} (h:CT H p g l) (hm:∀c∈l,c∈l0) (ha:a<l.length) (hmb:m≤b) (hb:b≤l.length) (hl:l.length<1000000000)
  (mono:∀c d,m≤c→c≤d→d<b→IA ltC l d a=true→IA ltC l c a=true) :
  ∃s,BsI (fun c=>IA ltC l c a) m b s s∧Ao (fun rec1 vs H1=>Sh.f33 H0 self rec1 (ag vs 0) (ag vs 1) (ag vs 2) (ag vs 3) (ag vs 4) H1) AK [dV p g l.length,.int .i64 (a:Int),f,.int .i64 (m:Int),.int .i64 (b:Int)] H =
   Ao (fun rec2 vs H1=>Sh.f32 H0 rec2 (ag vs 0) (ag vs 1) (ag vs 2) H1) AK [dV p g l.length,.int .i64 (s:Int),.int .i64 (a:Int)] H:=by
 have key:=Ep (G:=fun rec1 vs H1=>Sh.f33 H0 self rec1 (ag vs 0) (ag vs 1) (ag vs 2) (ag vs 3) (ag vs 4) H1) (σ:=Nat×Nat)
  (fun s vs H1=>BsI (fun c=>IA ltC l c a) m b s.1 s.2∧vs=[dV p g l.length,.int .i64 (a:Int),f,.int .i64 (s.1:Int),.int .i64 (s.2:Int)]∧H1=H) (fun s=>s.2-s.1) (fun s=>¬s.1<s.2) (fun s vs H1 hI hd=>?_)
  (s:=(m,b)) (vs:=[dV p g l.length,.int .i64 (a:Int),f,.int .i64 (m:Int),.int .i64 (b:Int)]) (H:=H) ⟨.start hmb,rfl,rfl⟩ (by dsimp only;omega)
 ·obtain ⟨⟨i,j⟩,vs,H1,hd,⟨hI,rfl,rfl⟩,rec,hloop⟩:=key
  dsimp only at hI hd hloop
  obtain ⟨q1,q2,q3⟩:=hI.le
  have e:j=i:=by omega
  subst e
  refine ⟨j,hI,?_⟩
  rw [hloop]
  have hd2:decide ((j:Int)<(j:Int))=false:=decide_eq_false (by omega)
  conv=>lhs;unfold Sh.f33
  simp only [Al,Ai,Bb,Bf,B2,BK,GMb,GMc,hd2]
 ·obtain ⟨i,j⟩:=s
  obtain ⟨hI,rfl,rfl⟩:=hI
  dsimp only at hI hd ⊢
  obtain ⟨q1,q2,q3⟩:=hI.le
  have hij:i<j:=by omega
  obtain ⟨k,hk⟩:∃k,k=(i+j) / 2:=⟨_,rfl⟩
  obtain ⟨w1,w2,w3,w4⟩:=Ro (i:=i) (j:=j) (by omega) (by omega)
  rw [←hk]at w3 w4
  have hkl:k<l.length:=by omega
  have c1:=hf self l[k] (hm _ (Y8 hkl)) l[a] (hm _ (Y8 ha))
  have hd2:decide ((i:Int)<(j:Int))=true:=decide_eq_true (by omega)
  have hwk:=Av (show k<9223372036854775807 by omega)
  have hlt:IA ltC l k a=ltC l[k] l[a]:=Uk hkl ha
  cases hc:ltC l[k] l[a]with
  | true=>
   refine ⟨(k+1,j),_,_,by dsimp only;omega,⟨hI.yes mono (by omega) (by omega) (by rw [hlt,hc]),rfl,rfl⟩,fun rec=>?_⟩
   unfold Sh.f33
   simp only [Al,Ai,Bb,Bf,B2,BK,GMb,GMc,hd2,w1,w2,w3,w4,BS hkl,BS ha,C3 h hkl,C3 h ha,BN,c1,B6,Le,hc,hwk]
  | false=>
   refine ⟨(i,k),_,_,by dsimp only;omega,⟨hI.no mono (by omega) (by omega) (by rw [hlt,hc]),rfl,rfl⟩,fun rec=>?_⟩
   unfold Sh.f33
   simp only [Al,Ai,Bb,Bf,B2,BK,GMb,GMc,hd2,w1,w2,w3,w4,BS hkl,BS ha,C3 h hkl,C3 h ha,BN,c1,B6,Le,hc]
theorem sym_l3 (hf:Xj f l0) {l:List Cl} {a m:Nat} {H0 H:Aa} (h:CT H p g l) (hm:∀c∈l,c∈l0) (ham:a≤m) (hml:m<l.length) (hl:l.length<1000000000)
  (mono:∀c d,a≤c→c≤d→d<m→(!IA ltC l m d)=true→(!IA ltC l m c)=true) :
  ∃s,BsI (fun c=>!IA ltC l m c) a m s s∧Ao (fun rec3 vs H1=>Sh.f35 H0 self rec3 (ag vs 0) (ag vs 1) (ag vs 2) (ag vs 3) (ag vs 4) H1) AK [dV p g l.length,.int .i64 (m:Int),f,.int .i64 (a:Int),.int .i64 (m:Int)] H =
   Ao (fun rec4 vs H1=>Sh.f34 H0 rec4 (ag vs 0) (ag vs 1) (ag vs 2) H1) AK [dV p g l.length,.int .i64 (s:Int),.int .i64 (m:Int)] H:=by
 have key:=Ep (G:=fun rec3 vs H1=>Sh.f35 H0 self rec3 (ag vs 0) (ag vs 1) (ag vs 2) (ag vs 3) (ag vs 4) H1) (σ:=Nat×Nat)
  (fun s vs H1=>BsI (fun c=>!IA ltC l m c) a m s.1 s.2∧vs=[dV p g l.length,.int .i64 (m:Int),f,.int .i64 (s.1:Int),.int .i64 (s.2:Int)]∧H1=H) (fun s=>s.2-s.1) (fun s=>¬s.1<s.2) (fun s vs H1 hI hd=>?_)
  (s:=(a,m)) (vs:=[dV p g l.length,.int .i64 (m:Int),f,.int .i64 (a:Int),.int .i64 (m:Int)]) (H:=H) ⟨.start ham,rfl,rfl⟩ (by dsimp only;omega)
 ·obtain ⟨⟨i,j⟩,vs,H1,hd,⟨hI,rfl,rfl⟩,rec,hloop⟩:=key
  dsimp only at hI hd hloop
  obtain ⟨q1,q2,q3⟩:=hI.le
  have e:j=i:=by omega
  subst e
  refine ⟨j,hI,?_⟩
  rw [hloop]
  have hd2:decide ((j:Int)<(j:Int))=false:=decide_eq_false (by omega)
  conv=>lhs;unfold Sh.f35
  simp only [Al,Ai,Bb,Bf,B2,BK,GMb,GMc,hd2]
 ·obtain ⟨i,j⟩:=s
  obtain ⟨hI,rfl,rfl⟩:=hI
  dsimp only at hI hd ⊢
  obtain ⟨q1,q2,q3⟩:=hI.le
  have hij:i<j:=by omega
  obtain ⟨k,hk⟩:∃k,k=(i+j) / 2:=⟨_,rfl⟩
  obtain ⟨w1,w2,w3,w4⟩:=Ro (i:=i) (j:=j) (by omega) (by omega)
  rw [←hk]at w3 w4
  have hkl:k<l.length:=by omega
  have c1:=hf self l[m] (hm _ (Y8 hml)) l[k] (hm _ (Y8 hkl))
  have hd2:decide ((i:Int)<(j:Int))=true:=decide_eq_true (by omega)
  have hwk:=Av (show k<9223372036854775807 by omega)
  have hlt:IA ltC l m k=ltC l[m] l[k]:=Uk hml hkl
  cases hc:ltC l[m] l[k]with
  | false=>
   refine ⟨(k+1,j),_,_,by dsimp only;omega,⟨hI.yes mono (by omega) (by omega) (by rw [hlt,hc];rfl),rfl,rfl⟩,fun rec=>?_⟩
   unfold Sh.f35
   simp only [Al,Ai,Bb,Bf,B2,BK,GMb,GMc,hd2,w1,w2,w3,w4,BS hkl,BS hml,C3 h hkl,C3 h hml,BN,c1,B6,Le,hc,hwk]
  | true=>
   refine ⟨(i,k),_,_,by dsimp only;omega,⟨hI.no mono (by omega) (by omega) (by rw [hlt,hc];rfl),rfl,rfl⟩,fun rec=>?_⟩
   unfold Sh.f35
   simp only [Al,Ai,Bb,Bf,B2,BK,GMb,GMc,hd2,w1,w2,w3,w4,BS hkl,BS hml,C3 h hkl,C3 h hml,BN,c1,B6,Le,hc]
def SymOk (p g:Nat) (f:Ab) (l0:List Cl) (self:Ab→Ab→Ab→Ab→Ab→Aa→Out) (n:Nat):Prop:=
 ∀(A U V B:List Cl) (H:Aa),U.length+V.length=n→CT H p g (A++(U++(V++B)))→0<U.length→0<V.length→Ez ltC U→Ez ltC V→(∀c∈A++(U++(V++B)),c∈l0)→(A++(U++(V++B))).length<1000000000 →
  ∃W,Srt ltC (U++V) W∧self (dV p g (A++(U++(V++B))).length) (.int .i64 (A.length:Int)) (.int .i64 ((A.length+U.length:Nat):Int)) (.int .i64 ((A.length+U.length+V.length:Nat):Int)) f H=some (.ret (.tup []),BJ H p g (A++(W++B)))
theorem Ug {U V:List Cl} (hU:Ez ltC U) (hV:Ez ltC V) (h:U=[]∨V=[]):Srt ltC (U++V) (U++V):=by
 refine ⟨?_,.refl _,rfl⟩
 rcases h with rfl | rfl
 ·exact hV
 ·rw [YP];exact hU
theorem sym_j8 {H0 H:Aa} {A U V B:List Cl} {n:Nat} (hs:∀n',n'<n→SymOk p g f l0 self n') (hn:U.length+V.length<n) (h:CT H p g (A++(U++(V++B)))) (hU:Ez ltC U) (hV:Ez ltC V) (hm:∀c∈A++(U++(V++B)),c∈l0) (hl:(A++(U++(V++B))).length<1000000000) :
  ∃W,Srt ltC (U++V) W∧Sh.f5o H0 self (dV p g (A++(U++(V++B))).length) (.int .i64 ((A.length+U.length+V.length:Nat):Int)) f (.int .i64 (A.length:Int)) (.int .i64 ((A.length+U.length:Nat):Int)) H=some (.ret (.tup []),BJ H p g (A++(W++B))):=by
 unfold Sh.f5o
 by_cases h1:0<U.length
 ·have d1:decide ((A.length:Int)<((A.length+U.length:Nat):Int))=true:=decide_eq_true (by omega)
  by_cases h2:0<V.length
  ·have d2:decide (((A.length+U.length:Nat):Int)<((A.length+U.length+V.length:Nat):Int))=true:=decide_eq_true (by omega)
   obtain ⟨W,w1,w2⟩:=hs _ hn A U V B H rfl h h1 h2 hU hV hm hl
   refine ⟨W,w1,?_⟩
   simp only [GMb,GMc,d1,d2,w2]
  ·have d2:decide (((A.length+U.length:Nat):Int)<((A.length+U.length+V.length:Nat):Int))=false:=decide_eq_false (by omega)
   have hv:V=[]:=YE (by omega)
   refine ⟨U++V,Ug hU hV (.inr hv),?_⟩
   simp only [GMb,GMc,d1,d2]
   rw [Y1,CG h]
 ·have d1:decide ((A.length:Int)<((A.length+U.length:Nat):Int))=false:=decide_eq_false (by omega)
  have hu:U=[]:=YE (by omega)
  refine ⟨U++V,Ug hU hV (.inl hu),?_⟩
  simp only [GMb,GMc,d1]
  rw [Y1,CG h]
theorem sym_j7 {H0 H:Aa} {A U V U2 V2 B:List Cl} {n:Nat} (hs:∀n',n'<n→SymOk p g f l0 self n') (hn:U.length+V.length<n) (hn2:U2.length+V2.length<n) (h:CT H p g (A++(U++(V++(U2++(V2++B)))))) (hU:Ez ltC U) (hV:Ez ltC V) (hU2:Ez ltC U2) (hV2:Ez ltC V2)
  (hm:∀c∈A++(U++(V++(U2++(V2++B)))),c∈l0) (hl:(A++(U++(V++(U2++(V2++B))))).length<1000000000) :
  ∃W W2,Srt ltC (U++V) W∧Srt ltC (U2++V2) W2∧Sh.f5p H0 self (dV p g (A++(U++(V++(U2++(V2++B))))).length) (.int .i64 (A.length:Int)) (.int .i64 ((A.length+U.length+V.length+U2.length+V2.length:Nat):Int)) f (.int .i64 ((A.length+U.length+V.length:Nat):Int)) (.int .i64 ((A.length+U.length:Nat):Int)) (.int .i64 ((A.length+U.length+V.length+U2.length:Nat):Int)) H =
   some (.ret (.tup []),BJ H p g (A++(W++(W2++B)))):=by
 have second:∀(W:List Cl) (G:Aa),Srt ltC (U++V) W→G=BJ H p g (A++(W++(U2++(V2++B))))→∃W2,Srt ltC (U2++V2) W2∧Sh.f5o H0 self (dV p g (A++(U++(V++(U2++(V2++B))))).length) (.int .i64 ((A.length+U.length+V.length+U2.length+V2.length:Nat):Int)) f (.int .i64 ((A.length+U.length+V.length:Nat):Int)) (.int .i64 ((A.length+U.length+V.length+U2.length:Nat):Int)) G =
   some (.ret (.tup []),BJ H p g (A++(W++(W2++B)))):=fun W G hW hG=>by
  have hWl:=hW.len
  rw [Y2]at hWl
  have e1:A++(W++(U2++(V2++B)))=(A++W)++(U2++(V2++B)):=by rw [Y1]
  have hlen:((A++W)++(U2++(V2++B))).length=(A++(U++(V++(U2++(V2++B))))).length:=by simp only [Y2];omega
  have hAW:(A++W).length=A.length+U.length+V.length:=by rw [Y2];omega
  have hr:CT G p g ((A++W)++(U2++(V2++B))):=by rw [hG,e1];exact CY h
  obtain ⟨W2,w1,w2⟩:=sym_j8 (H0:=H0) hs hn2 hr hU2 hV2 (fun c hc=>hm c (by
   rw [←e1]at hc
   simp only [YN]at hc ⊢
   rcases hc with hc | hc | hc | hc | hc
   ·exact .inl hc
   ·have:=(hW.st.mem Mm).2 hc
    rcases YN.1 this with q | q
    ·exact .inr (.inl q)
    ·exact .inr (.inr (.inl q))
   ·exact .inr (.inr (.inr (.inl hc)))
   ·exact .inr (.inr (.inr (.inr (.inl hc))))
   ·exact .inr (.inr (.inr (.inr (.inr hc)))))) (by rw [hlen];exact hl)
  refine ⟨W2,w1,?_⟩
  rw [hlen,hAW]at w2
  rw [w2,hG,B5,Y1]
 have d:∀t:Bool,True:=fun _=>trivial
 unfold Sh.f5p
 by_cases h1:0<U.length
 ·have d1:decide ((A.length:Int)<((A.length+U.length:Nat):Int))=true:=decide_eq_true (by omega)
  by_cases h2:0<V.length
  ·have d2:decide (((A.length+U.length:Nat):Int)<((A.length+U.length+V.length:Nat):Int))=true:=decide_eq_true (by omega)
   obtain ⟨W,w1,w2⟩:=hs _ hn A U V (U2++(V2++B)) H rfl h h1 h2 hU hV hm hl
   obtain ⟨W2,w3,w4⟩:=second W _ w1 rfl
   refine ⟨W,W2,w1,w3,?_⟩
   simp only [Al,Ai,Bb,Bf,B2,BK,GMb,GMc,d1,d2,w2]
   exact w4
  ·have d2:decide (((A.length+U.length:Nat):Int)<((A.length+U.length+V.length:Nat):Int))=false:=decide_eq_false (by omega)
   have hv:V=[]:=YE (by omega)
   have w1:=Ug hU hV (.inr hv)
   obtain ⟨W2,w3,w4⟩:=second (U++V) H w1 (by rw [Y1,CG h])
   refine ⟨_,W2,w1,w3,?_⟩
   simp only [Al,Ai,Bb,Bf,B2,BK,GMb,GMc,d1,d2]
   exact w4
 ·have d1:decide ((A.length:Int)<((A.length+U.length:Nat):Int))=false:=decide_eq_false (by omega)
  have hu:U=[]:=YE (by omega)
  have w1:=Ug hU hV (.inl hu)
  obtain ⟨W2,w3,w4⟩:=second (U++V) H w1 (by rw [Y1,CG h])
  refine ⟨_,W2,w1,w3,?_⟩
  simp only [Al,Ai,Bb,Bf,B2,BK,GMb,GMc,d1]
  exact w4

end
section
variable {p g:Nat} {f:Ab} {l0:List Cl} {A B:List Cl}
theorem sym_l6 {self:Ab→Ab→Ab→Ab→Ab→Aa→Out} (hf:Xj f l0) {l:List Cl} {a m b mid n s0 r0 P:Nat} {H0 H:Aa} (h:CT H p g l) (hm:∀c∈l,c∈l0) (hsr:s0≤r0) (hr:r0≤l.length) (hP:∀c,s0≤c→c<r0→P-c<l.length∧c≤P) (hPl:P<2000000000) (hl:l.length<1000000000)
  (mono:∀c d,s0≤c→c≤d→d<r0→UM ltC l P d=true→UM ltC l P c=true) :
  ∃s,BsI (UM ltC l P) s0 r0 s s∧∃rec,Ao (fun rec6 vs H1=>Sh.fw H0 self rec6 (ag vs 0) (ag vs 1) (ag vs 2) (ag vs 3) (ag vs 4) (ag vs 5) (ag vs 6) (ag vs 7) (ag vs 8) (ag vs 9) H1) AK
    [dV p g l.length,.int .i64 (a:Int),.int .i64 (m:Int),.int .i64 (b:Int),f,.int .i64 (mid:Int),.int .i64 (n:Int),.int .i64 (s0:Int),.int .i64 (r0:Int),.int .i64 (P:Int)] H =
   Sh.fw H0 self rec (dV p g l.length) (.int .i64 (a:Int)) (.int .i64 (m:Int)) (.int .i64 (b:Int)) f (.int .i64 (mid:Int)) (.int .i64 (n:Int)) (.int .i64 (s:Int)) (.int .i64 (s:Int)) (.int .i64 (P:Int)) H:=by
 have key:=Ep (G:=fun rec6 vs H1=>Sh.fw H0 self rec6 (ag vs 0) (ag vs 1) (ag vs 2) (ag vs 3) (ag vs 4) (ag vs 5) (ag vs 6) (ag vs 7) (ag vs 8) (ag vs 9) H1) (σ:=Nat×Nat)
  (fun s vs H1=>BsI (UM ltC l P) s0 r0 s.1 s.2∧vs=[dV p g l.length,.int .i64 (a:Int),.int .i64 (m:Int),.int .i64 (b:Int),f,.int .i64 (mid:Int),.int .i64 (n:Int),.int .i64 (s.1:Int),.int .i64 (s.2:Int),.int .i64 (P:Int)]∧H1=H) (fun s=>s.2-s.1) (fun s=>¬s.1<s.2) (fun s vs H1 hI hd=>?_)
  (s:=(s0,r0)) (vs:=[dV p g l.length,.int .i64 (a:Int),.int .i64 (m:Int),.int .i64 (b:Int),f,.int .i64 (mid:Int),.int .i64 (n:Int),.int .i64 (s0:Int),.int .i64 (r0:Int),.int .i64 (P:Int)]) (H:=H) ⟨.start hsr,rfl,rfl⟩ (by dsimp only;omega)
 ·obtain ⟨⟨i,j⟩,vs,H1,hd,⟨hI,rfl,rfl⟩,rec,hloop⟩:=key
  dsimp only at hI hd hloop
  obtain ⟨q1,q2,q3⟩:=hI.le
  have e:j=i:=by omega
  subst e
  exact ⟨j,hI,rec,hloop⟩
 ·obtain ⟨i,j⟩:=s
  obtain ⟨hI,rfl,rfl⟩:=hI
  dsimp only at hI hd ⊢
  obtain ⟨q1,q2,q3⟩:=hI.le
  have hij:i<j:=by omega
  obtain ⟨k,hk⟩:∃k,k=(i+j) / 2:=⟨_,rfl⟩
  obtain ⟨w1,w2,w3,w4⟩:=Ro (i:=i) (j:=j) (by omega) (by omega)
  rw [←hk]at w3 w4
  have hkl:k<l.length:=by omega
  obtain ⟨hPk,hkP⟩:=hP k (by omega) (by omega)
  have c1:=hf self l[P-k] (hm _ (Y8 hPk)) l[k] (hm _ (Y8 hkl))
  have hd2:decide ((i:Int)<(j:Int))=true:=decide_eq_true (by omega)
  have hwk:=Av (show k<9223372036854775807 by omega)
  have hwp:IntKind.i64.wrap ((P:Int)-(k:Int))=((P-k:Nat):Int):=by rw [Am] <;> omega
  have hlt:IA ltC l (P-k) k=ltC l[P-k] l[k]:=Uk hPk hkl
  have hp:UM ltC l P k = !ltC l[P-k] l[k]:=by unfold UM;rw [hlt]
  cases hc:ltC l[P-k] l[k]with
  | false=>
   refine ⟨(k+1,j),_,_,by dsimp only;omega,⟨hI.yes mono (by omega) (by omega) (by rw [hp,hc];rfl),rfl,rfl⟩,fun rec=>?_⟩
   unfold Sh.fw
   simp only [Al,Ai,Bb,Bf,B2,BK,GMb,GMc,hd2,w1,w2,w3,w4,hwp,BS hkl,BS hPk,C3 h hkl,C3 h hPk,BN,c1,B6,Le,hc,hwk]
  | true=>
   refine ⟨(i,k),_,_,by dsimp only;omega,⟨hI.no mono (by omega) (by omega) (by rw [hp,hc];rfl),rfl,rfl⟩,fun rec=>?_⟩
   unfold Sh.fw
   simp only [Al,Ai,Bb,Bf,B2,BK,GMb,GMc,hd2,w1,w2,w3,w4,hwp,BS hkl,BS hPk,C3 h hkl,C3 h hPk,BN,c1,B6,Le,hc]
theorem sym_step (hf:Xj f l0) {d n:Nat} (hs:∀n',n'<n→SymOk p g f l0 (Sh.f5 d) n'):SymOk p g f l0 (Sh.f5 (d+1)) n:=by
 intro A U V B H hn h hUp hVp hU hV hm hl
 obtain ⟨l,hL⟩:∃l,l=A++(U++(V++B)):=⟨_,rfl⟩
 have hlen:l.length=A.length+(U.length+(V.length+B.length)):=by rw [hL];simp only [Y2]
 have hl2:l.length<1000000000:=by rw [hL];exact hl
 show ∃W,_∧Sh.f76 (Sh.f5 d) _ _ _ _ _ H=_
 unfold Sh.f76
 have hw1:IntKind.i64.wrap (((A.length+U.length:Nat):Int)-(A.length:Int))=(U.length:Int):=by rw [Am] <;> omega
 by_cases h1:U.length=1
 ·obtain ⟨x,rfl⟩:=ZZ.1 h1
  have hd1:((([x]:List Cl).length:Int) == 1)=true:=by simp
  have hat:l[A.length]? = some x:=by rw [hL];simp
  have hltA:∀c,A.length+1≤c→c<A.length+1+V.length→∃hc:c-(A.length+1)<V.length,IA ltC l c A.length=ltC V[c-(A.length+1)] x:=fun c h3 h4=>by
   have hc:c-(A.length+1)<V.length:=by omega
   refine ⟨hc,?_⟩
   have e:l[c]? = some V[c-(A.length+1)]:=by
    rw [hL,at_V rfl rfl (by simpa using h3) (by simpa using h4)];rfl
   unfold IA
   rw [hat,e]
  obtain ⟨s,b1,b2⟩:=sym_l1 (self:=Sh.f5 d) (H0:=H) (a:=A.length) (m:=A.length+1) (b:=A.length+1+V.length) hf (l:=l) (by rw [hL];exact h) (by rw [hL];exact hm) (by rw [hlen];simp only [List.length_cons,List.length_nil];omega) (by omega) (by rw [hlen];simp only [List.length_cons,List.length_nil];omega) hl2 (fun c d hc1 hc2 hc3 hc4=>by
   obtain ⟨e1,e2⟩:=hltA c hc1 (by omega)
   obtain ⟨e3,e4⟩:=hltA d (by omega) hc3
   rw [e2]
   rw [e4]at hc4
   cases e:ltC V[c-(A.length+1)] x with
   | true=>rfl
   | false=>
    have:=HF hV Mm (i:=c-(A.length+1)) (j:=d-(A.length+1)) (by omega) e3
    have:=Mm.neg _ _ _ this e
    rw [hc4]at this;cases this)
  obtain ⟨⟨g1,_,g2⟩,g3,g4⟩:=b1
  have hup:=sym_up (H0:=H) (p:=p) (g:=g) (l:=l) (i:=s) (a:=A.length) (H:=H) (by rw [hL];exact h) (by rw [hlen];simp only [List.length_cons,List.length_nil]at *;omega) (by omega) hl2
  have hres:=upR_ok A B x V (s-1-A.length) (by omega)
  refine ⟨V.take (s-1-A.length)++([x]++V.drop (s-1-A.length)),one_up Mm hV (fun y hy=>?_) (fun y hy=>?_),?_⟩
  ·obtain ⟨i,hi,hi2,rfl⟩:=If hy
   have:=g3 (A.length+1+i) (by omega) (by omega)
   obtain ⟨e1,e2⟩:=hltA (A.length+1+i) (by omega) (by omega)
   rw [e2]at this
   have e3:A.length+1+i-(A.length+1)=i:=by omega
   simp only [e3]at this
   exact this
  ·obtain ⟨i,hi,hi2,rfl⟩:=Ig hy
   have:=g4 (A.length+1+i) (by omega) (by omega)
   obtain ⟨e1,e2⟩:=hltA (A.length+1+i) (by omega) (by omega)
   rw [e2]at this
   have e3:A.length+1+i-(A.length+1)=i:=by omega
   simp only [e3]at this
   exact this
  ·rw [←hL]
   simp only [GMb,GMc,hw1,hd1]
   have eb:A.length+([x]:List Cl).length=A.length+1:=rfl
   rw [eb,b2,hup,hL,hres]
 ·have hd1:((U.length:Int) == 1)=false:=by simp;omega
  have hw2:IntKind.i64.wrap (((A.length+U.length+V.length:Nat):Int)-((A.length+U.length:Nat):Int))=(V.length:Int):=by rw [Am] <;> omega
  by_cases h2:V.length=1
  ·obtain ⟨y,rfl⟩:=ZZ.1 h2
   have hd2:((([y]:List Cl).length:Int) == 1)=true:=by simp
   have hat:l[A.length+U.length]? = some y:=by
    rw [hL,at_V rfl rfl (Yz _) (by simp)];simp
   have hltA:∀c,A.length≤c→c<A.length+U.length→∃hc:c-A.length<U.length,IA ltC l (A.length+U.length) c=ltC y U[c-A.length]:=fun c h3 h4=>by
    have hc:c-A.length<U.length:=by omega
    refine ⟨hc,?_⟩
    have e:l[c]? = some U[c-A.length]:=by rw [hL,at_U rfl h3 h4]
    unfold IA
    rw [hat,e]
   obtain ⟨s,b1,b2⟩:=sym_l3 (self:=Sh.f5 d) (H0:=H) (a:=A.length) (m:=A.length+U.length) hf (l:=l) (by rw [hL];exact h) (by rw [hL];exact hm) (by omega) (by rw [hlen];simp only [List.length_cons,List.length_nil];omega) hl2 (fun c d hc1 hc2 hc3 hc4=>by
    obtain ⟨e1,e2⟩:=hltA c hc1 (by omega)
    obtain ⟨e3,e4⟩:=hltA d (by omega) hc3
    rw [e2]
    rw [e4]at hc4
    simp only [Zv]at hc4 ⊢
    have:=HF hU Mm (i:=c-A.length) (j:=d-A.length) (by omega) e3
    exact Mm.neg _ _ _ hc4 this)
   obtain ⟨⟨g1,_,g2⟩,g3,g4⟩:=b1
   have hdn:=sym_dn (H0:=H) (p:=p) (g:=g) (l:=l) (i:=s) (m:=A.length+U.length) (H:=H) (by rw [hL];exact h) g2 (by rw [hlen];simp only [List.length_cons,List.length_nil];omega) hl2
   have hres:=dnR_ok A B y U (A.length+U.length-s) (by omega)
   have ek:U.length-(A.length+U.length-s)=s-A.length:=by omega
   rw [ek]at hres
   refine ⟨U.take (s-A.length)++([y]++U.drop (s-A.length)),one_dn Mm hU (fun x hx=>?_) (fun x hx=>?_),?_⟩
   ·obtain ⟨i,hi,hi2,rfl⟩:=If hx
    have:=g3 (A.length+i) (by omega) (by omega)
    obtain ⟨e1,e2⟩:=hltA (A.length+i) (by omega) (by omega)
    rw [e2]at this
    have e3:A.length+i-A.length=i:=by omega
    simp only [e3,Zv]at this
    exact this
   ·obtain ⟨i,hi,hi2,rfl⟩:=Ig hx
    have:=g4 (A.length+i) (by omega) (by omega)
    obtain ⟨e1,e2⟩:=hltA (A.length+i) (by omega) (by omega)
    rw [e2]at this
    have e3:A.length+i-A.length=i:=by omega
    simp only [e3,Qbf]at this
    exact this
   ·rw [←hL]
    simp only [GMb,GMc,hw1,hw2,hd1,hd2]
    rw [b2,hdn,hL,hres]
  ·have hd2:((V.length:Int) == 1)=false:=by simp;omega
   obtain ⟨a,ha⟩:∃a,a=A.length:=⟨_,rfl⟩
   obtain ⟨m,hmm⟩:∃m,m=A.length+U.length:=⟨_,rfl⟩
   obtain ⟨b,hb⟩:∃b,b=A.length+U.length+V.length:=⟨_,rfl⟩
   obtain ⟨mid,hmid⟩:∃mid,mid=(a+b) / 2:=⟨_,rfl⟩
   obtain ⟨w1,w2,w3,w4⟩:=Ro (i:=a) (j:=b) (by omega) (by omega)
   rw [←hmid]at w3 w4
   have hw5:IntKind.i64.wrap ((mid:Int)+(m:Int))=((mid+m:Nat):Int):=by rw [Am] <;> omega
   obtain ⟨s0,hs0⟩:∃s0,s0=if mid<m then mid+m-b else a:=⟨_,rfl⟩
   obtain ⟨r0,hr0⟩:∃r0,r0=if mid<m then mid else m:=⟨_,rfl⟩
   have hsr:s0≤r0∧r0≤m∧a≤s0∧mid+m≤s0+b∧r0≤mid:=by
    by_cases hc:mid<m
    ·rw [if_pos hc]at hs0 hr0;omega
    ·rw [if_neg hc]at hs0 hr0;omega
   obtain ⟨z1,z2,z3,z4,z5⟩:=hsr
   obtain ⟨s,b1,rec,b2⟩:=sym_l6 (self:=Sh.f5 d) (H0:=H) (a:=a) (m:=m) (b:=b) (mid:=mid) (n:=mid+m) (s0:=s0) (r0:=r0) (P:=mid+m-1) hf (l:=l) (H:=H) (by rw [hL];exact h) (by rw [hL];exact hm) z1 (by omega) (fun c h3 h4=>by omega) (by omega) (by rw [hL];exact hl)
    (fun c e h3 h4 h5 h6=>by
     rw [hL]at h6 ⊢
     exact symP_mono Mm hU hV ha.symm (show a+U.length=m by omega) (by omega) h4 (by omega) (by omega) (by omega) h6)
   have b1':=b1
   rw [hL]at b1'
   obtain ⟨p1,p2,p3,p4,p5,p6,p7⟩:=sym_split Mm hU hV ha.symm (show a+U.length=m by omega) (show m+V.length=b by omega) hmid hUp hVp hs0 hr0 b1'
   have l1:(U.take (s-a)).length=s-a:=by rw [YC];omega
   have l2:(V.take (mid-s)).length=mid-s:=by rw [YC];omega
   have l3:(U.drop (s-a)).length=m-s:=by rw [YG];omega
   have l4:(V.drop (mid-s)).length=b-(mid+m-s):=by rw [YG];omega
   have sU1:Ez ltC (U.take (s-a)):=Z3 (QaH _ _) hU
   have sU2:Ez ltC (U.drop (s-a)):=Z3 (QaJ _ _) hU
   have sV1:Ez ltC (V.take (mid-s)):=Z3 (QaH _ _) hV
   have sV2:Ez ltC (V.drop (mid-s)):=Z3 (QaJ _ _) hV
   have eU:U.take (s-a)++U.drop (s-a)=U:=Zk _ _
   have eV:V.take (mid-s)++V.drop (mid-s)=V:=Zk _ _
   have hmem:∀c,c∈A++(U.take (s-a)++(V.take (mid-s)++(U.drop (s-a)++(V.drop (mid-s)++B))))→c∈l0:=fun c hc=>hm c (by
    simp only [YN]at hc ⊢
    rcases hc with q | q | q | q | q | q
    ·exact .inl q
    ·exact .inr (.inl (Z1 q))
    ·exact .inr (.inr (.inl (Z1 q)))
    ·exact .inr (.inl (ZP q))
    ·exact .inr (.inr (.inl (ZP q)))
    ·exact .inr (.inr (.inr q)))
   have hlen2:(A++(U.take (s-a)++(V.take (mid-s)++(U.drop (s-a)++(V.drop (mid-s)++B))))).length=l.length:=by
    rw [hlen];simp only [Y2,l1,l2,l3,l4];omega
   generalize U.take (s-a)=U1 at *
   generalize U.drop (s-a)=U2 at *
   generalize V.take (mid-s)=V1 at *
   generalize V.drop (mid-s)=V2 at *
   have rest:∀G,G=BJ H p g (A++(U1++(V1++(U2++(V2++B)))))→∃W W2,Srt ltC (U1++V1) W∧Srt ltC (U2++V2) W2∧Sh.f5p H (Sh.f5 d) (dV p g l.length) (.int .i64 (a:Int)) (.int .i64 (b:Int)) f (.int .i64 (mid:Int)) (.int .i64 (s:Int)) (.int .i64 ((mid+m-s:Nat):Int)) G =
     some (.ret (.tup []),BJ H p g (A++(W++(W2++B)))):=fun G hG=>by
    obtain ⟨W,W2,k1,k2,k3⟩:=sym_j7 (H0:=H) (H:=G) (p:=p) (g:=g) (f:=f) (l0:=l0) (A:=A) (U:=U1) (V:=V1) (U2:=U2) (V2:=V2) (B:=B) (n:=n) hs (by omega) (by omega) (by rw [hG];exact CY h) sU1 sV1 sU2 sV2 hmem (by rw [hlen2,hL];exact hl)
    refine ⟨W,W2,k1,k2,?_⟩
    rw [hlen2,←ha,show a+U1.length=s by omega,show s+V1.length=mid by omega,show mid+U2.length=mid+m-s by omega,show mid+m-s+V2.length=b by omega]at k3
    rw [k3,hG,B5]
   have hwe:IntKind.i64.wrap (((mid+m:Nat):Int)-(s:Int))=((mid+m-s:Nat):Int):=by rw [Am] <;> omega
   have hds:decide ((s:Int)<(s:Int))=false:=decide_eq_false (by omega)
   have hwp:IntKind.i64.wrap (((mid+m:Nat):Int)-1)=((mid+m-1:Nat):Int):=by rw [Am] <;> omega
   have after:∃W W2,Srt ltC (U1++V1) W∧Srt ltC (U2++V2) W2∧Sh.fw H (Sh.f5 d) rec (dV p g l.length) (.int .i64 (a:Int)) (.int .i64 (m:Int)) (.int .i64 (b:Int)) f (.int .i64 (mid:Int)) (.int .i64 ((mid+m:Nat):Int)) (.int .i64 (s:Int)) (.int .i64 (s:Int)) (.int .i64 ((mid+m-1:Nat):Int)) H =
     some (.ret (.tup []),BJ H p g (A++(W++(W2++B)))):=by
    by_cases t1:s<m
    ·have c1:decide ((s:Int)<(m:Int))=true:=decide_eq_true (by omega)
     by_cases t2:m<mid+m-s
     ·have c2:decide ((m:Int)<((mid+m-s:Nat):Int))=true:=decide_eq_true (by omega)
      have e1:l=(A++U1)++(U2++(V1++(V2++B))):=by
       rw [hL,←eU,←eV];simp only [Y1]
      have hrot:=rotate_ok (p:=p) (g:=g) (f:=f) (a:=s) (b:=mid+m-s) (m:=m) (A:=A++U1) (U:=U2) (V:=V1) (B:=V2++B) (H:=H) (by rw [←e1,hL];exact h) (by rw [Y2];omega) (by omega) (by omega) (by omega) (by omega) (by rw [←e1,hL];exact hl)
      rw [←e1]at hrot
      obtain ⟨W,W2,k1,k2,k3⟩:=rest _ rfl
      refine ⟨W,W2,k1,k2,?_⟩
      have e2:(A++U1)++((V1++U2)++(V2++B))=A++(U1++(V1++(U2++(V2++B)))):=by simp only [Y1]
      rw [e2]at hrot
      unfold Sh.fw
      simp only [Al,Ai,Bb,Bf,B2,BK,D8,GMb,GMc,hds,hwe,c1,c2,hrot]
      exact k3
     ·have c2:decide ((m:Int)<((mid+m-s:Nat):Int))=false:=decide_eq_false (by omega)
      have hv1:V1=[]:=YE (by omega)
      obtain ⟨W,W2,k1,k2,k3⟩:=rest H (by
       rw [show A++(U1++(V1++(U2++(V2++B))))=A++(U++(V++B))by
        rw [←eU,←eV,hv1];simp only [Y1,List.nil_append],CG h])
      refine ⟨W,W2,k1,k2,?_⟩
      unfold Sh.fw
      simp only [Al,Ai,Bb,Bf,B2,BK,D8,GMb,GMc,hds,hwe,c1,c2]
      exact k3
    ·have c1:decide ((s:Int)<(m:Int))=false:=decide_eq_false (by omega)
     have hu2:U2=[]:=YE (by omega)
     obtain ⟨W,W2,k1,k2,k3⟩:=rest H (by
      rw [show A++(U1++(V1++(U2++(V2++B))))=A++(U++(V++B))by
       rw [←eU,←eV,hu2];simp only [Y1,List.nil_append,YP],CG h])
     refine ⟨W,W2,k1,k2,?_⟩
     unfold Sh.fw
     simp only [Al,Ai,Bb,Bf,B2,BK,D8,GMb,GMc,hds,hwe,c1]
     exact k3
   obtain ⟨W,W2,k1,k2,k3⟩:=after
   have hsplit:Srt ltC (U++V) (W++W2):=by
    have l5:U.take U1.length=U1∧U.drop U1.length=U2:=by rw [←eU];exact ⟨QaA,QaD⟩
    have l6:V.take V1.length=V1∧V.drop V1.length=V2:=by rw [←eV];exact ⟨QaA,QaD⟩
    exact RV (i:=U1.length) (k:=V1.length) Mm hU hV (by rw [l5.2,l6.1];exact p1) (by rw [l5.1,l6.2];exact p2) (by rw [l5.1,l6.1];exact k1) (by rw [l5.2,l6.2];exact k2)
   refine ⟨W++W2,hsplit,?_⟩
   rw [←hL,←hb,←hmm,←ha]
   rw [←hmm,show m+V.length=b by omega]at hw2
   rw [←hmm,←ha]at hw1
   have j5:∀x y:Nat,x=s0→y=r0→Sh.f75 H (Sh.f5 d) (dV p g l.length) (.int .i64 (a:Int)) (.int .i64 (m:Int)) (.int .i64 (b:Int)) f (.int .i64 (mid:Int)) (.int .i64 ((mid+m:Nat):Int)) (.int .i64 (x:Int)) (.int .i64 (y:Int)) H=some (.ret (.tup []),BJ H p g (A++((W++W2)++B))):=fun x y hx hy=>by
    subst hx;subst hy
    unfold Sh.f75
    simp only [GMb,GMc,hwp]
    rw [b2,k3,Y1]
   by_cases hc:mid<m
   ·have c3:decide ((m:Int)>(mid:Int))=true:=decide_eq_true (by omega)
    have hw6:IntKind.i64.wrap (((mid+m:Nat):Int)-(b:Int))=((mid+m-b:Nat):Int):=by
     rw [if_pos hc]at hs0
     rw [Am] <;> omega
    simp only [Al,Ai,Bb,Bf,B2,BK,D8,GMb,GMc,hw1,hw2,hd1,hd2,w1,w2,w3,w4,hw5,c3,hw6]
    exact j5 _ _ (by rw [hs0,if_pos hc]) (by rw [hr0,if_pos hc])
   ·have c3:decide ((m:Int)>(mid:Int))=false:=decide_eq_false (by omega)
    simp only [Al,Ai,Bb,Bf,B2,BK,D8,GMb,GMc,hw1,hw2,hd1,hd2,w1,w2,w3,w4,hw5,c3]
    exact j5 _ _ (by rw [hs0,if_neg hc]) (by rw [hr0,if_neg hc])
theorem sym_all (hf:Xj f l0):∀d n,n<d→SymOk p g f l0 (Sh.f5 d) n
 | 0,n,h=>absurd h (by omega)
 | d+1,n,h=>sym_step hf fun n' hn'=>sym_all hf d n' (by omega)

end
theorem Stg.split {w n a:Nat} {l l':List Cl} (hw:0<w) (hd:w ∣ a) (hn:n≤w) (hl:a+n≤l.length) (h:Stg ltC w l a l') :
  ∃A,A.length=a∧l'=A++((l.drop a).take n++l.drop (a+n))∧(∀c∈A,c∈l)∧∀P2,Srt ltC ((l.drop a).take n) P2→Stg ltC w l (a+n) (A++(P2++l.drop (a+n))):=by
 obtain ⟨P,h1,hP,hst,hb⟩:=h.ex
 refine ⟨P,hP,?_,fun c hc=>?_,fun P2 h2=>?_⟩
 ·rw [h1]
  congr 1
  rw [←ZG,Zk]
 ·exact Z1 ((hst.mem Mm).2 hc)
 ·have hlen:P2.length=n:=by rw [h2.len,YC,YG];omega
  refine ⟨P++P2,by rw [Y1],by rw [Y2,hP,hlen],?_,PV.app hw (by rw [hP];exact hd) hb h2.srt (by omega)⟩
  rw [List.take_add]
  exact hst.app h2.st
theorem Stg.mem {w a:Nat} {l l':List Cl} (h:Stg ltC w l a l') {c:Cl} (hc:c∈l'):c∈l:=by
 obtain ⟨P,h1,hP,hst,hb⟩:=h.ex
 rw [h1]at hc
 rcases YN.1 hc with q | q
 ·exact Z1 ((hst.mem Mm).2 q)
 ·exact ZP q
section
variable {p g:Nat} {f:Ab} {l0:List Cl}
theorem XO (hf:WA AB f l0) {l L:List Cl} {a n w:Nat} {H:Aa} (h:CT H p g L) (hm:∀c∈l,c∈l0) (hst:Stg ltC w l a L) (hw:0<w) (hd:w ∣ a) (hn:n≤w) (hal:a+n≤l.length) (hl:l.length<1000000000) :
  ∃L',Stg ltC w l (a+n) L'∧Sh.fv (dV p g l.length) (.int .i64 (a:Int)) (.int .i64 ((a+n:Nat):Int)) f H=some (.ret (.tup []),BJ H p g L'):=by
 have hlen:=hst.len (by omega)
 have hin:=ins_sort (a:=a) (b:=a+n) hf h (fun c hc=>hm c (hst.mem hc)) (by omega) (by omega) (by omega)
 rw [hlen]at hin
 obtain ⟨A,hA,hL,_,hP⟩:=hst.split hw hd hn hal
 by_cases h0:n=0
 ·subst h0
  refine ⟨L,?_,?_⟩
  ·rw [Nat.add_zero];exact hst
  ·rw [hin]
   congr 3
   rw [show a+0-a-1=0 by omega];rfl
 ·have hSl:((l.drop a).take n).length=n:=by rw [YC,YG];omega
  obtain ⟨P,q1,q2⟩:=insN_ok Mm A (n-1) ((l.drop a).take n) (l.drop (a+n)) (by omega)
  refine ⟨_,hP P q2,?_⟩
  rw [hin,show a+n-a-1=n-1 by omega,←q1,←hL,hA]
theorem Xp (hf:Xj f l0) {l L:List Cl} {a n bs:Nat} {H:Aa} (h:CT H p g L) (hm:∀c∈l,c∈l0) (hst:Stg ltC (2*bs) l a L) (hbs:0<bs) (hd:2*bs ∣ a) (hup:PV ltC bs l) (hn:bs<n) (hn2:n≤2*bs) (hal:a+n≤l.length) (hl:l.length<1000000000) :
  ∃L',Stg ltC (2*bs) l (a+n) L'∧Sh.f5 AK (dV p g l.length) (.int .i64 (a:Int)) (.int .i64 ((a+bs:Nat):Int)) (.int .i64 ((a+n:Nat):Int)) f H=some (.ret (.tup []),BJ H p g L'):=by
 have hlen:=hst.len (by omega)
 obtain ⟨A,hA,hL,_,hP⟩:=hst.split (by omega) hd hn2 hal
 have hda:bs ∣ a:=Nat.dvd_trans ⟨2,by omega⟩ hd
 have sU:=hup.block hbs hda bs (Yz _)
 have sV:=hup.block hbs (show bs ∣ a+bs from (Qbh hda).2 (Nat.dvd_refl _)) (n-bs) (by omega)
 have hS:(l.drop a).take n=(l.drop a).take bs++(l.drop (a+bs)).take (n-bs):=by
  rw [show n=bs+(n-bs)by omega,List.take_add,ZG]
  congr 2;omega
 have lU:((l.drop a).take bs).length=bs:=by rw [YC,YG];omega
 have lV:((l.drop (a+bs)).take (n-bs)).length=n-bs:=by rw [YC,YG];omega
 rw [hS]at hL hP
 rw [Y1]at hL
 have hall:=sym_all (p:=p) (g:=g) hf AK (((l.drop a).take bs).length+((l.drop (a+bs)).take (n-bs)).length) (by rw [Dg];omega) A ((l.drop a).take bs) ((l.drop (a+bs)).take (n-bs)) (l.drop (a+n)) H rfl (by rw [←hL];exact h) (by omega) (by omega) sU sV
  (fun c hc=>by rw [←hL]at hc;exact hm c (hst.mem hc)) (by rw [←hL,hlen];exact hl)
 obtain ⟨W,w1,w2⟩:=hall
 refine ⟨_,hP W w1,?_⟩
 rw [←hL,hlen,hA,lU,lV,show a+bs+(n-bs)=a+n by omega]at w2
 exact w2
theorem sym_round (hf:Xj f l0) {l:List Cl} {bs:Nat} {H0 H:Aa} (h:CT H p g l) (hm:∀c∈l,c∈l0) (hbs:0<bs) (hup:PV ltC bs l) (hbn:bs<l.length) (hl:l.length<1000000000) :
  ∃L,Fw ltC l L∧PV ltC (2*bs) L∧L.length=l.length∧∀rec2:LK,Ao (fun rec3 vs H1=>Sh.f36 H0 rec2 rec3 (ag vs 0) (ag vs 1) (ag vs 2) (ag vs 3) (ag vs 4) (ag vs 5) H1) AK [dV p g l.length,.int .i64 (l.length:Int),f,.int .i64 (bs:Int),.int .i64 0,.int .i64 ((2*bs:Nat):Int)] H =
   rec2 [dV p g l.length,.int .i64 (l.length:Int),f,.int .i64 ((2*bs:Nat):Int)] (BJ H p g L):=by
 have key:=Tl (ι:=LK) (G:=fun rec2 rec3 vs H1=>Sh.f36 H0 rec2 rec3 (ag vs 0) (ag vs 1) (ag vs 2) (ag vs 3) (ag vs 4) (ag vs 5) H1) (σ:=Nat×List Cl)
  (fun s vs H1=>Stg ltC (2*bs) l s.1 s.2∧2*bs ∣ s.1∧s.1≤l.length∧vs=[dV p g l.length,.int .i64 (l.length:Int),f,.int .i64 (bs:Int),.int .i64 (s.1:Int),.int .i64 ((s.1+2*bs:Nat):Int)]∧H1=BJ H p g s.2) (fun s=>l.length-s.1) (fun s=>¬s.1+2*bs≤l.length) (fun s vs H1 hI hd=>?_)
  (s:=(0,l)) (vs:=[dV p g l.length,.int .i64 (l.length:Int),f,.int .i64 (bs:Int),.int .i64 0,.int .i64 ((2*bs:Nat):Int)]) (H:=H) ⟨.start _ _,Nat.dvd_zero _,YL _,by simp,(CG h).symm⟩ (by dsimp only;omega)
 ·obtain ⟨⟨a,L⟩,vs,H1,hd,⟨hst,hdv,hal,rfl,rfl⟩,hloop⟩:=key
  dsimp only at hst hdv hal hd hloop
  have hr:CT (BJ H p g L) p g L:=CY h
  have d1:decide (((a+2*bs:Nat):Int)≤(l.length:Int))=false:=decide_eq_false (by omega)
  have hw1:IntKind.i64.wrap ((a:Int)+(bs:Int))=((a+bs:Nat):Int):=by rw [Am] <;> omega
  have hw2:IntKind.i64.wrap ((bs:Int)*2)=((2*bs:Nat):Int):=by rw [Am] <;> omega
  by_cases hmn:a+bs<l.length
  ·have d2:decide (((a+bs:Nat):Int)<(l.length:Int))=true:=decide_eq_true (by omega)
   obtain ⟨L',q1,q2⟩:=Xp (n:=l.length-a) hf hr hm hst hbs hdv hup (by omega) (by omega) (by omega) hl
   rw [show a+(l.length-a)=l.length by omega]at q1 q2
   obtain ⟨r1,r2,r3⟩:=q1.all
   refine ⟨L',r1,r2,r3,fun rec2=>?_⟩
   obtain ⟨rec,hloop⟩:=hloop rec2
   rw [hloop]
   unfold Sh.f36 Sh.f77
   simp only [Al,Ai,Bb,Bf,B2,BK,D8,GMb,GMc,d1,hw1,d2,q2,hw2,B5]
  ·have d2:decide (((a+bs:Nat):Int)<(l.length:Int))=false:=decide_eq_false (by omega)
   obtain ⟨A,hA,hL,_,hP⟩:=hst.split (n:=l.length-a) (by omega) hdv (by omega) (by omega)
   have hda:bs ∣ a:=Nat.dvd_trans ⟨2,by omega⟩ hdv
   have q1:=hP _ ⟨hup.block hbs hda (l.length-a) (by omega),.refl _,rfl⟩
   rw [←hL,show a+(l.length-a)=l.length by omega]at q1
   obtain ⟨r1,r2,r3⟩:=q1.all
   refine ⟨L,r1,r2,r3,fun rec2=>?_⟩
   obtain ⟨rec,hloop⟩:=hloop rec2
   rw [hloop]
   unfold Sh.f36 Sh.f77
   simp only [Al,Ai,Bb,Bf,B2,BK,D8,GMb,GMc,d1,hw1,d2,hw2]
 ·obtain ⟨a,L⟩:=s
  obtain ⟨hst,hdv,hal,rfl,rfl⟩:=hI
  dsimp only at hst hdv hal hd ⊢
  have hr:CT (BJ H p g L) p g L:=CY h
  obtain ⟨L',q1,q2⟩:=Xp (n:=2*bs) hf hr hm hst hbs hdv hup (by omega) (by omega) (by omega) hl
  have d1:decide (((a+2*bs:Nat):Int)≤(l.length:Int))=true:=decide_eq_true (by omega)
  have hw1:IntKind.i64.wrap ((a:Int)+(bs:Int))=((a+bs:Nat):Int):=by rw [Am] <;> omega
  have hw2:IntKind.i64.wrap (2*(bs:Int))=((2*bs:Nat):Int):=by rw [Am] <;> omega
  have hw3:IntKind.i64.wrap (((a+2*bs:Nat):Int)+((2*bs:Nat):Int))=((a+2*bs+2*bs:Nat):Int):=by rw [Am] <;> omega
  refine ⟨(a+2*bs,L'),_,_,by dsimp only;omega,⟨q1,(Qbh hdv).2 (Nat.dvd_refl _),by dsimp only;omega,rfl,rfl⟩,fun rec2 rec=>?_⟩
  unfold Sh.f36
  simp only [Al,Ai,Bb,Bf,B2,BK,D8,GMb,GMc,d1,hw1,q2,hw2,hw3,B5]
theorem stable_ok (hf1:WA AB f l0) (hf2:Xj f l0) {l:List Cl} {H:Aa} (h:CT H p g l) (hm:∀c∈l,c∈l0) (hl:l.length<1000000000) :
  ∃S,Ez ltC S∧Fw ltC l S∧S.length=l.length∧Sh.f1i (dV p g l.length) (.int .i64 (l.length:Int)) f H=some (.ret (.tup []),BJ H p g S):=by
 unfold Sh.f1i
 have rounds:∀(L:List Cl),Fw ltC l L→PV ltC 20 L→L.length=l.length→∃S,Ez ltC S∧Fw ltC l S∧S.length=l.length ∧
   Ao (fun rec2 vs H1=>Sh.f23 H rec2 (ag vs 0) (ag vs 1) (ag vs 2) (ag vs 3) H1) AK [dV p g l.length,.int .i64 (l.length:Int),f,.int .i64 20] (BJ H p g L)=some (.ret (.tup []),BJ H p g S):=fun L hL1 hL2 hL3=>by
  have key:=Ep (G:=fun rec2 vs H1=>Sh.f23 H rec2 (ag vs 0) (ag vs 1) (ag vs 2) (ag vs 3) H1) (σ:=Nat×List Cl)
   (fun s vs H1=>(Fw ltC l s.2∧PV ltC s.1 s.2∧s.2.length=l.length∧0<s.1)∧vs=[dV p g l.length,.int .i64 (l.length:Int),f,.int .i64 (s.1:Int)]∧H1=BJ H p g s.2) (fun s=>l.length-s.1) (fun s=>¬s.1<l.length) (fun s vs H1 hI hd=>?_)
   (s:=(20,L)) (vs:=[dV p g l.length,.int .i64 (l.length:Int),f,.int .i64 20]) (H:=BJ H p g L) ⟨⟨hL1,hL2,hL3,Nat.succ_pos _⟩,rfl,rfl⟩ (by dsimp only;omega)
  ·obtain ⟨⟨bs,S⟩,vs,H1,hd,⟨⟨i1,i2,i3,i4⟩,rfl,rfl⟩,rec,hloop⟩:=key
   dsimp only at i1 i2 i3 i4 hd hloop
   have d1:decide ((bs:Int)<(l.length:Int))=false:=decide_eq_false (by omega)
   refine ⟨S,i2.whole (by omega),i1,i3,?_⟩
   rw [hloop]
   unfold Sh.f23
   simp only [Al,Ai,Bb,Bf,B2,GMb,GMc,d1]
  ·obtain ⟨bs,L⟩:=s
   obtain ⟨⟨i1,i2,i3,i4⟩,rfl,rfl⟩:=hI
   dsimp only at i1 i2 i3 i4 hd ⊢
   have hr:CT (BJ H p g L) p g L:=CY h
   have d1:decide ((bs:Int)<(l.length:Int))=true:=decide_eq_true (by omega)
   have hw1:IntKind.i64.wrap (2*(bs:Int))=((2*bs:Nat):Int):=by rw [Am] <;> omega
   obtain ⟨L',q1,q2,q3,q4⟩:∃L',Fw ltC L L'∧PV ltC (2*bs) L'∧L'.length=L.length∧∀rec2:LK,Sh.f23 H rec2 (dV p g l.length) (.int .i64 (l.length:Int)) f (.int .i64 (bs:Int)) (BJ H p g L)=rec2 [dV p g l.length,.int .i64 (l.length:Int),f,.int .i64 ((2*bs:Nat):Int)] (BJ H p g L'):=by
    obtain ⟨L',q1,q2,q3,q4⟩:=sym_round (H0:=H) hf2 hr (fun c hc=>hm c ((i1.mem Mm).2 hc)) i4 i2 (by omega) (by omega)
    rw [i3]at q4
    refine ⟨L',q1,q2,q3,fun rec2=>?_⟩
    unfold Sh.f23
    simp only [GMb,GMc,d1,hw1]
    rw [q4 rec2,B5]
   refine ⟨(2*bs,L'),_,_,by dsimp only;omega,⟨⟨i1.trans q1,q2,by dsimp only;omega,by dsimp only;omega⟩,rfl,rfl⟩,fun rec=>?_⟩
   simp only [Al,Ai,Bb,Bf,B2]
   exact q4 rec
 have key:=Ep (G:=fun rec1 vs H1=>Sh.f4s H rec1 (ag vs 0) (ag vs 1) (ag vs 2) (ag vs 3) (ag vs 4) (ag vs 5) H1) (σ:=Nat×List Cl)
  (fun s vs H1=>(Stg ltC 20 l s.1 s.2∧20 ∣ s.1∧s.1≤l.length)∧vs=[dV p g l.length,.int .i64 (l.length:Int),f,.int .i64 20,.int .i64 (s.1:Int),.int .i64 ((s.1+20:Nat):Int)]∧H1=BJ H p g s.2) (fun s=>l.length-s.1) (fun s=>¬s.1+20≤l.length) (fun s vs H1 hI hd=>?_)
  (s:=(0,l)) (vs:=[dV p g l.length,.int .i64 (l.length:Int),f,.int .i64 20,.int .i64 0,.int .i64 20]) (H:=H) ⟨⟨.start _ _,Nat.dvd_zero _,YL _⟩,rfl,(CG h).symm⟩ (by dsimp only;omega)
 ·obtain ⟨⟨a,L⟩,vs,H1,hd,⟨⟨hst,hdv,hal⟩,rfl,rfl⟩,rec,hloop⟩:=key
  dsimp only at hst hdv hal hd hloop
  have hr:CT (BJ H p g L) p g L:=CY h
  obtain ⟨L',q1,q2⟩:=XO (n:=l.length-a) hf1 hr hm hst (by decide) hdv (by omega) (by omega) hl
  rw [show a+(l.length-a)=l.length by omega]at q1 q2
  obtain ⟨r1,r2,r3⟩:=q1.all
  obtain ⟨S,s1,s2,s3,s4⟩:=rounds L' r1 r2 r3
  refine ⟨S,s1,s2,s3,?_⟩
  have d1:decide (((a+20:Nat):Int)≤(l.length:Int))=false:=decide_eq_false (by omega)
  rw [hloop]
  unfold Sh.f4s
  simp only [Al,Ai,Bb,Bf,B2,BK,D8,GMb,GMc,d1,q2,B5]
  exact s4
 ·obtain ⟨a,L⟩:=s
  obtain ⟨⟨hst,hdv,hal⟩,rfl,rfl⟩:=hI
  dsimp only at hst hdv hal hd ⊢
  have hr:CT (BJ H p g L) p g L:=CY h
  obtain ⟨L',q1,q2⟩:=XO (n:=20) hf1 hr hm hst (by decide) hdv (by omega) (by omega) hl
  have d1:decide (((a+20:Nat):Int)≤(l.length:Int))=true:=decide_eq_true (by omega)
  have hw3:IntKind.i64.wrap (((a+20:Nat):Int)+20)=((a+20+20:Nat):Int):=by rw [Am] <;> omega
  refine ⟨(a+20,L'),_,_,by dsimp only;omega,⟨⟨q1,(Qbh hdv).2 (Nat.dvd_refl _),by dsimp only;omega⟩,rfl,rfl⟩,fun rec=>?_⟩
  unfold Sh.f4s
  simp only [Al,Ai,Bb,Bf,B2,BK,D8,GMb,GMc,d1,q2,hw3,B5]

end
theorem enLU_inj {l l':List Nat} (h:enL cU l=enL cU l'):l=l':=by
 unfold enL at h
 induction l generalizing l' with
 | nil=>cases l' with
  | nil=>rfl
  | cons y r=>simp at h
 | cons x l ih=>
  cases l' with
  | nil=>simp at h
  | cons y r=>
   simp only [ZT,List.cons.injEq,Ab.int.injEq,true_and,and_true]at h
   rw [ih h.2]
   congr 1
   omega
theorem R7 {l m:List Nat} {t t':Tok} (H:Aa) (hl:Lim l) (hm:Lim m) (h1:l.length≤1099511627776) (h2:m.length≤1099511627776) :
  Sh.fn (.sl (enL cU l) t) (.sl (enL cU m) t') H=some (.ret (.int .i64 (EZ (val l:Int) (val m:Int))),H):=by
 have hex:∃p:List Nat×List Nat,enL cU l=enL cU p.1∧enL cU m=enL cU p.2∧Lim p.1∧Lim p.2∧p.1.length≤1099511627776∧p.2.length≤1099511627776:=⟨(l,m),rfl,rfl,hl,hm,h1,h2⟩
 have e1:hex.choose.1=l:=(enLU_inj hex.choose_spec.1).symm
 have e2:hex.choose.2=m:=(enLU_inj hex.choose_spec.2.1).symm
 unfold Sh.fn
 simp only []
 rw [dif_pos hex,e1,e2]
 unfold EZ
 by_cases c1:val l<val m
 ·rw [if_pos c1,if_pos (show (val l:Int)<(val m:Int)by omega)]
 ·by_cases c2:val l=val m
  ·rw [if_neg c1,if_pos c2,if_neg (show ¬(val l:Int)<(val m:Int)by omega),if_pos (show (val l:Int)=(val m:Int)by omega)]
  ·rw [if_neg c1,if_neg c2,if_neg (show ¬(val l:Int)<(val m:Int)by omega),if_neg (show ¬(val l:Int)=(val m:Int)by omega)]
section
variable {H:Aa} {p:Nat} {z:Int}
theorem Jy (hg:H[p]? = some (.cel 0 (A6 z))):Ac false 1 (.ptr p 0 0) H=some (.bool (decide (z<0))):=by
 simp only [Ac,AE hg,Option.bind_some];rfl
theorem ld_lim (hg:H[p]? = some (.cel 0 (A6 z))):Ac false 1 (.ptr p 0 1) H=some (.sl (enL cU (A4 z.natAbs)) .no):=by
 simp only [Ac,AE hg,Option.bind_some];rfl

end
theorem b_cmp {a b:Int} (ha:LB a) (hb:LB b) (H:Aa):Sh.f22 (big a) (big b) H=some (.ret (.int .i64 (EZ a b)),H):=by
 have e1:(H++[Blk.cel 0 (A6 a)]++[Blk.cel 0 (A6 b)])[H.length]? = some (.cel 0 (A6 a)):=by simp
 have e2:(H++[Blk.cel 0 (A6 a)]++[Blk.cel 0 (A6 b)])[(H++[Blk.cel 0 (A6 a)]).length]? = some (.cel 0 (A6 b)):=Ap
 have c1:=fun K=>R7 (t:=.no) (t':=.no) K (Bp a.natAbs) (Bp b.natAbs) (YJ ha (by decide)) (YJ hb (by decide))
 have c2:=fun K=>R7 (t:=.no) (t':=.no) K (Bp b.natAbs) (Bp a.natAbs) (YJ hb (by decide)) (YJ ha (by decide))
 rw [Bx,Bx]at c1 c2
 have fin:∀q:Int,rP H (.int .i64 q) (H++[Blk.cel 0 (A6 a)]++[Blk.cel 0 (A6 b)])=some (.ret (.int .i64 q),H):=fun q=>by simp only [Y1];exact I6
 unfold Sh.f22
 simp only [GMb,GMc,DC,Ah,Yy,Nat.add_zero,Jy e1,Jy e2]
 by_cases h1:a<0
 ·have d1:decide (a<0)=true:=decide_eq_true h1
  by_cases h2:b<0
  ·have d2:decide (b<0)=true:=decide_eq_true h2
   have:EZ (b.natAbs:Int) (a.natAbs:Int)=EZ a b:=by
    unfold EZ
    by_cases q1:a<b
    ·rw [if_pos q1,if_pos (by omega)]
    ·by_cases q2:a=b
     ·rw [if_neg q1,if_neg (by omega),if_pos q2,if_pos (by omega)]
     ·rw [if_neg q1,if_neg (by omega),if_neg q2,if_neg (by omega)]
   simp only [GMb,GMc,d1,d2,Jy e1,Jy e2,ld_lim e1,ld_lim e2,c2,fin,this]
  ·have d2:decide (b<0)=false:=decide_eq_false h2
   have:EZ a b = -1:=by unfold EZ;rw [if_pos (by omega)]
   simp only [GMb,GMc,d1,d2,Jy e1,Jy e2,fin,this]
 ·have d1:decide (a<0)=false:=decide_eq_false h1
  by_cases h2:b<0
  ·have d2:decide (b<0)=true:=decide_eq_true h2
   have:EZ a b=1:=by unfold EZ;rw [if_neg (by omega),if_neg (by omega)]
   simp only [GMb,GMc,d1,Jy e1,Jy e2,d2,fin,this]
  ·have d2:decide (b<0)=false:=decide_eq_false h2
   have:EZ (a.natAbs:Int) (b.natAbs:Int)=EZ a b:=by
    rw [show (a.natAbs:Int)=a by omega,show (b.natAbs:Int)=b by omega]
   simp only [GMb,GMc,d1,Jy e1,Jy e2,d2,ld_lim e1,ld_lim e2,c1,fin,this]
theorem or_two (a b:Int) (H:Aa):Sh.f30 (.sl [[.int .i64 a],[.int .i64 b]] .tight) H=some (.ret (.int .i64 (if a=0 then b else a)),H):=by
 have i0:Au 1 (.sl [[.int .i64 a],[.int .i64 b]] .tight) (.int .i64 0)=some (.cptr [.int .i64 a] 0):=rfl
 have i1:Au 1 (.sl [[.int .i64 a],[.int .i64 b]] .tight) (.int .i64 1)=some (.cptr [.int .i64 b] 0):=rfl
 have l0:∀x:Ab,Ac false 1 (.cptr [x] 0) H=some x:=fun _=>rfl
 have hl:A5 (.sl [[.int .i64 a],[.int .i64 b]] .tight)=some (.int .i64 2):=rfl
 have w0:IntKind.i64.wrap (0+1)=1:=rfl
 have w1:IntKind.i64.wrap (1+1)=2:=rfl
 have d0:decide ((0:Int)<2)=true:=rfl
 have d1:decide ((1:Int)<2)=true:=rfl
 have d2:decide ((2:Int)<2)=false:=rfl
 unfold Sh.f30
 simp only [GMb,GMc,hl]
 have key:=Bk (G:=fun rec1 vs H1=>Sh.f73 H rec1 (ag vs 0) (ag vs 1) (ag vs 2) (ag vs 3) H1) (σ:=Nat) (fun i=>i=0∨(i=1∧a=0)∨(i=2∧a=0∧b=0))
  (fun i=>[.int .i64 0,.sl [[.int .i64 a],[.int .i64 b]] .tight,.int .i64 2,.int .i64 (i:Int)]) (fun _=>H) (fun i=>2-i) (fun _=>some (.ret (.int .i64 (if a=0 then b else a)),H)) (fun i rec hi hrec=>?_) 0 (.inl rfl) (by decide)
 ·exact key
 ·unfold Sh.f73
  rcases hi with rfl | ⟨rfl,ha⟩ | ⟨rfl,ha,hb⟩
  ·by_cases h:a=0
   ·have hn:(a != 0)=false:=by simp [h]
    have:=hrec 1 (.inr (.inl ⟨rfl,h⟩)) (by decide)
    simp only [GMb,GMc,Ai,Int.natCast_zero,d0,i0,l0,hn,w0]
    exact this
   ·have hn:(a != 0)=true:=by simp [h]
    simp only [GMb,GMc,Ai,Int.natCast_zero,d0,i0,l0,hn,if_neg h]
  ·by_cases h:b=0
   ·have hn:(b != 0)=false:=by simp [h]
    have:=hrec 2 (.inr (.inr ⟨rfl,ha,h⟩)) (by decide)
    simp only [GMb,GMc,Ai,show ((1:Nat):Int)=1 from rfl,d1,i1,l0,hn,w1]
    exact this
   ·have hn:(b != 0)=true:=by simp [h]
    simp only [GMb,GMc,Ai,show ((1:Nat):Int)=1 from rfl,d1,i1,l0,hn,if_pos ha]
  ·simp only [GMb,GMc,Ai,show ((2:Nat):Int)=2 from rfl,d2,if_pos ha,hb]
theorem p_order {c d:Cl} (hc:c.ok) (hd:d.ok) (H:Aa):Sh.f1g (.agg (cCl c)) (.agg (cCl d)) H=some (.ret (.int .i64 (Jv c d)),H):=by
 have e1:(H++[Blk.cel 0 (cCl c)]++[Blk.cel 0 (cCl d)])[H.length]? = some (.cel 0 (cCl c)):=by simp
 have e2:(H++[Blk.cel 0 (cCl c)]++[Blk.cel 0 (cCl d)])[(H++[Blk.cel 0 (cCl c)]).length]? = some (.cel 0 (cCl d)):=Ap
 have hy:=fun K=>b_cmp (hc.2.lb (by decide)) (hd.2.lb (by decide)) K
 have hx:=fun K=>b_cmp (hc.1.lb (by decide)) (hd.1.lb (by decide)) K
 have hb:∀x y:Int,AO 1 [.int .i64 x,.int .i64 y]=some (.sl [[.int .i64 x],[.int .i64 y]] .tight):=fun _ _=>rfl
 have fin:∀q:Int,rP H (.int .i64 q) (H++[Blk.cel 0 (cCl c)]++[Blk.cel 0 (cCl d)])=some (.ret (.int .i64 q),H):=fun q=>by simp only [Y1];exact I6
 unfold Sh.f1g
 simp only [GMb,GMc,boxCl,Ah,Yy,Nat.add_zero,Je e1,Je e2,Jf e1,Jf e2,BN,hy,hx,B6,and_true,hb,or_two,fin]
 rfl
theorem Wa {α:Type} {f:α→List Ab} {sz:Nat} [hf:Sz f sz] [hp:Pl f] {H:Aa} {l:List α} {id b d cap k:Nat} {ex:Bool} (hg:A7 H id 0=some (flat f l)) (hi:b≤id) (hk:k≤l.length):Hm H b (d+3) (.ms id 0 0 k cap sz ex)=some (.sl (enL f (l.take k)) .no):=by
 have h1:¬id<b:=by omega
 have h2:k*sz≤l.length*sz:=Za _ hk
 have h3:(l.take k).length=k:=by simp;omega
 have h4:=On (f:=f) (l.take k)
 rw [h3]at h4
 unfold Hm
 simp only [frz,h1,if_false,hg,Option.bind_some,ZJ,Yy,FI,h2,if_true,Pc,Hh (Pd (f:=f) (l.take k)),Rt (f:=f) (l.take k),h4,Option.map_some,forget,Eu,fgt]
theorem RM (t:Nat):IntKind.u32.wrap (t:Int)=((t%4294967296:Nat):Int):=by
 simp only [IntKind.wrap,IntKind.bits,IntKind.signed]
 simp
theorem Pi (t:Nat):Ae .none .shr (.int .u64 (t:Int)) (.int .u64 32)=some (.int .u64 ((t / 4294967296:Nat):Int)):=by
 show some (Ab.int .u64 ((t:Int).fdiv 4294967296))=_
 rw [Qah _ (by decide)]
 rfl
theorem V6 {x m c:Nat} (hx:x<4294967296) (hm:m<4294967296) (hc:c<4294967296):c+x*m<18446744073709551616:=by
 have h1:x*m≤4294967295*4294967295:=Qa8 (by omega) (by omega)
 omega
theorem I4 (x:Nat):val [x]=x:=by simp [val]
def CZ (l:List Nat) (m c:Nat):Nat→List Nat×Nat
 | 0=>([],c)
 | i+1=>((CZ l m c i).1++[((CZ l m c i).2+l[i]?.getD 0*m)%4294967296],((CZ l m c i).2+l[i]?.getD 0*m) / 4294967296)
theorem Rc {l:List Nat} {m c:Nat} (hx:Lim l) (hm:m<4294967296) (hc:c<4294967296):∀i,i≤l.length →
  (CZ l m c i).1.length=i∧(CZ l m c i).2<4294967296∧Lim (CZ l m c i).1∧val (CZ l m c i).1+4294967296^i*(CZ l m c i).2=val (l.take i)*m+c
 | 0,_=>⟨rfl,hc,fun x h=>(by cases h),by simp [CZ,val]⟩
 | i+1,hi=>by
  obtain ⟨h1,h2,h3,h4⟩:=Rc hx hm hc i (by omega)
  have hxi:=hx _ (Y8 (show i<l.length by omega))
  have hg:l[i]?.getD 0=l[i]:=by rw [Yu (by omega)];rfl
  have ht:=V6 hxi hm h2
  simp only [CZ,hg]
  refine ⟨by simp [h1],?_,?_,?_⟩
  ·omega
  ·intro x hxx
   rcases YN.1 hxx with h | h
   ·exact h3 x h
   ·rw [YI.1 h];exact ZS _ (by decide)
  ·rw [Y5 (by omega),Ci,Ci,h1,YC,Zr (by omega)]
   have hdm:=Qab ((CZ l m c i).2+l[i]*m) 4294967296
   simp only [val,Nat.mul_zero,Nat.add_zero]
   generalize ((CZ l m c i).2+l[i]*m) / 4294967296=q at *
   generalize ((CZ l m c i).2+l[i]*m)%4294967296=r at *
   rw [Nat.pow_succ,ZR,Zn,←Zz,show r+4294967296*q=(CZ l m c i).2+l[i]*m by omega,Zz,Zg]
   rw [←Zn,h4,ZR]
   omega
theorem q_mul {l:List Nat} {tk:Tok} {m c:Nat} (H:Aa) (hx:Lim l) (hl:l.length≤1099511627776) (hm:m<4294967296) (hc:c<4294967296) :
  Sh.f2u (.sl (enL cU l) tk) (.int .u32 (m:Int)) (.int .u32 (c:Int)) H=some (.ret (.sl (enL cU (A4 (val l*m+c))) .no),H):=by
 unfold Sh.f2u
 have hn:IntKind.i64.wrap ((l.length:Int)+1)=((l.length+1:Nat):Int):=by rw [Am] <;> omega
 have hmk:=Fo (f:=cU) (a:=0) (n:=l.length+1) (bytes:=4) (H:=H) (by omega) (by omega)
 simp only [show cU 0=[Ab.int .u32 0] from rfl]at hmk
 have hcc:AD .u64 (.int .u32 (c:Int))=some (.int .u64 (c:Int)):=by rw [Bq,BR (by omega) (by omega)]
 have hcm:AD .u64 (.int .u32 (m:Int))=some (.int .u64 (m:Int)):=by rw [Bq,BR (by omega) (by omega)]
 simp only [GMb,GMc,Aw,hn,hmk,hcc]
 refine Ca l.length (fun i=>[.sl (enL cU l) tk,.int .u32 (m:Int),.ms H.length 0 0 (l.length+1) (l.length+1) 1 true,.int .u64 ((CZ l m c i).2:Int),.sl (enL cU l) tk,.int .i64 (l.length:Int),.int .i64 (i:Int)])
  (fun i=>H++[.cel 0 (flat cU ((CZ l m c i).1++List.replicate (l.length+1-i) 0))]) _ (by omega) (fun rec i hi=>?_) (fun rec=>?_)
 ·obtain ⟨h1,h2,h3,h4⟩:=Rc hx hm hc i (by omega)
  have hi':(i:Int)<(l.length:Int):=by omega
  have hxi:=hx _ (Y8 hi)
  have hg:l[i]?.getD 0=l[i]:=by rw [Yu hi];rfl
  have ht:=V6 hxi hm h2
  have hidx:=CJ (sz:=1) (id:=H.length) (n:=l.length+1) (K:=.i64) (g:=0) (off:=0) (cap:=l.length+1) (ex:=true) (i:=i) (by omega)
  simp only [Yy,YB]at hidx
  obtain ⟨t,htt⟩:∃t,t=(CZ l m c i).2+l[i]*m:=⟨_,rfl⟩
  have hP:l[i]*m≤4294967295*4294967295:=Qa8 (by omega) (by omega)
  have w1:AD .u64 (.int .u32 (l[i]:Int))=some (.int .u64 (l[i]:Int)):=by rw [Bq,BR (by omega) (by omega)]
  have w2:IntKind.u64.wrap ((l[i]:Int)*(m:Int))=((l[i]*m:Nat):Int):=by rw [←Int.natCast_mul,BR (by omega) (by omega)]
  have w3:IntKind.u64.wrap (((CZ l m c i).2:Int)+((l[i]*m:Nat):Int))=(t:Int):=by rw [BR] <;> omega
  have w4:AD .u32 (.int .u64 (t:Int))=some (.int .u32 ((t%4294967296:Nat):Int)):=by rw [Bq,RM]
  have w5:Ae .none .shr (.int .u64 (t:Int)) (.int .u64 32)=some (.int .u64 ((t / 4294967296:Nat):Int)):=Pi t
  have w6:IntKind.i64.wrap ((i:Int)+1)=((i+1:Nat):Int):=by rw [Am] <;> omega
  have hst:=DP (f:=cU) (sz:=1) (l:=(CZ l m c i).1++List.replicate (l.length+1-i) 0) (i:=i) (a:=t%4294967296) (v:=.int .u32 ((t%4294967296:Nat):Int)) (H:=H++[Blk.cel 0 (flat cU ((CZ l m c i).1++List.replicate (l.length+1-i) 0))]) (id:=H.length) (AE Ap) (by simp;omega) rfl
  have hset:((CZ l m c i).1++List.replicate (l.length+1-i) 0).set i (t%4294967296)=(CZ l m c (i+1)).1++List.replicate (l.length+1-(i+1)) 0:=by
   rw [show l.length+1-i=(l.length+1-(i+1))+1 by omega,List.replicate_succ,YR _ _ (by omega),h1,YV,List.set_cons_zero]
   simp [CZ,hg,←htt]
  rw [YB,Ch Ap,Bd,hset]at hst
  unfold Sh.f71
  simp only [GMb,GMc,Ai,hi',Ay hi,A9,List.getElem?_cons_zero,w1,hcm,w2,w3,w4,hidx,hst,w5,w6]
  simp only [CZ,hg,←htt]
 ·obtain ⟨h1,h2,h3,h4⟩:=Rc hx hm hc l.length (Yz _)
  have hidx:=CJ (sz:=1) (id:=H.length) (n:=l.length+1) (K:=.i64) (g:=0) (off:=0) (cap:=l.length+1) (ex:=true) (i:=l.length) (by omega)
  simp only [Yy,YB]at hidx
  have w4:AD .u32 (.int .u64 ((CZ l m c l.length).2:Int))=some (.int .u32 ((CZ l m c l.length).2:Int)):=by rw [Bq,CL (by omega) (by omega)]
  have hst:=DP (f:=cU) (sz:=1) (l:=(CZ l m c l.length).1++List.replicate (l.length+1-l.length) 0) (i:=l.length) (a:=(CZ l m c l.length).2) (v:=.int .u32 ((CZ l m c l.length).2:Int)) (H:=H++[Blk.cel 0 (flat cU ((CZ l m c l.length).1++List.replicate (l.length+1-l.length) 0))]) (id:=H.length) (AE Ap) (by simp;omega) rfl
  have hset:((CZ l m c l.length).1++List.replicate (l.length+1-l.length) 0).set l.length (CZ l m c l.length).2=(CZ l m c l.length).1++[(CZ l m c l.length).2]:=by
   rw [show l.length+1-l.length=1 by omega,YR _ _ (by omega),h1,YV]
   rfl
  rw [YB,Ch Ap,Bd,hset]at hst
  obtain ⟨o,ho⟩:∃o,o=(CZ l m c l.length).1++[(CZ l m c l.length).2]:=⟨_,rfl⟩
  have hol:o.length=l.length+1:=by rw [ho];simp [h1]
  have hox:Lim o:=by
   intro x hxx
   rw [ho]at hxx
   rcases YN.1 hxx with h | h
   ·exact h3 x h
   ·rw [YI.1 h];exact h2
  have hov:val o=val l*m+c:=by
   rw [ho,Ci,h1,I4]
   rw [YY]at h4
   exact h4
  rw [←ho]at hst
  have hct:=q_cut (l:=o) (H:=H++[Blk.cel 0 (flat cU o)]) (id:=H.length) Ap (by omega)
  have htk:=J3 hox o.length (Yz _)
  rw [YY,hov]at htk
  have hfa:=Wa (f:=cU) (sz:=1) (b:=H.length) (d:=5) (cap:=o.length) (ex:=true) (k:=Hf o o.length) (l:=o) (H:=H++[Blk.cel 0 (flat cU o)]) (id:=H.length) (AE Ap) (Yz _) (QM o _)
  rw [htk]at hfa
  rw [hol]at hct hfa
  unfold Sh.f71
  simp only [GMb,GMc,Ai,Zl,Aw,w4,hidx,hst,hct,Co,hfa,Option.map_some]
theorem OJ (b:List Nat) (i:Nat):val (b.take (i+1))=val (b.take i)+4294967296^i*b[i]?.getD 0:=by
 rcases Zf i b.length with h | h
 ·rw [Y5 h,Ci,Yu h,YC,Zr (by omega)]
  simp [val]
 ·rw [Y6 (by omega),Y6 h,YA h]
  simp
theorem JP {b:List Nat} (h:Lim b) (i:Nat):b[i]?.getD 0<4294967296:=by
 rcases Zf i b.length with q | q
 ·rw [Yu q];exact h _ (Y8 q)
 ·rw [YA q];decide
def EG (a b:List Nat):Nat→List Nat×Nat
 | 0=>([],0)
 | i+1=>((EG a b i).1++[(a[i]?.getD 0+b[i]?.getD 0+(EG a b i).2)%4294967296],(a[i]?.getD 0+b[i]?.getD 0+(EG a b i).2) / 4294967296)
theorem addS_ok {a b:List Nat} (ha:Lim a) (hb:Lim b):∀i,(EG a b i).1.length=i∧(EG a b i).2≤1∧Lim (EG a b i).1∧val (EG a b i).1+4294967296^i*(EG a b i).2=val (a.take i)+val (b.take i)
 | 0=>⟨rfl,YL _,fun x h=>(by cases h),by simp [EG,val]⟩
 | i+1=>by
  obtain ⟨h1,h2,h3,h4⟩:=addS_ok ha hb i
  have g1:=JP ha i
  have g2:=JP hb i
  simp only [EG]
  refine ⟨by simp [h1],by omega,?_,?_⟩
  ·intro x hx
   rcases YN.1 hx with h | h
   ·exact h3 x h
   ·rw [YI.1 h];exact ZS _ (by decide)
  ·rw [OJ,OJ,Ci,h1]
   have hdm:=Qab (a[i]?.getD 0+b[i]?.getD 0+(EG a b i).2) 4294967296
   simp only [val,Nat.mul_zero,Nat.add_zero]
   generalize (a[i]?.getD 0+b[i]?.getD 0+(EG a b i).2) / 4294967296=q at *
   generalize (a[i]?.getD 0+b[i]?.getD 0+(EG a b i).2)%4294967296=r at *
   rw [Nat.pow_succ,ZR,Zn,←Zz,show r+4294967296*q=a[i]?.getD 0+b[i]?.getD 0+(EG a b i).2 by omega,Zz,Zz]
   omega
theorem p_add32 {x y c:Nat} (hx:x<4294967296) (hy:y<4294967296) (hc:c≤1) (H:Aa):Sh.f3a (.int .u32 (x:Int)) (.int .u32 (y:Int)) (.int .u32 (c:Int)) H=some (.ret (.tup [.int .u32 (((x+y+c)%4294967296:Nat):Int),.int .u32 (((x+y+c) / 4294967296:Nat):Int)]),H):=by
 have w:∀n:Nat,n<4294967296→AD .u64 (.int .u32 (n:Int))=some (.int .u64 (n:Int)):=fun n h=>by rw [Bq,BR (by omega) (by omega)]
 have w1:IntKind.u64.wrap ((x:Int)+(y:Int))=((x+y:Nat):Int):=by rw [BR] <;> omega
 have w2:IntKind.u64.wrap (((x+y:Nat):Int)+(c:Int))=((x+y+c:Nat):Int):=by rw [BR] <;> omega
 have w4:AD .u32 (.int .u64 ((x+y+c:Nat):Int))=some (.int .u32 (((x+y+c)%4294967296:Nat):Int)):=by rw [Bq,RM]
 have w5:=Pi (x+y+c)
 have w6:AD .u32 (.int .u64 (((x+y+c) / 4294967296:Nat):Int))=some (.int .u32 (((x+y+c) / 4294967296:Nat):Int)):=by rw [Bq,CL (by omega) (by omega)]
 unfold Sh.f3a
 simp only [GMb,GMc,w x hx,w y hy,w c (by omega),w1,w2,w4,w5,w6]
theorem add_tail {H:Aa} {o:List Nat} {v:Nat} (hol:o.length<1099511627780) (hox:Lim o) (hov:val o=v) :
  (Sh.f0 (.ms H.length 0 0 o.length o.length 1 true) (H++[Blk.cel 0 (flat cU o)])).bind (fun r=>match r.1 with | .ret x=>rPN H x r.2 | .pan x=>none)=some (.ret (.sl (enL cU (A4 v)) .no),H):=by
 have hct:=q_cut (l:=o) (H:=H++[Blk.cel 0 (flat cU o)]) (id:=H.length) Ap (by omega)
 have htk:=J3 hox o.length (Yz _)
 rw [YY,hov]at htk
 have hk:=QM o o.length
 have hfa:=Wa (f:=cU) (sz:=1) (d:=5) (cap:=o.length) (ex:=true) (AE (Ap (cs:=flat cU o) (B:=H))) (Yz H.length) hk
 rw [hct]
 simp only [Option.bind_some,Co]
 rw [hfa,htk]
 rfl
theorem add_j1 {a b:List Nat} {ta tb:Tok} (H:Aa) (ha:Lim a) (hb:Lim b) (hl:a.length≤1099511627776) (hle:b.length≤a.length) :
  Sh.f7b H (.sl (enL cU a) ta) (.sl (enL cU b) tb) H=some (.ret (.sl (enL cU (A4 (val a+val b))) .no),H):=by
 unfold Sh.f7b
 have hn:IntKind.i64.wrap ((a.length:Int)+1)=((a.length+1:Nat):Int):=by rw [Am] <;> omega
 have hmk:=Fo (f:=cU) (a:=0) (n:=a.length+1) (bytes:=4) (H:=H) (by omega) (by omega)
 simp only [show cU 0=[Ab.int .u32 0] from rfl]at hmk
 simp only [GMb,GMc,Aw,hn,hmk]
 refine Ca (G:=fun rec2 vs H1=>Sh.f5q H rec2 (ag vs 0) (ag vs 1) (ag vs 2) (ag vs 3) (ag vs 4) (ag vs 5) (ag vs 6) H1) a.length
  (fun i=>[.sl (enL cU a) ta,.sl (enL cU b) tb,.ms H.length 0 0 (a.length+1) (a.length+1) 1 true,.int .u32 ((EG a b i).2:Int),.sl (enL cU a) ta,.int .i64 (a.length:Int),.int .i64 (i:Int)])
  (fun i=>H++[.cel 0 (flat cU ((EG a b i).1++List.replicate (a.length+1-i) 0))]) _ (by omega) (fun rec i hi=>?_) (fun rec=>?_)
 ·obtain ⟨h1,h2,h3,h4⟩:=addS_ok ha hb i
  have d1:decide ((i:Int)<(a.length:Int))=true:=decide_eq_true (by omega)
  have hxi:=ha _ (Y8 hi)
  have hg:a[i]?.getD 0=a[i]:=by rw [Yu hi];rfl
  have hidx:=CJ (sz:=1) (id:=H.length) (n:=a.length+1) (K:=.i64) (g:=0) (off:=0) (cap:=a.length+1) (ex:=true) (i:=i) (by omega)
  simp only [Yy,YB]at hidx
  have w6:IntKind.i64.wrap ((i:Int)+1)=((i+1:Nat):Int):=by rw [Am] <;> omega
  have hst:=DP (f:=cU) (sz:=1) (l:=(EG a b i).1++List.replicate (a.length+1-i) 0) (i:=i) (a:=(a[i]?.getD 0+b[i]?.getD 0+(EG a b i).2)%4294967296) (v:=.int .u32 (((a[i]?.getD 0+b[i]?.getD 0+(EG a b i).2)%4294967296:Nat):Int)) (H:=H++[Blk.cel 0 (flat cU ((EG a b i).1++List.replicate (a.length+1-i) 0))]) (id:=H.length) (AE Ap) (by simp;omega) rfl
  have hset:((EG a b i).1++List.replicate (a.length+1-i) 0).set i ((a[i]?.getD 0+b[i]?.getD 0+(EG a b i).2)%4294967296)=(EG a b (i+1)).1++List.replicate (a.length+1-(i+1)) 0:=by
   rw [show a.length+1-i=(a.length+1-(i+1))+1 by omega,List.replicate_succ,YR _ _ (by omega),h1,YV,List.set_cons_zero]
   simp [EG]
  rw [YB,Ch Ap,Bd,hset]at hst
  rw [hg]at hst
  have hb32:=JP hb i
  have h32:=fun K=>p_add32 hxi hb32 h2 K
  have hnext:(EG a b (i+1)).2=(a[i]+b[i]?.getD 0+(EG a b i).2) / 4294967296:=by simp only [EG,hg]
  unfold Sh.f5q Sh.f7z
  by_cases hib:i<b.length
  ·have d2:decide ((i:Int)<(b.length:Int))=true:=decide_eq_true (by omega)
   have hgb:b[i]?.getD 0=b[i]:=by rw [Yu hib];rfl
   rw [hgb]at h32 hst hnext
   simp only [Al,Ai,Bb,Bf,B2,BK,D8,GMb,GMc,d1,d2,Aw,Ay hi,Ay hib,A9,List.getElem?_cons_zero,h32,B1,B8,hidx,hst,AL,w6,hnext]
  ·have d2:decide ((i:Int)<(b.length:Int))=false:=decide_eq_false (by omega)
   have hgb:b[i]?.getD 0=0:=by rw [YA (by omega)];rfl
   rw [hgb]at h32 hst hnext
   simp only [Int.natCast_zero]at h32
   simp only [Al,Ai,Bb,Bf,B2,BK,D8,GMb,GMc,d1,d2,Aw,Ay hi,A9,List.getElem?_cons_zero,h32,B1,B8,hidx,hst,AL,w6,hnext]
 ·obtain ⟨h1,h2,h3,h4⟩:=addS_ok ha hb a.length
  have d1:decide ((a.length:Int)<(a.length:Int))=false:=decide_eq_false (by omega)
  have hidx:=CJ (sz:=1) (id:=H.length) (n:=a.length+1) (K:=.i64) (g:=0) (off:=0) (cap:=a.length+1) (ex:=true) (i:=a.length) (by omega)
  simp only [Yy,YB]at hidx
  have hst:=DP (f:=cU) (sz:=1) (l:=(EG a b a.length).1++List.replicate (a.length+1-a.length) 0) (i:=a.length) (a:=(EG a b a.length).2) (v:=.int .u32 ((EG a b a.length).2:Int)) (H:=H++[Blk.cel 0 (flat cU ((EG a b a.length).1++List.replicate (a.length+1-a.length) 0))]) (id:=H.length) (AE Ap) (by simp;omega) rfl
  have hset:((EG a b a.length).1++List.replicate (a.length+1-a.length) 0).set a.length (EG a b a.length).2=(EG a b a.length).1++[(EG a b a.length).2]:=by
   rw [show a.length+1-a.length=1 by omega,YR _ _ (by omega),h1,YV]
   rfl
  rw [YB,Ch Ap,Bd,hset]at hst
  obtain ⟨o,ho⟩:∃o,o=(EG a b a.length).1++[(EG a b a.length).2]:=⟨_,rfl⟩
  have hol:o.length=a.length+1:=by rw [ho];simp [h1]
  have hox:Lim o:=by
   intro x hxx
   rw [ho]at hxx
   rcases YN.1 hxx with h | h
   ·exact h3 x h
   ·rw [YI.1 h];omega
  have hov:val o=val a+val b:=by
   rw [ho,Ci,h1,I4]
   rw [YY,Y6 hle]at h4
   exact h4
  rw [←ho]at hst
  have ht:=add_tail (H:=H) (o:=o) (by omega) hox hov
  rw [hol]at ht
  unfold Sh.f5q
  simp only [Al,Ai,Bb,Bf,B2,BK,D8,GMb,GMc,d1,Aw,hidx,hst,AL]
  have hct:=q_cut (l:=o) (H:=H++[Blk.cel 0 (flat cU o)]) (id:=H.length) Ap (by omega)
  rw [hol]at hct
  rw [hct]at ht ⊢
  simp only [Option.bind_some]at ht
  simp only [GMb,GMc]
  exact ht
theorem p_add {a b:List Nat} {ta tb:Tok} (H:Aa) (ha:Lim a) (hb:Lim b) (h1:a.length≤1099511627776) (h2:b.length≤1099511627776) :
  Sh.f3b (.sl (enL cU a) ta) (.sl (enL cU b) tb) H=some (.ret (.sl (enL cU (A4 (val a+val b))) .no),H):=by
 unfold Sh.f3b
 by_cases h:a.length<b.length
 ·have d1:decide ((a.length:Int)<(b.length:Int))=true:=decide_eq_true (by omega)
  simp only [GMb,GMc,Aw,d1]
  rw [add_j1 H hb ha h2 (by omega),QaP]
 ·have d1:decide ((a.length:Int)<(b.length:Int))=false:=decide_eq_false (by omega)
  simp only [GMb,GMc,Aw,d1]
  exact add_j1 H ha hb h1 (by omega)
theorem Km (a b:BitVec 32):In .and .u32 (a.toNat:Int) (b.toNat:Int)=some (.int .u32 ((a &&& b).toNat:Int))∧In .or .u32 (a.toNat:Int) (b.toNat:Int)=some (.int .u32 ((a ||| b).toNat:Int))∧In .xor .u32 (a.toNat:Int) (b.toNat:Int)=some (.int .u32 ((a ^^^ b).toNat:Int)):=by
 have ho:∀v:BitVec 32,BitVec.ofInt 32 (v.toNat:Int)=v:=fun v=>by
  rw [BitVec.ofInt_natCast,BitVec.ofNat_toNat,BitVec.setWidth_eq]
 have hw:∀v:BitVec 32,IntKind.u32.wrap (v.toNat:Int)=(v.toNat:Int):=fun v=>by
  have:=v.isLt
  rw [CL (by omega) (by omega)]
 refine ⟨?_,?_,?_⟩
 ·show some (Ab.int .u32 (IntKind.u32.wrap (((BitVec.ofInt 32 (a.toNat:Int)) &&& (BitVec.ofInt 32 (b.toNat:Int))).toNat:Int)))=_
  rw [ho,ho,hw]
 ·show some (Ab.int .u32 (IntKind.u32.wrap (((BitVec.ofInt 32 (a.toNat:Int)) ||| (BitVec.ofInt 32 (b.toNat:Int))).toNat:Int)))=_
  rw [ho,ho,hw]
 ·show some (Ab.int .u32 (IntKind.u32.wrap (((BitVec.ofInt 32 (a.toNat:Int)) ^^^ (BitVec.ofInt 32 (b.toNat:Int))).toNat:Int)))=_
  rw [ho,ho,hw]
theorem not_u32 (a:BitVec 32):unA .xor (.int .u32 (a.toNat:Int))=some (.int .u32 ((~~~a).toNat:Int)):=by
 have h:=(Km (BitVec.allOnes 32) a).2.2
 have e:((BitVec.allOnes 32).toNat:Int)=4294967295:=by decide
 rw [e]at h
 have hn : ~~~a=BitVec.allOnes 32 ^^^ a:=BitVec.allOnes_xor.symm
 rw [hn]
 exact h
theorem msb_u32 (v:BitVec 32):Ae .none .shr (.int .u32 (v.toNat:Int)) (.int .u64 31)=some (.int .u32 ((if v.msb then 1 else 0:Nat):Int)):=by
 have hs:Ae .none .shr (.int .u32 (v.toNat:Int)) (.int .u64 31)=some (.int .u32 (Int.fdiv (v.toNat:Int) (2^(min (31:Int).toNat IntKind.u32.bits)))):=rfl
 have hlt:=v.isLt
 rw [hs,show (2:Int)^(min (31:Int).toNat IntKind.u32.bits)=2147483648 from by decide,Qah _ (by omega)]
 congr 2
 rw [Qaw]
 by_cases h:2147483648≤v.toNat
 ·have:decide (2^(32-1)≤v.toNat)=true:=decide_eq_true (by omega)
  rw [this]
  simp only [if_true];omega
 ·have:decide (2^(32-1)≤v.toNat)=false:=decide_eq_false (by omega)
  rw [this]
  simp only [Y4,if_false];omega
theorem OB (op:BinOp) (hop:Dm op=false) (a b:Int) (hb:∀k x y,F2 op k x y=In op k x y):Ae .none op (.int .u32 a) (.int .u32 b)=In op .u32 a b:=by
 show (if Dm op then _ else if IntKind.u32=IntKind.u32 then F2 op .u32 a b else none)=_
 rw [hop,if_neg (by decide),if_pos rfl,hb]
theorem p_sub32 {x y c:Nat} (hx:x<4294967296) (hy:y<4294967296) (hc:c≤1) (H:Aa):Sh.f25 (.int .u32 (x:Int)) (.int .u32 (y:Int)) (.int .u32 (c:Int)) H =
  some (.ret (.tup [.int .u32 (((x+4294967296-y-c)%4294967296:Nat):Int),.int .u32 ((if x<y+c then 1 else 0:Nat):Int)]),H):=by
 obtain ⟨a,ha⟩:∃a:BitVec 32,a.toNat=x:=⟨BitVec.ofNat 32 x,by rw [ZK];omega⟩
 obtain ⟨b,hb⟩:∃b:BitVec 32,b.toNat=y:=⟨BitVec.ofNat 32 y,by rw [ZK];omega⟩
 obtain ⟨d,hd⟩:∃d:BitVec 32,d.toNat=(x+4294967296-y-c)%4294967296:=⟨BitVec.ofNat 32 ((x+4294967296-y-c)%4294967296),by rw [ZK];omega⟩
 have hwr:∀z:Int,IntKind.u32.wrap z=z%4294967296:=fun z=>by
  simp only [IntKind.wrap,IntKind.bits,IntKind.signed]
  simp
 have w1:IntKind.u32.wrap (IntKind.u32.wrap ((x:Int)-(y:Int))-(c:Int))=(d.toNat:Int):=by
  rw [hwr,hwr,hd]
  omega
 have e1:∀p q:BitVec 32,Ae .none .and (.int .u32 (p.toNat:Int)) (.int .u32 (q.toNat:Int))=some (.int .u32 ((p &&& q).toNat:Int)):=fun p q=>by
  rw [OB .and rfl _ _ (fun _ _ _=>rfl)];exact (Km p q).1
 have e2:∀p q:BitVec 32,Ae .none .or (.int .u32 (p.toNat:Int)) (.int .u32 (q.toNat:Int))=some (.int .u32 ((p ||| q).toNat:Int)):=fun p q=>by
  rw [OB .or rfl _ _ (fun _ _ _=>rfl)];exact (Km p q).2.1
 have e3:∀p q:BitVec 32,Ae .none .xor (.int .u32 (p.toNat:Int)) (.int .u32 (q.toNat:Int))=some (.int .u32 ((p ^^^ q).toNat:Int)):=fun p q=>by
  rw [OB .xor rfl _ _ (fun _ _ _=>rfl)];exact (Km p q).2.2
 have hm:(if ((~~~a &&& b) ||| (~~~(a ^^^ b) &&& d)).msb then 1 else 0:Nat)=if x<y+c then 1 else 0:=by
  rw [BitVec.msb_or,BitVec.msb_and,BitVec.msb_and,BitVec.msb_not,BitVec.msb_not,BitVec.msb_xor,Qaw a,Qaw b,Qaw d,ha,hb,hd]
  have q1:decide (2^(32-1)≤x)=decide (2147483648≤x):=rfl
  have q2:decide (2^(32-1)≤y)=decide (2147483648≤y):=rfl
  have q3:decide (2^(32-1)≤(x+4294967296-y-c)%4294967296)=decide (2147483648≤(x+4294967296-y-c)%4294967296):=rfl
  rw [q1,q2,q3]
  by_cases c1:2147483648≤x <;> by_cases c2:2147483648≤y <;> by_cases c3:2147483648≤(x+4294967296-y-c)%4294967296 <;> simp only [c1,c2,c3,decide_true,decide_false] <;> (first | (rw [if_pos (by decide),if_pos (by omega)]) | (rw [if_neg (by decide),if_neg (by omega)]))
 unfold Sh.f25
 simp only [GMb,GMc,w1]
 rw [←ha,←hb]
 simp only [GMb,GMc,not_u32,e1,e2,e3,msb_u32,BD]
 rw [hm,hd,ha,hb]
theorem q_rightG {l:List Nat} {H:Aa} {id k:Nat} {ex:Bool} (hg:A7 H id 0=some (flat cU l)) (hk:k≤l.length) (hl:l.length<9223372036854775807):Sh.fd (.ms id 0 0 k l.length 1 ex) H=some (.ret (.bool (decide (k=0)||decide (l[k-1]?.getD 0≠0))),H):=by
 unfold Sh.fd
 cases k with
 | zero=>simp [A5]
 | succ k=>
  have hidx:=CJ (sz:=1) (id:=id) (n:=k+1) (K:=.i64) (g:=0) (off:=0) (cap:=l.length) (ex:=ex) (i:=k) (by omega)
  simp only [Yy,YB]at hidx
  have hld:=Ih (f:=cU) (id:=id) (l:=l) (H:=H) hg (i:=k) (by omega)
  have h0:¬((k+1:Nat):Int)=0:=by omega
  have hw:IntKind.i64.wrap (((k+1:Nat):Int)-1)=(k:Int):=by rw [Am] <;> omega
  have hgk:l[k]? = some l[k]:=Yu (by omega)
  simp only [show A5 (.ms id 0 0 (k+1) l.length 1 ex)=some (.int .i64 ((k+1:Nat):Int)) from rfl,GMb,GMc,h0,hw,hidx,hld,YM,hgk,Option.getD_some,ZX]
  by_cases h:l[k]=0
  ·simp [h]
  ·have:¬(l[k]:Int)=0:=by omega
   simp [h,this]
theorem q_cutG {l:List Nat} {H:Aa} {id:Nat} {ex:Bool} (hg:A7 H id 0=some (flat cU l)) (hl:l.length<1152921504606846976):Sh.f0 (.ms id 0 0 l.length l.length 1 ex) H=some (.ret (.ms id 0 0 (Hf l l.length) l.length 1 ex),H):=by
 unfold Sh.f0
 refine Bk (σ:=Nat) (fun k=>k≤l.length∧Hf l k=Hf l l.length) (fun k=>[.ms id 0 0 k l.length 1 ex]) (fun _=>H) (fun k=>k) (fun _=>some (.ret (.ms id 0 0 (Hf l l.length) l.length 1 ex),H)) (fun k rec hi hrec=>?_) l.length ⟨Yz _,rfl⟩ (by omega)
 obtain ⟨hk,ht⟩:=hi
 unfold Sh.f1w
 simp only [Al,q_rightG hg hk (by omega),GMb,GMc]
 cases k with
 | zero=>simp [←ht,Hf,rKN,fin,forget,Eu,fgt]
 | succ k=>
  by_cases h:l[k]?.getD 0=0
  ·have hw:IntKind.i64.wrap (((k+1:Nat):Int)-1)=(k:Int):=by rw [Am] <;> omega
   have hsl:Bw 1 (.ms id 0 0 (k+1) l.length 1 ex) none (some (.int .i64 (k:Int))) none=some (.ms id 0 0 k l.length 1 ex):=by
    have:(0:Int)≤(k:Int):=by omega
    simp only [Bw,Bt,Option.bind_some,this,if_true,Int.toNat_natCast]
    rw [if_pos ⟨trivial,by omega,by omega,by omega⟩]
    simp
   have ht':Hf l k=Hf l l.length:=by rw [←ht];simp [Hf,h]
   have hr:=hrec k ⟨by omega,ht'⟩ (by omega)
   simp only [h,show A5 (.ms id 0 0 (k+1) l.length 1 ex)=some (.int .i64 ((k+1:Nat):Int)) from rfl,GMb,GMc,hw,hsl,YM,ne_eq,not_true_eq_false,ZX]
   exact hr
  ·have ht':Hf l (k+1)=k+1:=by simp [Hf,h]
   have hr:(decide (k+1=0)||decide (l[k+1-1]?.getD 0≠0))=true:=by simp [h]
   simp only [hr,GMb,GMc,Ek,forget,Eu,fgt]
   rw [←ht,ht']
theorem clone_u (l:List Nat) (tk:Tok) (H:Aa) (hl:l.length≤1099511627776):Sh.f1n (.sl (enL cU l) tk) H=some (if l=[]then (.ret (.sl [] .tight),H)else (.ret (.ms H.length 0 0 l.length l.length 1 false),H++[.buf 0 (flat cU l) B4 1])):=by
 have hb:AO 1 []=some (.sl [] .tight):=rfl
 unfold Sh.f1n
 cases l with
 | nil=>
  have ha:FU B4 1 4 (.sl [] .tight) (.sl (enL cU []) tk) H=some (.sl [] .tight,H):=rfl
  have hn:TN .eql (.sl (enL cU []) tk)=some .ubool:=rfl
  have hu:∀x:Out,Aj .ubool x x=x:=fun x=>if_pos rfl
  simp only [hn,GMb,GMc,hb,ha]
  exact hu _
 | cons c l=>
  have hn:TN .eql (.sl (enL cU (c::l)) tk)=some (.bool false):=rfl
  have ha:FU B4 1 4 (.sl [] .tight) (.sl (enL cU (c::l)) tk) H=some (.ms H.length 0 0 (c::l).length (c::l).length 1 false,H++[.buf 0 (flat cU (c::l)) B4 1]):=by
   have he:Ce 1 (.sl (enL cU (c::l)) tk) H=some (enL cU (c::l)):=Oi
   have hlen:(enL cU (c::l)).length=(c::l).length:=by simp [enL]
   unfold FU
   rw [he]
   simp only [Option.bind_some]
   unfold Ip
   rw [hlen,if_neg (by simp)]
   simp only [List.length_nil,Yy,List.all_nil,List.nil_append]
   rw [if_pos ⟨trivial,by omega,by omega⟩]
   rfl
  simp only [hn,GMb,GMc,hb,ha]
  rw [if_neg (by simp)]
end Go.Gm
