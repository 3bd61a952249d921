/- Texts of this proof, joined. -/
import Derived.Test.YtagddbecnkbcdaaGreatJ2
import Derived.Test.YtagddbecnkbcdaaGreatJ3
import Derived.RangeFuncBox
import Derived.RangeFuncLeaves
import Derived.Shelf.Abstract
import Derived.WalkKit
import Derived.OwnWalkIn
import Derived.TacticsInMore
import Derived.LoopNIn
import Derived.LoopIn
import Derived.Test.YtagddbecnkbcdaaGreatProg
import Derived.KernelRfl
import Derived.Calls
set_option linter.all false
namespace Go.Gm
def Jo:Ab->Bool
 | .bool _=>true
 | .int _ _=>true
 | .str _=>true
 | .sl _ .no=>true
 | .sl _ .ti=>true
 | _=>false
class Pl {α:Type} (f:α->List Ab):Prop where
 pl:∀a,(f a).all Jo=true
instance:Pl cB:=⟨λ_=>rfl⟩
instance:Pl cU:=⟨λ_=>rfl⟩
instance:Pl cI:=⟨λ_=>rfl⟩
instance:Pl cN:=⟨λ_=>rfl⟩
instance:Pl cY:=⟨λ_=>rfl⟩
instance:Pl cS:=⟨λ_=>rfl⟩
instance:Pl cNd:=⟨λ_=>rfl⟩
theorem plnC_scal {c:Ab}(h:Jo c=true):c.isScal=true:=by cases c <;> first | rfl | (simp[Jo]at h)
theorem plnC_imm {c:Ab}(h:Jo c=true):BI c=true:=by
 cases c <;> first | rfl | (simp[Jo]at h)
 rename_i es tk;cases tk <;> first | rfl | (simp[Jo]at h)
theorem plnC_frz {c:Ab}{H:Aa}{n d:Nat}(h:Jo c=true):frz H n (d+1) c=some c:=by
 cases c <;> first | (simp[frz];done) | (simp[Jo]at h)
 rename_i es tk;cases tk <;> first | (simp[frz];done) | (simp[Jo]at h)
theorem Hu {H:Aa}{n d:Nat}:∀ {cs:List Ab},cs.all Jo=true->Gi H n (d+2) cs=some cs
 | [],_=>by simp[Gi]
 | c::cs,h=>by
  simp only[List.all_cons,Wc]at h;simp[Gi,plnC_frz h.1,Hu h.2]
section
variable {α:Type}{f:α->List Ab}{l:List α}{sz i n:Nat}{a:α}{H:Aa}{id:Nat}{K:IntKind}
def flat (f:α->List Ab)(l:List α):List Ab:=l.flatMap f
@[simp] theorem flat_nil:flat f []=[]:=(rfl)
theorem D4:flat f (a::l)=f a++flat f l:=by simp[flat]
theorem QY {m:List α}:flat f (l++m)=flat f l++flat f m:=by simp[flat]
theorem Fi [hf:Sz f sz]:∀(l:List α),(flat f l).length=l.length*sz
 | []=>by simp
 | a::l=>by
  have:=Fi l;simp only[D4,VX,hf.len,zXj,Yn];omega
theorem Ns [hp:Pl f]:∀(l:List α),(flat f l).all Jo=true
 | []=>rfl
 | a::l=>by simp only[D4,Y8,Wc];exact⟨hp.pl a,Ns l⟩
theorem OR [hp:Pl f](l:List α):(flat f l).all BI=true:=by
 rw[Wi];intro c hc;exact plnC_imm (Wi.1 (Ns (f:=f) l) c hc)
theorem Qn [hf:Sz f sz]:∀(l:List α) (i:Nat),(flat f l).drop (i*sz)=flat f (l.drop i)
 | [],i=>by simp
 | a::l,0=>by simp
 | a::l,i+1=>by
  have:=Qn l i;rw[YF,<-this,D4,Yn,Y2,List.drop_append,hf.len,Yd (by rw[hf.len];omega),List.nil_append]
  congr 1;omega
theorem Nr [hf:Sz f sz]:∀(l:List α) (i:Nat),(flat f l).take (i*sz)=flat f (l.take i)
 | [],i=>by simp
 | a::l,0=>by simp
 | a::l,i+1=>by
  have:=Nr l i;rw[List.take_succ_cons,D4,D4,<-this,Yn,Y2,List.take_append,hf.len,Wd (by rw[hf.len];omega)]
  congr 2;omega
theorem RK [hf:Sz f sz](h:i<l.length):((flat f l).drop (i*sz)).take sz=f l[i]:=by
 rw[Qn,Ww h,D4,Xw (by rw[hf.len];omega),Wd (by rw[hf.len];omega)]
theorem Tm [hf:Sz f sz](h:i<l.length):CZ (flat f l) (i*sz) sz (f a)=flat f (l.set i a):=by
 have e:l.set i a=l.take i++a::l.drop (i+1):=by rw[XX,if_pos h]
 have e2:i*sz+sz=(i+1)*sz:=by rw[Yn]
 unfold CZ;rw[e,e2,Nr,Qn,QY,D4];simp
theorem KO [hf:Sz f sz](h:i<l.length):i*sz+sz<=(flat f l).length:=by
 rw[Fi,<-Yn];exact W4 _ h
theorem CL {g off cap:Nat}{ex:Bool}(h:i<n):Av sz (.ms id g off n cap sz ex) (.int K (i:Int))=some (.ptr id g (off+i*sz)):=by
 unfold Av;simp only[];rw[if_pos ⟨trivial,by omega,by omega⟩];simp
theorem Iy [hf:Sz f 1](hg:AC H id 0=some (flat f l))(h:i<l.length):Ac false 1 (.ptr id 0 i) H=(f l[i])[0]? := by
 have h1:=RK (f:=f) (sz:=1) h;have h2:=KO (f:=f) (sz:=1) h;simp only[Wg]at h1 h2;simp only[Ac,hg,zXa,VY,if_false];rw[<-h1];simp
theorem load_elA [hf:Sz f sz](hg:AC H id 0=some (flat f l))(h:i<l.length):Ac true sz (.ptr id 0 (i*sz)) H=some (.agg (f l[i])):=by
 simp only[Ac,hg,zXa,if_true,KO h,RK h]
theorem DS [hf:Sz f sz]{v:Ab}(hg:AC H id 0=some (flat f l))(h:i<l.length)(hv:v.acells=some (f a)):Af sz (.ptr id 0 (i*sz)) v H=some (FO H id 0 (flat f (l.set i a))):=by
 simp only[Af,hg,zXa,hv,hf.len,KO h,and_self,if_true,Tm h]
theorem UO:∀(n:Nat),Md n (f a)=flat f (List.replicate n a)
 | 0=>rfl
 | n+1=>by
  have:=UO n;simp only[Md,zXm,List.flatten_cons,D4]at this ⊢;rw[this]
theorem Fz [hf:Sz f sz][hp:Pl f]{bytes:Nat}(hb:n*bytes<=140737488355328)(hn:n<=140737488355328):FA sz bytes (some (f a)) (.i6 (n:Int)) (.i6 (n:Int)) H=some (.ms H.length 0 0 n n sz true,H++[.cel 0 (flat f (List.replicate n a))]):=by
 have h1:((n:Int)*(bytes:Int))<=140737488355328:=by
   have:((n*bytes:Nat):Int)<=140737488355328:=by omega
   simpa using this
 have h2:(f a).all Ab.isScal=true:=by rw[Wi];intro c hc;exact plnC_scal (Wi.1 (hp.pl a) c hc)
 unfold FA;simp only[zXa];rw[if_pos ⟨h2,hf.len a,by omega,by omega,h1,by omega⟩];simp only[zXl,UO]
theorem M4 [hf:Sz f sz]:∀(l:List α),GO sz l.length (flat f l)=enL f l
 | []=>rfl
 | a::l=>by
  have:=M4 l;simp only[zXj,GO,D4,enL,XC,Xw (Yb (hf.len a).symm),Wd (Yb (hf.len a)),List.drop_left' (hf.len a)];rw[this];rfl
theorem fall_ms [hf:Sz f sz][hp:Pl f]{b d cap:Nat}{ex:Bool}(hg:AC H id 0=some (flat f l))(hi:b<=id):Hx H b (d+3) (.ms id 0 0 l.length cap sz ex)=some (.sl (enL f l) .no):=by
 have h1:¬id<b:=by omega
 unfold Hx;simp only[frz,h1,if_false,hg,zXa,Xm,VU,Fi,VV,if_true,Wd (Yb (Fi (f:=f) l)),Hu (Ns (f:=f) l),OR (f:=f) l,M4,zXb,forget,Ev,fgt]
@[simp] theorem UM {G:Aa}{g:Nat}{cs:List Ab}:FO (H++G) H.length g cs=H++FO G 0 g cs:=Sn (k:=0)
@[simp] theorem setC_appK {G:Aa}{g k:Nat}{cs:List Ab}:FO (H++G) (H.length+k) g cs=H++FO G k g cs:=Sn
@[simp] theorem UK {G:Aa}{g g':Nat}{c cs:List Ab}:FO (.cel g' c::G) 0 g cs=.cel g cs::G:=(rfl)
@[simp] theorem setC_suc {G:Aa}{g k:Nat}{b:Blk}{cs:List Ab}:FO (b::G) (k+1) g cs=b::FO G k g cs:=UL

end
theorem Aw {H:Aa}{p:Nat}{cs:List Ab}(hg:H[p]? = some (.cel 0 cs)):AC H p 0=some cs:=by simp[AC,hg]
theorem B2 {a:Bool}{sz p g o:Nat}{H G:Aa}{v:Ab}(h:Ac a sz (.ptr p g o) H=some v):Ac a sz (.ptr p g o) (H++G)=some v:=by
 unfold Ac at h ⊢;simp only at h ⊢;cases hg:AC H p g with
 | none=>rw[hg]at h;cases h
 | some cs=>
  have:AC (H++G) p g=some cs:=by
   have hlt:p<H.length:=by
    by_cases hl:p<H.length
    ·exact hl
    ·unfold AC at hg;rw[zYb (by omega)]at hg;cases hg
   rw[get_old hlt];exact hg
  rw[this];rw[hg]at h;exact h
theorem Bt {H:Aa}{p:Nat}{cs cs':List Ab}(hg:H[p]? = some (.cel 0 cs)):FO H p 0 cs'=H.set p (.cel 0 cs'):=by simp[FO,hg]
theorem Al {cs:List Ab}{B:Aa}:(B++[Blk.cel 0 cs])[B.length]? = some (.cel 0 cs):=by simp
theorem Be {B:Aa}{b b':Blk}:(B++[b]).set B.length b'=B++[b']:=by simp
theorem Re:∀l:List UInt8,CQ (flat cY l)=some l
 | []=>rfl
 | b::l=>by
  have:=Re l;rw[D4];show CQ (.int .u8 (b.toNat:Int)::flat cY l)=_;simp only[CQ,this,zXb];simp
theorem toStr_ms {l:List UInt8}{H:Aa}{id:Nat}(hg:AC H id 0=some (flat cY l)):Dn (.ms id 0 0 l.length l.length 1 true) H=some (.str l):=by
 have hl:=Fi (f:=cY) l;rw[Wg]at hl;simp only[Dn,if_true,hg,zXa,VU,hl,VV,Xm,Wd (Yb hl),Re,zXb]
theorem GMb:(((((((∀ {α β:Type} (a:α) (f:α->Option β),Option.bind (Option.some a) f=f a) /\
 (∀(v:Ab) (l:List Ab),ag (v::l) 0=v)) /\
 ((∀(a v:Ab) (l:List Ab),ag (a::v::l) 1=v) /\
 (∀(a b v:Ab) (l:List Ab),ag (a::b::v::l) 2=v))) /\
 (((∀(a b c v:Ab) (l:List Ab),ag (a::b::c::v::l) 3=v) /\
 (∀(a b c d v:Ab) (l:List Ab),ag (a::b::c::d::v::l) 4=v)) /\
 ((∀(a b c d e v:Ab) (l:List Ab),ag (a::b::c::d::e::v::l) 5=v) /\
 (∀ {ek:EqK} {k:IntKind} {a b:Int},Ae ek BinOp.lss (Ab.int k a) (Ab.int k b)=Option.some (Ab.bool (Decidable.decide (a<b))))))) /\
 ((((∀ {ek:EqK} {k:IntKind} {a b:Int},Ae ek BinOp.gtr (Ab.int k a) (Ab.int k b)=Option.some (Ab.bool (Decidable.decide (a>b)))) /\
 (∀ {ek:EqK} {k:IntKind} {a b:Int},Ae ek BinOp.leq (Ab.int k a) (Ab.int k b)=Option.some (Ab.bool (Decidable.decide (a<=b))))) /\
 ((∀ {ek:EqK} {k:IntKind} {a b:Int},Ae ek BinOp.geq (Ab.int k a) (Ab.int k b)=Option.some (Ab.bool (Decidable.decide (a>=b)))) /\
 (∀ {ek:EqK} {k:IntKind} {a b:Int},Ae ek BinOp.eql (Ab.int k a) (Ab.int k b)=Option.some (Ab.bool (a == b))))) /\
 (((∀ {ek:EqK} {k:IntKind} {a b:Int},Ae ek BinOp.neq (Ab.int k a) (Ab.int k b)=Option.some (Ab.bool (a != b))) /\
 (∀ {ek:EqK} {k:IntKind} {a b:Int},Ae ek BinOp.add (Ab.int k a) (Ab.int k b)=Option.some (Ab.int k (IntKind.wrap k (a+b))))) /\
 ((∀ {ek:EqK} {k:IntKind} {a b:Int},Ae ek BinOp.sub (Ab.int k a) (Ab.int k b)=Option.some (Ab.int k (IntKind.wrap k (a-b)))) /\
 ((∀ {ek:EqK} {k:IntKind} {a b:Int},Ae ek BinOp.mul (Ab.int k a) (Ab.int k b)=Option.some (Ab.int k (IntKind.wrap k (a*b)))) /\
 (∀(a b:Out),Ak (Ab.bool Bool.true) a b=a)))))) /\
 (((((∀(a b:Out),Ak (Ab.bool Bool.false) a b=b) /\
 (∀(a b:Ab),AF (Ab.bool Bool.true) a b=Option.some a)) /\
 ((∀(a b:Ab),AF (Ab.bool Bool.false) a b=Option.some b) /\
 (∀ {kv:Ab->Out} (x:Option Ab),gk (Ab.bool Bool.true) Bool.true x kv=Option.bind x kv))) /\
 (((∀ {kv:Ab->Out} (x:Option Ab),gk (Ab.bool Bool.false) Bool.false x kv=Option.bind x kv) /\
 (∀ {kv:Ab->Out} (x:Option Ab),gk (Ab.bool Bool.true) Bool.false x kv=kv Ck)) /\
 ((∀ {kv:Ab->Out} (x:Option Ab),gk (Ab.bool Bool.false) Bool.true x kv=kv Ck) /\
 ((∀ {kv:Ab->Out} (w:Bool) (x:Option Ab),gk (Ab.tup []) w x kv=kv Ck) /\
 (∀ {x:Option Ab} {p:Bool->Ab->Prop} {k:Ab->Out},gkc (Ab.bool Bool.true) Bool.true x p k=bC x (p Bool.true) k))))) /\
 ((((∀ {x:Option Ab} {p:Bool->Ab->Prop} {k:Ab->Out},gkc (Ab.bool Bool.false) Bool.false x p k=bC x (p Bool.true) k) /\
 (∀ {x:Option Ab} {p:Bool->Ab->Prop} {k:Ab->Out},gkc (Ab.bool Bool.true) Bool.false x p k=chk (p Bool.false Ck) (k Ck))) /\
 ((∀ {x:Option Ab} {p:Bool->Ab->Prop} {k:Ab->Out},gkc (Ab.bool Bool.false) Bool.true x p k=chk (p Bool.false Ck) (k Ck)) /\
 (∀ {x:Option Ab} {p:Bool->Ab->Prop} {k:Ab->Out} {w:Bool},gkc (Ab.tup []) w x p k=chk (p Bool.false Ck) (k Ck)))) /\
 (((∀ {v:Ab} {p:Ab->Prop} {k:Ab->Out},bC (Option.some v) p k=chk (p v) (k v)) /\
 (∀ {x:Out},chk True x=x)) /\
 ((∀ {H0 H:Aa} {k:Ab->Aa->Out} (x:Out),gbK H0 (Ab.bool Bool.true) Bool.true H x k=bK H0 x k) /\
 ((∀ {H0 H:Aa} {k:Ab->Aa->Out} (x:Out),gbK H0 (Ab.bool Bool.false) Bool.false H x k=bK H0 x k) /\
 (∀ {H0 H:Aa} {k:Ab->Aa->Out} (x:Out),gbK H0 (Ab.bool Bool.true) Bool.false H x k=k Ck H))))))) /\
 ((((((∀ {H0 H:Aa} {k:Ab->Aa->Out} (x:Out),gbK H0 (Ab.bool Bool.false) Bool.true H x k=k Ck H) /\
 (∀ {H0 H:Aa} {k:Ab->Aa->Out} (w:Bool) (x:Out),gbK H0 (Ab.tup []) w H x k=k Ck H)) /\
 ((∀ {H0 H:Aa} {k:Ab->Aa->Out} (x:Out),gbP H0 (Ab.bool Bool.true) Bool.true H x k=bP H0 x k) /\
 (∀ {H0 H:Aa} {k:Ab->Aa->Out} (x:Out),gbP H0 (Ab.bool Bool.false) Bool.false H x k=bP H0 x k))) /\
 (((∀ {H0 H:Aa} {k:Ab->Aa->Out} (x:Out),gbP H0 (Ab.bool Bool.true) Bool.false H x k=k Ck H) /\
 (∀ {H0 H:Aa} {k:Ab->Aa->Out} (x:Out),gbP H0 (Ab.bool Bool.false) Bool.true H x k=k Ck H)) /\
 ((∀ {H0 H:Aa} {k:Ab->Aa->Out} (w:Bool) (x:Out),gbP H0 (Ab.tup []) w H x k=k Ck H) /\
 (∀ {H:Aa} {k:Ab->Aa->Out} (x:Out),gbN (Ab.bool Bool.true) Bool.true H x k=Bc x k)))) /\
 ((((∀ {H:Aa} {k:Ab->Aa->Out} (x:Out),gbN (Ab.bool Bool.false) Bool.false H x k=Bc x k) /\
 (∀ {H:Aa} {k:Ab->Aa->Out} (x:Out),gbN (Ab.bool Bool.true) Bool.false H x k=k Ck H)) /\
 ((∀ {H:Aa} {k:Ab->Aa->Out} (x:Out),gbN (Ab.bool Bool.false) Bool.true H x k=k Ck H) /\
 (∀ {H:Aa} {k:Ab->Aa->Out} (w:Bool) (x:Out),gbN (Ab.tup []) w H x k=k Ck H))) /\
 (((∀ {H:Aa} {k:Ab->Aa->Out} (v:Ab),Bc (Option.some (Res.ret v,H)) k=k v H) /\
 (∀ {H0 H:Aa} {k:Ab->Aa->Out} (v:Ab),bK H0 (Option.some (Res.ret v,H)) k=k v H)) /\
 ((∀ {H0 H:Aa} {k:Ab->Aa->Out} (v:Ab),bP H0 (Option.some (Res.ret v,H)) k=k v H) /\
 ((∀ {H0 H:Aa} (v:Ab),rK H0 v H=Option.some (Res.ret v,H)) /\
 (∀ {H H0:Aa} {v:Ab},rKN H0 v H=Option.some (Res.ret (forget v),H))))))) /\
 (((((∀ {c:Bool},unA UnOp.not (Ab.bool c)=Option.some (Ab.bool !c)) /\
 (∀ {H:Aa} (v:Ab),retV (Option.some v) H=Option.some (Res.ret v,H))) /\
 ((∀ {H:Aa},A8 (Option.some H)=Option.some (Res.ret Ab.undef,H)) /\
 (∀ {H:Aa} (v:Ab),Cb (Option.some (v,H))=Option.some (Res.ret v,H)))) /\
 (((∀ {H:Aa} {k:Ab->Aa->Out} (v:Ab),An (Option.some (v,H)) k=k v H) /\
 (∀ {a b:Int},(a == b)=decide (a=b))) /\
 ((∀ {a b:Int},(a != b) = !decide (a=b)) /\
 (((!true)=false) /\
 ((!false)=true))))) /\
 (((((false=true)=False) /\
 (∀(b:Bool),(false||b)=b)) /\
 ((∀(b:Bool),(true||b)=true) /\
 (∀(b:Bool),(b||false)=b))) /\
 (((∀(b:Bool),(b||true)=true) /\
 (∀(b:Bool),(b&&true)=b)) /\
 ((∀(b:Bool),(true&&b)=b) /\
 ((∀(b:Bool),(b&&false)=false) /\
 (∀(b:Bool),(false&&b)=false)))))))):=
 ⟨⟨⟨⟨⟨⟨@BH,@Am⟩,⟨@Bg,@Bk⟩⟩,⟨⟨@B4,@BS⟩,⟨@DG,@Br⟩⟩⟩,⟨⟨⟨@Dy,@Lq⟩,⟨@ID,@DR⟩⟩,⟨⟨@IB,@CC⟩,⟨@Dx,⟨@IC,@AZ⟩⟩⟩⟩⟩,⟨⟨⟨⟨@AQ,@C9⟩,⟨@C2,@J2⟩⟩,⟨⟨@Mt,@Th⟩,⟨@QX,⟨@gk_s,@PT⟩⟩⟩⟩,⟨⟨⟨@PW,@PU⟩,⟨@PV,@Vw⟩⟩,⟨⟨@QC,@Id⟩,⟨@Qg,⟨@Qj,@Qh⟩⟩⟩⟩⟩⟩,⟨⟨⟨⟨⟨@Qi,@Vz⟩,⟨@PY,@Qb⟩⟩,⟨⟨@PZ,@Qa⟩,⟨@Vx,@Qc⟩⟩⟩,⟨⟨⟨@Qf,@Qd⟩,⟨@Qe,@Vy⟩⟩,⟨⟨@B9,@Fq⟩,⟨@CH,⟨@NG,@Ei⟩⟩⟩⟩⟩,⟨⟨⟨⟨@J8,@IH⟩,⟨@AL,@Dp⟩⟩,⟨⟨@Bv,@GX⟩,⟨@Lp,⟨WH,WT⟩⟩⟩⟩,⟨⟨⟨@Bool.false_eq_true,@Bool.false_or⟩,⟨@Bool.true_or,@Bool.or_false⟩⟩,⟨⟨@Bool.or_true,@Bool.and_true⟩,⟨@Bool.true_and,⟨@Bool.and_false,@Bool.false_and⟩⟩⟩⟩⟩⟩⟩
theorem GMc:((∀(f:(List Ab->Aa->Out)->Out) (j:List Ab->Aa->Out),AK f j=f j)/\(∀h:Decidable True,@decide True h=true)/\(∀h:Decidable False,@decide False h=false)/\(∀(α:Type) (h:Decidable True) (t e:α),@ite α True h t e=t)/\(∀(α:Type) (h:Decidable False) (t e:α),@ite α False h t e=e)):=
 ⟨λ_ _=>rfl,λ_=>decide_true _,λ_=>decide_false _,λ_ _ _ _=>if_true _ _,λ_ _ _ _=>if_false _ _⟩
def GMw:=And.intro GMb GMc
end Go.Gm
namespace Go.Proofs
open Go.RowKit Go.Shelf
attribute [local go_sem] Oper.semAt_some
def KB (n₀ Bs:Nat)(W W':World):Prop:=Below n₀ W W'/\W'.cell? ⟨Bs,0,none⟩=W.cell? ⟨Bs,0,none⟩
theorem KB.refl (n₀ Bs:Nat)(W:World):KB n₀ Bs W W:=⟨Below.refl _ _,rfl⟩
theorem KB.trans {n₀ Bs:Nat}{A B C:World}(h:KB n₀ Bs A B)(k:KB n₀ Bs B C):KB n₀ Bs A C:=⟨h.1.trans k.1,k.2.trans h.2⟩
def MQ (n k:Nat):List (Fin n):=(List.finRange n).reverse.take k
theorem Oh {n k:Nat}(h:k<n):MQ n (k+1)=MQ n k++[⟨n-1-k,by omega⟩]:=by
 unfold MQ;rw[List.take_add_one,List.getElem?_reverse (by simpa using h)];simp;rw[List.getElem?_eq_getElem (by simp;omega)];simp
theorem backF_length {n k:Nat}(h:k<=n):(MQ n k).length=k:=by simp[MQ,h]
theorem QB {n:Nat}:∀(k:Nat) (j:Fin n),k<=n->n-k<=j.1->j∈MQ n k
 | 0,j,_,h=>by have:=j.2;omega
 | k+1,j,hk,h=>by
  rw[Oh (by omega)];by_cases e:j.1=n-1-k
  ·exact List.mem_append_right _ (by simp;exact Fin.ext e)
  ·exact List.mem_append_left _ (QB k j (by omega) (by omega))
set_option maxRecDepth 100000 in
set_option maxHeartbeats 2000000 in
theorem Tryz.back1_in (F:Fence)(n:Nat)(h229:F.fn 229)(hro:F.round=none)(hn:1<=n)(l Bs n₀ b off len cap:Nat)(ao:Option Addr)(hao:0<len->ao=some ⟨b,off,none⟩)(zf:Nat->Nat)(hreach:len<=1099511627776)(hb:b<n₀)(J Jx:List (Fin len)->World->Prop)
  (hY:∀pre (x:Fin len) W,J pre W->pre.length<len->YieldAt F (n-1) Tryz.prog l #[.i6 (x.1:Int),.int .u32 ((zf x.1:Nat):Int)] W λe W'=>
   (e=.returned (.bool true)/\J (pre++[x]) W'/\KB n₀ Bs W W')\/(e=.returned (.bool false)/\Jx (pre++[x]) W'))
  (W:World)(hBs:W.cell? ⟨Bs,0,none⟩=some (.slice ao len cap))(hc:∀j,j<len->W.cell? ⟨b,off+j,none⟩=some (.int .u32 ((zf j:Nat):Int)))(h0:J [] W) :
  CallsIn F n Tryz.prog 229 #[.func (.yield l) #[] #[],.pointer (some ⟨Bs,0,none⟩)] W λe W'=>(∃v,e=.returned v) /\
   ((∃ys,ys=MQ len len/\J ys W')\/(∃pre,(∃k,k<len/\pre=MQ len (k+1))/\Jx pre W')):=by
 refine callsIn_of_wp Tryz.func229 rfl h229 ?_ hro;simp only[Tryz.ntmps229,List.size_toArray,List.length_cons,List.length_nil,Nat.reduceAdd,Nat.reduceSub,Array.replicate_succ,Array.replicate_zero,List.push_toArray,List.append_toArray,List.nil_append,List.cons_append]
 gi_wp2
 gi_loopw [3] (λi wr=>∃k:Nat,k<=len/\i=.i6 ((len:Int)-1-k)/\J (MQ len k) wr/\KB n₀ Bs W wr)
  (λi _=>((intOf i)+1).toNat)
 case atStart=>exact⟨0,Nat.zero_le _,by simp,h0,KB.refl _ _ _⟩
 case round=>
  obtain⟨k,hk,rfl,hJs,hkb⟩:=hrel;have hnx:=hkb.1;have hBs':=hkb.2.trans hBs;by_cases hlt:k<len
  ·have hao':=hao (by omega);subst hao';have hcx:=(hnx.cell (p:=⟨b,off+(len-1-k),none⟩) hb).trans (hc (len-1-k) (by omega));obtain⟨fn,tmps,assign,body,hy,hR⟩:=hY _ ⟨len-1-k,by omega⟩ wr hJs (by rw[backF_length hk];exact hlt);dsimp only at hy;have hlast:=Oh hlt;obtain⟨i,hi⟩:∃i:Nat,i=len-1-k:=⟨_,rfl⟩;have hil:i<len:=by omega
   obtain⟨x,hx⟩:∃x:Fin len,x=⟨len-1-k,by omega⟩:=⟨_,rfl⟩;rw[<-hx]at hR hlast;clear hx;have hii:(len:Int)-1-(k:Int)=(i:Int):=by omega
   rw[<-hi]at hcx hy;have hstep:(i:Int)-1=(len:Int)-1-((k+1:Nat):Int):=by omega
   rw[hii];clear hi hii;obtain⟨z,hzz⟩:∃z:Nat,z=zf i:=⟨_,rfl⟩;rw[<-hzz]at hcx hy;clear hzz;clear hkb;have hkb:Hid (KB n₀ Bs W wr):=⟨hnx,hBs'.trans hBs.symm⟩
   gi_wp2
   refine hR.mono ?_;rintro e W3 (⟨rfl,hJ3,hk3⟩ | ⟨rfl,hJx3⟩)
   ·gi_wp2
    go_roundw
    case rel=>exact⟨k+1,by omega,by simp,by rw[hlast];exact hJ3,hkb.out.trans hk3⟩
    case measure=>simp[intOf];omega
   ·gi_wp2
    refine bodyPost_ret (results_none rfl _ _ _) rfl ?_;exact⟨⟨_,rfl⟩,.inr ⟨_,⟨k,hlt,hlast.symm⟩,hJx3⟩⟩
  ·obtain rfl:k=len:=by omega
   gi_wp2
   go_end0
   exact⟨⟨_,rfl⟩,.inl ⟨_,rfl,hJs⟩⟩
set_option maxHeartbeats 1000000 in
theorem Tryz.back_in (F:Fence)(n:Nat)(h205:F.fn 205)(hro:F.round=none)(a:Option Addr)(len cap:Nat)(w:World) :
  CallsIn F n Tryz.prog 205 #[.slice a len cap] w λe w'=>e=.returned (.func (.func 229) #[] #[.pointer (some ⟨w.heap.size,0,none⟩)])/\w'=w.alloc (.cells #[.slice a len cap] 44):=by
 refine callsIn_of_wp Tryz.func205 rfl h205 ?_ hro;simp only[Tryz.ntmps205,List.size_toArray,List.length_cons,List.length_nil,Nat.reduceAdd,Nat.reduceSub,Array.replicate_succ,Array.replicate_zero,List.push_toArray,List.append_toArray,List.nil_append,List.cons_append]
 gi_wp2
 go_ret
 exact⟨rfl,rfl⟩
theorem Tryz.back_stops (F:Fence)(n:Nat)(h229:F.fn 229)(hro:F.round=none)(hn:1<=n)(Bs n₀ b off len cap:Nat)(ao:Option Addr)(hao:0<len->ao=some ⟨b,off,none⟩)(zf:Nat->Nat)(hreach:len<=1099511627776)(w:World)(hBs:Bs<w.heap.size)(hb:b<n₀)(hn₀:n₀<=w.heap.size)
  (hc:w.cell? ⟨Bs,0,none⟩=some (.slice ao len cap))(hI:∀j,j<len->w.cell? ⟨b,off+j,none⟩=some (.int .u32 ((zf j:Nat):Int))) :
  SeqStopsK F n Tryz.prog 229 #[.pointer (some ⟨Bs,0,none⟩)] (λx:Fin len=>#[Value.i6 (x.1:Int),Value.int .u32 ((zf x.1:Nat):Int)]) (KB n₀ Bs) (λys=>ys=MQ len len)
   (λpre=>∃k,k<len/\pre=MQ len (k+1)) len w:=λl J Jx W hW _ _ hY h0=>
 Tryz.back1_in F n h229 hro hn l Bs n₀ b off len cap ao hao zf hreach hb J Jx hY W ((hW.cell (p:=⟨Bs,0,none⟩) hBs).trans hc) (λj hj=>(hW.cell (p:=⟨b,off+j,none⟩) (by show b<_;omega)).trans (hI j hj)) h0
end Go.Proofs
namespace Go.Gm
def Hr (l:List Nat):Nat->Nat
 | 0=>0
 | k+1=>if l[k]?.getD 0=0 then Hr l k else k+1
theorem On (l:List Nat):∀k,Hr l k<=k
 | 0=>VV _
 | k+1=>by
  have:=On l k;unfold Hr;split <;> omega
theorem JO {l:List Nat}(hx:Lim l):∀k,k<=l.length->l.take (Hr l k)=AA (val (l.take k))
 | 0,_=>by
  have:AA (val ([]:List Nat))=[]:=(Mp (l:=[]) ⟨λx h=>(by cases h),λx h=>(by cases h)⟩).symm;simpa[Hr]using this.symm
 | k+1,hk=>by
  have hg:l[k]? = some l[k]:=VO (by omega);have ht:l.take (k+1)=l.take k++[l[k]]:=Wb (by omega);unfold Hr;split
  ·rename_i h;rw[JO hx k (by omega),ht,Cz];rw[hg,Option.getD_some]at h;rw[h];simp[val]
  ·rename_i h;rw[hg,Option.getD_some]at h;refine Mp ⟨λx iD=>hx x (WZ iD),λx iD=>?_⟩;rw[ht,List.getLast?_concat]at iD;cases iD;exact h
theorem q_right {l:List Nat}{H:Aa}{id k:Nat}(hg:H[id]? = some (.cel 0 (flat cU l)))(hk:k<=l.length)(hl:l.length<9223372036854775807):Sh.fa (.ms id 0 0 k l.length 1 true) H=some (.ret (.bool (decide (k=0)||decide (l[k-1]?.getD 0≠0))),H):=by
 unfold Sh.fa;cases k with
 | zero=>simp[A7]
 | succ k=>
  have hidx:=CL (sz:=1) (id:=id) (n:=k+1) (K:=.i64) (g:=0) (off:=0) (cap:=l.length) (ex:=true) (i:=k) (by omega);simp only[VU,Wg]at hidx;have hld:=Iy (f:=cU) (id:=id) (l:=l) (H:=H) (show AC H id 0=some (flat cU l)by simp[AC,hg]) (i:=k) (by omega);have h0:¬((k+1:Nat):Int)=0:=by omega
  have hw:IntKind.i64.wrap (((k+1:Nat):Int)-1)=(k:Int):=by rw[Ao] <;> omega
  have vN:l[k]? = some l[k]:=VO (by omega);simp only[show A7 (.ms id 0 0 (k+1) l.length 1 true)=some (.i6 ((k+1:Nat):Int)) from rfl,GMw,h0,hw,hidx,hld,Wl,vN,Option.getD_some,XF];by_cases h:l[k]=0
  ·simp[h]
  ·have:¬(l[k]:Int)=0:=by omega
   simp[h,this]
theorem q_cut {l:List Nat}{H:Aa}{id:Nat}(hg:H[id]? = some (.cel 0 (flat cU l)))(hl:l.length<1152921504606846976):Sh.f1 (.ms id 0 0 l.length l.length 1 true) H=some (.ret (.ms id 0 0 (Hr l l.length) l.length 1 true),H):=by
 unfold Sh.f1;refine Bq (σ:=Nat) (λk=>k<=l.length/\Hr l k=Hr l l.length) (λk=>[.ms id 0 0 k l.length 1 true]) (λ_=>H) (λk=>k) (λ_=>some (.ret (.ms id 0 0 (Hr l l.length) l.length 1 true),H)) (λk rec hi hrec=>?_) l.length ⟨VV _,rfl⟩ (by omega);obtain⟨hk,ht⟩:=hi;unfold Sh.f12;simp only[Am,q_right hg hk (by omega),GMw];cases k with
 | zero=>simp[<-ht,Hr,rKN,fin,forget,Ev,fgt]
 | succ k=>
  by_cases h:l[k]?.getD 0=0
  ·have hw:IntKind.i64.wrap (((k+1:Nat):Int)-1)=(k:Int):=by rw[Ao] <;> omega
   have hsl:Bw 1 (.ms id 0 0 (k+1) l.length 1 true) none (some (.i6 (k:Int))) none=some (.ms id 0 0 k l.length 1 true):=by
    have:(0:Int)<=(k:Int):=by omega
    simp only[Bw,By,zXa,this,if_true,zXl];rw[if_pos ⟨trivial,by omega,by omega,by omega⟩];simp
   have dT:Hr l k=Hr l l.length:=by rw[<-ht];simp[Hr,h]
   have hr:=hrec k ⟨by omega,dT⟩ (by omega);simp only[h,show A7 (.ms id 0 0 (k+1) l.length 1 true)=some (.i6 ((k+1:Nat):Int)) from rfl,GMw,hw,hsl,Wl,ne_eq,not_true_eq_false,XF];exact hr
  ·have dT:Hr l (k+1)=k+1:=by simp[Hr,h]
   rw[<-ht,dT];simp only[h,GMw,Wl,ne_eq,not_false_eq_true,XF];simp[rKN,fin,forget,Ev,fgt]
open Go.Proofs
set_option maxRecDepth 100000
noncomputable def kK (kn kr:List Ab->Aa->Out):R0
 | .normal,tm,H=>kn tm H
 | .ret,tm,H=>kr tm H
 | .pan v,_,H=>some (.pan v,H)
 | .exit _,_,_=>none
noncomputable def sfst:Code->Code
 | .seq a _=>a
 | c=>c
noncomputable def ssnd:Code->Code
 | .seq _ b=>b
 | c=>c
noncomputable def cmO:Orc:=ent 201 (ap1 Sh.f1) noO
noncomputable def Ug:Cfg:=mkC Tryz.prog Gs false cmO
noncomputable def cdA:Code:=sfst (E4 Tryz.f156)
noncomputable def cdB:Code:=sfst (ssnd (E4 Tryz.f156))
noncomputable def cdC:Code:=sfst (ssnd (ssnd (E4 Tryz.f156)))
noncomputable def cdD:Code:=ssnd (ssnd (ssnd (E4 Tryz.f156)))
theorem body_156:Tryz.f156.body=some (.seq cdA (.seq cdB (.seq cdC cdD))):=by kernel_rfl
noncomputable def cmA (kn:List Ab->Aa->Out)(x0 x1:Ab)(H0:Aa):Out:=
 An (BD true 1 x1 H0) λb_41 H42=>
 An (Az (some [(.i6 0)]) H42) λx43 H44=>
 kn [x0,x1,.undef,b_41,x43,.undef,.undef,.undef,.undef,.undef,.undef,.undef,.undef,.undef,.undef,.undef,.undef,.undef,.undef,.undef,.undef,.undef,.undef,.undef,.undef,.undef,.undef,.undef,.undef,.undef,.undef,.undef,.undef,.undef,.undef,.undef,.undef,.undef,.undef] H44
noncomputable def cmB (kn:List Ab->Aa->Out)(x0 x1 x3 x4:Ab)(H0:Aa):Out:=
 Bc (Sh.f1 x0 H0) λx41 H42=>
 bC (Ac false 1 x3 H42) (λx43=>Ac false 1 x3 H0=some x43/\True) λx43=>
 Bc (Sh.f1 x43 H42) λx44 H45=>
 bK H0 (A8 (Af 1 x3 x44 H45)) λ_ H47=>
 kn [x41,x1,.undef,x3,x4,.undef,.undef,x0,x41,x43,x44,.undef,.undef,.undef,.undef,.undef,.undef,.undef,.undef,.undef,.undef,.undef,.undef,.undef,.undef,.undef,.undef,.undef,.undef,.undef,.undef,.undef,.undef,.undef,.undef,.undef,.undef,.undef,.undef] H47
noncomputable def cmC (kn kr:List Ab->Aa->Out)(x0 x3 x4:Ab)(H0:Aa):Out:=
 (A7 x0).bind λx41=>
 (Ac false 1 x3 H0).bind λx42=>
 (A7 x42).bind λx43=>
 (Ae .none .neq x41 x43).bind λx44=>
 Ak x44 (
 (A7 x0).bind λx45=>
 (Ac false 1 x3 H0).bind λx46=>
 (A7 x46).bind λx47=>
 (Ae .none .lss x45 x47).bind λx48=>
 Ak x48 (
 bK H0 (A8 (Af 1 x4 (.i6 (-1)) H0)) λ_ H50=>
 kr [x0,.undef,.undef,x3,x4,.undef,.undef,.undef,.undef,.undef,.undef,x0,x41,x42,x43,x44,x0,x45,x46,x47,x48,.undef,.undef,.undef,.undef,.undef,.undef,.undef,.undef,.undef,.undef,.undef,.undef,.undef,.undef,.undef,.undef,.undef,.undef] H50) (
 bK H0 (A8 (Af 1 x4 (.i6 1) H0)) λ_ H52=>
 kr [x0,.undef,.undef,x3,x4,.undef,.undef,.undef,.undef,.undef,.undef,x0,x41,x42,x43,x44,x0,x45,x46,x47,x48,.undef,.undef,.undef,.undef,.undef,.undef,.undef,.undef,.undef,.undef,.undef,.undef,.undef,.undef,.undef,.undef,.undef,.undef] H52)) (
 kn [x0,.undef,.undef,x3,x4,.undef,.undef,.undef,.undef,.undef,.undef,x0,x41,x42,x43,x44,.undef,.undef,.undef,.undef,.undef,.undef,.undef,.undef,.undef,.undef,.undef,.undef,.undef,.undef,.undef,.undef,.undef,.undef,.undef,.undef,.undef,.undef,.undef] H0)
theorem cmA_eq (kn kr:List Ab->Aa->Out)(x0 x1:Ab)(H:Aa):ev2 Ug 39 cdA .lf (kK kn kr) [x0,x1,.undef,.undef,.undef,.undef,.undef,.undef,.undef,.undef,.undef,.undef,.undef,.undef,.undef,.undef,.undef,.undef,.undef,.undef,.undef,.undef,.undef,.undef,.undef,.undef,.undef,.undef,.undef,.undef,.undef,.undef,.undef,.undef,.undef,.undef,.undef,.undef,.undef] H=cmA kn x0 x1 H:=by kernel_rfl
theorem cmB_eq (kn kr:List Ab->Aa->Out)(x0 x1 x3 x4:Ab)(H:Aa):ev2 Ug 39 cdB (.reg [0,1,2,3,4,5]) (kK kn kr) [x0,x1,.undef,x3,x4,.undef,.undef,.undef,.undef,.undef,.undef,.undef,.undef,.undef,.undef,.undef,.undef,.undef,.undef,.undef,.undef,.undef,.undef,.undef,.undef,.undef,.undef,.undef,.undef,.undef,.undef,.undef,.undef,.undef,.undef,.undef,.undef,.undef,.undef] H=cmB kn x0 x1 x3 x4 H:=by kernel_rfl
theorem cmC_eq (kn kr:List Ab->Aa->Out)(x0 x3 x4:Ab)(H:Aa):ev2 Ug 39 cdC (.tw .lf (.tw (.tw (.tw .lf (.tw (.tw .lf .lf) .lf)) (.tw .lf .lf)) .lf)) (kK kn kr) [x0,.undef,.undef,x3,x4,.undef,.undef,.undef,.undef,.undef,.undef,.undef,.undef,.undef,.undef,.undef,.undef,.undef,.undef,.undef,.undef,.undef,.undef,.undef,.undef,.undef,.undef,.undef,.undef,.undef,.undef,.undef,.undef,.undef,.undef,.undef,.undef,.undef,.undef] H=cmC kn kr x0 x3 x4 H:=by kernel_rfl
structure SW {α:Type}(lt:α->α->Bool):Prop where
 asy:∀a b,lt a b=true->lt b a=false
 neg:∀a b c,lt a b=false->lt b c=false->lt a c=false
section
variable {α:Type}{lt:α->α->Bool}
def BC (lt:α->α->Bool)(a b:α):Bool:=!lt a b && !lt b a
def F9 (lt:α->α->Bool)(l m:List α):Prop:=∀a,l.filter (BC lt a)=m.filter (BC lt a)
def E6 (lt:α->α->Bool)(l:List α):Prop:=l.Pairwise λa b=>lt b a=false
theorem SW.irr (h:SW lt)(a:α):lt a a=false:=by
 cases e:lt a a with
 | false=>rfl
 | true=>have:=h.asy a a e;rw[e]at this;cases this
theorem Mv (h:SW lt)(a:α):BC lt a a=true:=by unfold BC;rw[h.irr];rfl
theorem FZ {a b:α}:BC lt a b=true↔lt a b=false/\lt b a=false:=by unfold BC;simp
theorem F9.refl (l:List α):F9 lt l l:=λ_=>rfl
theorem F9.trans {l m n:List α}(h:F9 lt l m)(k:F9 lt m n):F9 lt l n:=λa=>(h a).trans (k a)
theorem F9.app {l m l' m':List α}(h:F9 lt l m)(k:F9 lt l' m'):F9 lt (l++l') (m++m'):=λa=>by
 rw[WE,WE,h a,k a]
theorem F9.mem (hs:SW lt){l m:List α}(h:F9 lt l m){a:α}:a∈l↔a∈m:=by
 have e:∀l:List α,a∈l↔a∈l.filter (BC lt a):=λl=>by rw[WO];exact⟨λh=>⟨h,Mv hs a⟩,λh=>h.1⟩
 rw[e l,e m,h a]
theorem Ib {l:List α}{p:α->Bool}(h:∀a∈l,p a=false):l.filter p=[]:=by
 rw[List.filter_eq_nil_iff];intro a ha e;rw[h a ha]at e;cases e
theorem F9.swap (hs:SW lt){u v:List α}(h:∀x∈u,∀y∈v,lt y x=true):F9 lt (u++v) (v++u):=λa=>by
 rw[WE,WE];by_cases hu:∃x∈u,BC lt a x=true
 ·obtain⟨x,hx,tJ⟩:=hu;have hv:v.filter (BC lt a)=[]:=Ib λy hy=>by
   cases e:BC lt a y with
   | false=>rfl
   | true=>
    rw[FZ]at e tJ;have:=hs.neg y a x e.2 tJ.1;rw[h x hx y hy]at this;cases this
  rw[hv,Wx,List.nil_append]
 ·have:u.filter (BC lt a)=[]:=Ib λx hx=>by
   cases e:BC lt a x with
   | false=>rfl
   | true=>exact absurd ⟨x,hx,e⟩ hu
  rw[this,Wx,List.nil_append]
theorem Tp (hs:SW lt){x y:α}(h:BC lt x y=true):BC lt x=BC lt y:=by
 rw[FZ]at h
 funext a
 rw[Wo,FZ,FZ];exact⟨λ⟨p,q⟩=>⟨hs.neg _ _ _ h.2 p,hs.neg _ _ _ q h.1⟩,λ⟨p,q⟩=>⟨hs.neg _ _ _ h.1 p,hs.neg _ _ _ q h.2⟩⟩
structure Srt (lt:α->α->Bool)(l m:List α):Prop where
 srt:E6 lt m
 st:F9 lt l m
 len:m.length=l.length
theorem LU {l m:List α}(h1:E6 lt l)(h2:E6 lt m)(h:∀a∈l,∀b∈m,lt b a=false):E6 lt (l++m):=Xe.2 ⟨h1,h2,h⟩
def swp (l:List α)(i j:Nat):List α:=match l[i]?,l[j]? with
 | some a,some b=>(l.set i b).set j a
 | _,_=>l
theorem set_at:∀(A:List α) (x y:α) (R:List α),(A++x::R).set A.length y=A++y::R
 | [],_,_,_=>rfl
 | a::A,x,y,R=>by
  show a::(A++x::R).set A.length y=_;rw[set_at A x y R];rfl
theorem MW (l:List α)(i j:Nat):(swp l i j).length=l.length:=by
 unfold swp;split
 ·rw[zYa,zYa]
 ·rfl
theorem get_at (A:List α)(x:α)(R:List α):(A++x::R)[A.length]? = some x:=by simp
theorem R4 (A M B:List α)(x y:α){i j:Nat}(hi:i=A.length)(hj:j=A.length+1+M.length):swp (A++x::(M++y::B)) i j=A++y::(M++x::B)/\swp (A++x::(M++y::B)) j i=A++y::(M++x::B):=by
 subst hi;have e:∀z:α,A++z::(M++y::B)=(A++z::M)++y::B:=λz=>by simp
 have hlen:∀z:α,(A++z::M).length=j:=λz=>by simp;omega
 have g1:(A++x::(M++y::B))[A.length]? = some x:=get_at _ _ _;have g2:(A++x::(M++y::B))[j]? = some y:=by rw[e,<-hlen x];exact get_at _ _ _
 have s1:∀z w:α,(A++z::(M++y::B)).set j w=A++z::(M++w::B):=λz w=>by rw[e,<-hlen z,set_at];simp
 constructor
 ·unfold swp;rw[g1,g2];dsimp only;rw[set_at,s1]
 ·unfold swp;rw[g1,g2];dsimp only;rw[s1,set_at]

end
section
variable {α:Type}{lt:α->α->Bool}
def IS (lt:α->α->Bool)(l:List α)(i j:Nat):Bool:=match l[i]?,l[j]? with
 | some x,some y=>lt x y
 | _,_=>false
theorem RE {l:List α}{i j:Nat}(hi:i<l.length)(hj:j<l.length):IS lt l i j=lt l[i] l[j]:=by
 unfold IS;rw[VO hi,VO hj]
def KJ (lt:α->α->Bool)(a:Nat):Nat->List α->List α
 | 0,l=>l
 | j+1,l=>if a<j+1/\IS lt l (j+1) j=true then KJ lt a j (swp l (j+1) j)else l
theorem insJ_len (a:Nat):∀(j:Nat) (l:List α),(KJ lt a j l).length=l.length
 | 0,l=>rfl
 | j+1,l=>by
  unfold KJ;split
  ·rw[insJ_len a j,MW]
  ·rfl
theorem insJ_ok (hs:SW lt)(A:List α)(x:α):∀(n:Nat) (S R:List α),S.length=n->E6 lt S->∃P,KJ lt A.length (A.length+S.length) (A++(S++x::R))=A++(P++R)/\Srt lt (S++[x]) P
 | 0,S,R,hn,_=>by
  have:S=[]:=Wk hn;subst this;refine⟨[x],?_,⟨Xc _ _,.refl _,rfl⟩⟩;show KJ lt A.length (A.length+0) _=_;rw[Nat.add_zero];cases hA:A.length with
  | zero=>rfl
  | succ k=>
   unfold KJ;rw[if_neg (by omega)];rfl
 | n+1,S,R,hn,hS=>by
  have hne:S≠[]:=λe=>by rw[e]at hn;cases hn
  obtain⟨T,y,rfl⟩:∃T y,S=T++[y]:=⟨S.dropLast,S.getLast hne,(List.dropLast_concat_getLast hne).symm⟩;have hT:T.length=n:=by simpa using hn
  have hS':=hS;unfold E6 at hS';rw[Xe]at hS';obtain⟨hT1,_,hT2⟩:=hS';have hl:A++((T++[y])++x::R)=(A++T)++y::([]++x::R):=by simp
  have hAT:(A++T).length=A.length+T.length:=VX;have g1:IS lt (A++((T++[y])++x::R)) (A.length+T.length+1) (A.length+T.length)=lt x y:=by
   unfold IS;have e1:(A++((T++[y])++x::R))[A.length+T.length+1]? = some x:=by
    have:A++((T++[y])++x::R)=(A++T++[y])++x::R:=by simp
    rw[this,show A.length+T.length+1=(A++T++[y]).length by simp;omega];exact get_at _ _ _
   have e2:(A++((T++[y])++x::R))[A.length+T.length]? = some y:=by
    rw[hl,<-hAT];exact get_at _ _ _
   rw[e1,e2]
  have hlen:A.length+(T++[y]).length=A.length+T.length+1:=by simp;omega
  rw[hlen];unfold KJ;rw[g1];by_cases hxy:lt x y=true
  ·rw[if_pos ⟨by omega,hxy⟩,hl,(R4 (A++T) [] R y x hAT.symm (by rw[hAT];rfl)).2];obtain⟨P,p1,p2⟩:=insJ_ok hs A x n T (y::R) hT hT1;refine⟨P++[y],?_,⟨?_,?_,by rw[VX,p2.len];simp⟩⟩
   ·have:(A++T)++x::([]++y::R)=A++(T++x::(y::R)):=by simp
    rw[this,p1];simp
   ·refine LU p2.srt (Xc _ _) λa ha b hb=>?_;rw[Wm]at hb;subst hb;have:=(p2.st.mem hs).2 ha;rcases Wn.1 this with h | h
    ·exact hT2 a h b (by simp)
    ·rw[Wm]at h;rw[h];exact hs.asy _ _ hxy
   ·refine F9.trans ?_ (p2.st.app (.refl [y]));rw[VZ,VZ];exact (F9.refl T).app (F9.swap hs λa ha b hb=>by
     rw[Wm]at ha hb;rw[ha,hb];exact hxy)
  ·have pJ:lt x y=false:=by simpa using hxy
   rw[if_neg (λh=>hxy h.2)];refine⟨T++[y]++[x],by simp,⟨LU hS (Xc _ _) λa ha b hb=>?_,.refl _,rfl⟩⟩;rw[Wm]at hb;subst hb;rcases Wn.1 ha with h | h
   ·exact hs.neg _ _ _ pJ (hT2 a h y (by simp))
   ·rw[Wm]at h;rw[h];exact pJ
def Ro (lt:α->α->Bool)(a:Nat):Nat->List α->List α
 | 0,l=>l
 | k+1,l=>KJ lt a (a+1+k) (Ro lt a k l)
theorem insN_len (a:Nat):∀(k:Nat) (l:List α),(Ro lt a k l).length=l.length
 | 0,l=>rfl
 | k+1,l=>by unfold Ro;rw[insJ_len,insN_len a k]
theorem insN_ok (hs:SW lt)(A:List α):∀(k:Nat) (S R:List α),S.length=k+1->∃P,Ro lt A.length k (A++(S++R))=A++(P++R)/\Srt lt S P
 | 0,S,R,hn=>by
  obtain⟨x,rfl⟩:=XJ.1 hn;exact⟨[x],rfl,⟨Xc _ _,.refl _,rfl⟩⟩
 | k+1,S,R,hn=>by
  have hne:S≠[]:=λe=>by rw[e]at hn;cases hn
  obtain⟨T,y,rfl⟩:∃T y,S=T++[y]:=⟨S.dropLast,S.getLast hne,(List.dropLast_concat_getLast hne).symm⟩;have hT:T.length=k+1:=by simpa using hn
  obtain⟨P,p1,p2⟩:=insN_ok hs A k T (y::R) hT;have hPl:P.length=k+1:=by rw[p2.len,hT]
  obtain⟨P',q1,q2⟩:=insJ_ok hs A y P.length P R rfl p2.srt;refine⟨P',?_,⟨q2.srt,(p2.st.app (.refl [y])).trans q2.st,by rw[q2.len,VX,VX,p2.len]⟩⟩;unfold Ro;have:A++((T++[y])++R)=A++(T++y::R):=by simp
  rw[this,p1,show A.length+1+k=A.length+P.length by omega];exact q1

end
section
variable {α:Type}{lt:α->α->Bool}
def swR (a b:Nat):Nat->List α->List α
 | 0,l=>l
 | k+1,l=>swp (swR a b k l) (a+k) (b+k)
theorem R5 (a b:Nat):∀(k:Nat) (l:List α),(swR a b k l).length=l.length
 | 0,l=>rfl
 | k+1,l=>by unfold swR;rw[MW,R5 a b k]
theorem swR_up (A M B U V:List α)(h:U.length=V.length):∀k,k<=U.length->swR A.length (A.length+U.length+M.length) k (A++(U++(M++(V++B))))=A++((V.take k++U.drop k)++(M++((U.take k++V.drop k)++B)))
 | 0,_=>by simp[swR]
 | k+1,hk=>by
  unfold swR;rw[swR_up A M B U V h k (by omega)];have xK:k<U.length:=by omega
  have rB:k<V.length:=by omega
  rw[Ww xK,Ww rB,Wb xK,Wb rB];have e:A++((V.take k++U[k]::U.drop (k+1))++(M++((U.take k++V[k]::V.drop (k+1))++B)))=(A++V.take k)++U[k]::((U.drop (k+1)++(M++U.take k))++V[k]::(V.drop (k+1)++B)):=by simp only[VZ,List.cons_append,List.nil_append]
  have h1:(V.take k).length=k:=by rw[Wj];omega
  have h2:(U.take k).length=k:=by rw[Wj];omega
  rw[e,(R4 (A++V.take k) (U.drop (k+1)++(M++U.take k)) (V.drop (k+1)++B) U[k] V[k] (by rw[VX,h1]) (by simp only[VX,h1,h2,Ws];omega)).1];simp only[VZ,List.cons_append,List.nil_append]
theorem swR_ok (A M B U V:List α)(h:U.length=V.length){a b n:Nat}(ha:a=A.length)(hb:b=A.length+U.length+M.length)(hn:n=U.length):swR a b n (A++(U++(M++(V++B))))=A++(V++(M++(U++B))):=by
 subst ha;subst hb;subst hn;rw[swR_up A M B U V h U.length (VV _),Wd (by omega),Wd (VV _),Xn (VV _),Xn (by omega)];simp
structure Oj (A B W:List α)(m i j:Nat)(l:List α):Prop where
 ex:∃P u v S,l=A++(P++(u++(v++(S++B))))/\P++(v++(u++S))=W/\u.length=i/\v.length=j/\A.length+P.length+i=m
 pos:0<i/\0<j
theorem Oj.start {A B U V:List α}(hU:0<U.length)(hV:0<V.length):Oj A B (V++U) (A.length+U.length) U.length V.length (A++(U++(V++B))):=
 ⟨⟨[],U,V,[],by simp,by simp,rfl,rfl,by simp⟩,hU,hV⟩
theorem Oj.hi {A B W l:List α}{m i j:Nat}(h:Oj A B W m i j l)(hij:j<i):Oj A B W m (i-j) j (swR (m-i) m j l):=by
 obtain⟨⟨P,u,v,S,rfl,hW,hu,hv,hm⟩,h1,h2⟩:=h;have hsp:u.take j++u.drop j=u:=WC j u;have l1:(u.take j).length=j:=by rw[Wj];omega
 have l2:(u.drop j).length=i-j:=by rw[Ws,hu]
 have e:A++(P++(u++(v++(S++B))))=(A++P)++(u.take j++(u.drop j++(v++(S++B)))):=by
  conv=>lhs;rw[<-hsp]
  simp only[VZ]
 rw[e,swR_ok (A++P) (u.drop j) (S++B) (u.take j) v (by rw[l1,hv]) (by rw[VX];omega) (by rw[VX,l1,l2];omega) l1.symm];refine⟨⟨P++v,u.drop j,u.take j,S,by simp,?_,l2,l1,by rw[VX];omega⟩,by omega,h2⟩;rw[<-hW]
 conv=>rhs;rw[<-hsp]
 simp only[VZ]
theorem Oj.lo {A B W l:List α}{m i j:Nat}(h:Oj A B W m i j l)(hij:i<j):Oj A B W m i (j-i) (swR (m-i) (m+j-i) i l):=by
 obtain⟨⟨P,u,v,S,rfl,hW,hu,hv,hm⟩,h1,h2⟩:=h;have hsp:v.take (j-i)++v.drop (j-i)=v:=WC (j-i) v;have l1:(v.take (j-i)).length=j-i:=by rw[Wj];omega
 have l2:(v.drop (j-i)).length=i:=by rw[Ws,hv];omega
 have e:A++(P++(u++(v++(S++B))))=(A++P)++(u++(v.take (j-i)++(v.drop (j-i)++(S++B)))):=by
  conv=>lhs;rw[<-hsp]
  simp only[VZ]
 rw[e,swR_ok (A++P) (v.take (j-i)) (S++B) u (v.drop (j-i)) (by rw[l2,hu]) (by rw[VX];omega) (by rw[VX,l1];omega) hu.symm];refine⟨⟨P,v.drop (j-i),v.take (j-i),u++S,by simp,?_,l2,l1,hm⟩,h1,by omega⟩;rw[<-hW]
 conv=>rhs;rw[<-hsp]
 simp only[VZ]
theorem Oj.eq {A B W l:List α}{m i:Nat}(h:Oj A B W m i i l):swR (m-i) m i l=A++(W++B):=by
 obtain⟨⟨P,u,v,S,rfl,hW,hu,hv,hm⟩,h1,h2⟩:=h;have e:A++(P++(u++(v++(S++B))))=(A++P)++(u++([]++(v++(S++B)))):=by simp
 rw[e,swR_ok (A++P) [] (S++B) u v (by omega) (by rw[VX];omega) (by rw[VX];simp;omega) hu.symm,<-hW];simp
theorem Oj.len {A B W l:List α}{m i j:Nat}(h:Oj A B W m i j l):i<=m/\m+j<=l.length:=by
 obtain⟨⟨P,u,v,S,rfl,hW,hu,hv,hm⟩,h1,h2⟩:=h;simp only[VX];omega
structure BsI (p:Nat->Bool)(s r i j:Nat):Prop where
 le:s<=i/\i<=j/\j<=r
 up:∀c,s<=c->c<i->p c=true
 dn:∀c,j<=c->c<r->p c=false
theorem BsI.start {p:Nat->Bool}{s r:Nat}(h:s<=r):BsI p s r s r:=⟨⟨VV _,h,VV _⟩,λc _ _=>by omega,λc _ _=>by omega⟩
theorem BsI.yes {p:Nat->Bool}{s r i j h:Nat}(k:BsI p s r i j)(hm:∀c d,s<=c->c<=d->d<r->p d=true->p c=true)(h1:i<=h)(h2:h<j)(hp:p h=true):BsI p s r (h+1) j:=by
 obtain⟨⟨a,b,c⟩,d,e⟩:=k;exact⟨⟨by omega,by omega,c⟩,λx hx hy=>hm x h hx (by omega) (by omega) hp,e⟩
theorem BsI.no {p:Nat->Bool}{s r i j h:Nat}(k:BsI p s r i j)(hm:∀c d,s<=c->c<=d->d<r->p d=true->p c=true)(h1:i<=h)(h2:h<j)(hp:p h=false):BsI p s r i h:=by
 obtain⟨⟨a,b,c⟩,d,e⟩:=k;refine⟨⟨a,h1,by omega⟩,d,λx hx hy=>?_⟩;cases hq:p x with
 | false=>rfl
 | true=>have:=hm h x (by omega) hx hy hq;rw[hp]at this;cases this

end
section
variable {α:Type}{lt:α->α->Bool}
theorem HQ {l:List α}(h:E6 lt l)(hs:SW lt){i j:Nat}(hij:i<=j)(hj:j<l.length):lt l[j] (l[i]'(by omega))=false:=by
 by_cases e:i=j
 ·subst e;exact hs.irr _
 ·exact X5.1 h i j (by omega) hj (by omega)
theorem Iw {l:List α}{n:Nat}{x:α}(h:x∈l.take n):∃i,∃hi:i<l.length,i<n/\l[i]=x:=by
 obtain⟨i,hi,e⟩:=Wz h;rw[Wj]at hi;exact⟨i,by omega,by omega,by rw[<-e,Yx]⟩
theorem Ix {l:List α}{n:Nat}{x:α}(h:x∈l.drop n):∃i,∃hi:i<l.length,n<=i/\l[i]=x:=by
 obtain⟨i,hi,e⟩:=Wz h;rw[Ws]at hi;exact⟨n+i,by omega,by omega,by rw[<-e,XL]⟩
theorem P5 (hs:SW lt){U V W1 W2:List α}{i k:Nat}(hU:E6 lt U)(hV:E6 lt V)(h1:∀x∈U.drop i,∀y∈V.take k,lt y x=true)(h2:∀x∈U.take i,∀y∈V.drop k,lt y x=false)
  (w1:Srt lt (U.take i++V.take k) W1)(w2:Srt lt (U.drop i++V.drop k) W2):Srt lt (U++V) (W1++W2):=by
 have eU:U.take i++U.drop i=U:=WC i U;have eV:V.take k++V.drop k=V:=WC k V;have hU':=hU;have hV':=hV;rw[<-eU]at hU';rw[<-eV]at hV';have pU:=(Xe.1 hU').2.2;have pV:=(Xe.1 hV').2.2;refine⟨LU w1.srt w2.srt λa ha b hb=>?_,?_,?_⟩
 ·have kF:=(w1.st.mem hs).2 ha;have hb':=(w2.st.mem hs).2 hb;rcases Wn.1 kF with x | x <;> rcases Wn.1 hb' with y | y
  ·exact pU a x b y
  ·exact h2 a x b y
  ·exact hs.asy _ _ (h1 b y a x)
  ·exact pV a x b y
 ·refine F9.trans ?_ (w1.st.app w2.st);have e1:U++V=U.take i++((U.drop i++V.take k)++V.drop k):=by
   conv=>lhs;rw[<-eU,<-eV]
   simp only[VZ]
  have e2:U.take i++V.take k++(U.drop i++V.drop k)=U.take i++((V.take k++U.drop i)++V.drop k):=by simp only[VZ]
  rw[e1,e2];exact (F9.refl _).app ((F9.swap hs h1).app (.refl _))
 ·rw[VX,w1.len,w2.len,VX,VX,VX,Wj,Wj,Ws,Ws];omega
section
variable {U V A B:List α}{a m b mid s0 r0 s:Nat}
def Sd (lt:α->α->Bool)(l:List α)(P:Nat)(c:Nat):Bool:=!IS lt l (P-c) c
theorem at_U (ha:A.length=a){c:Nat}(h1:a<=c)(h2:c<a+U.length):(A++(U++(V++B)))[c]? = some (U[c-a]'(by omega)):=by
 rw[Wt (by omega),VR (by omega),ha,VO]
theorem at_V (ha:A.length=a)(hm:a+U.length=m){c:Nat}(h1:m<=c)(h2:c<m+V.length):(A++(U++(V++B)))[c]? = some (V[c-m]'(by omega)):=by
 rw[Wt (by omega),Wt (by omega),VR (by omega),show c-A.length-U.length=c-m by omega,VO]
theorem R3 (ha:A.length=a)(hm:a+U.length=m){P c:Nat}(h1:a<=c)(h2:c<m)(h3:m<=P-c)(h4:P-c<m+V.length):Sd lt (A++(U++(V++B))) P c = !lt (V[P-c-m]'(by omega)) (U[c-a]'(by omega)):=by
 unfold Sd IS;rw[at_V ha hm h3 h4,at_U ha h1 (by omega)]
theorem symP_mono (hs:SW lt)(hU:E6 lt U)(hV:E6 lt V)(ha:A.length=a)(hm:a+U.length=m){P c d:Nat}(h1:a<=c)(vW:c<=d)(h2:d<m)(h3:m<=P-d)(h4:P-c<m+V.length)
  (h:Sd lt (A++(U++(V++B))) P d=true):Sd lt (A++(U++(V++B))) P c=true:=by
 rw[R3 ha hm (by omega) h2 h3 (by omega)]at h;rw[R3 ha hm h1 (by omega) (by omega) h4];simp only[WU]at h ⊢;have u:=HQ hU hs (i:=c-a) (j:=d-a) (by omega) (by omega);have v:=HQ hV hs (i:=P-d-m) (j:=P-c-m) (by omega) (by omega);exact hs.neg _ _ _ v (hs.neg _ _ _ h u)
theorem sym_split (hs:SW lt)(hU:E6 lt U)(hV:E6 lt V)(ha:A.length=a)(hm:a+U.length=m)(hb:m+V.length=b)(jL:mid=(a+b) / 2)(hUp:0<U.length)(hVp:0<V.length)
  (h0:s0=if mid<m then mid+m-b else a)(hr:r0=if mid<m then mid else m)(k:BsI (Sd lt (A++(U++(V++B))) (mid+m-1)) s0 r0 s s) :
  (∀x∈U.drop (s-a),∀y∈V.take (mid-s),lt y x=true)/\(∀x∈U.take (s-a),∀y∈V.drop (mid-s),lt y x=false)/\a<=s/\s<=m/\s<=mid/\m<=mid+m-s/\mid+m-s<=b:=by
 obtain⟨⟨k1,_,k2⟩,k3,k4⟩:=k;have jI:a<=s/\s<=m/\s<=mid/\mid+m-s<=b:=by
  by_cases hc:mid<m
  ·rw[if_pos hc]at h0 hr;omega
  ·rw[if_neg hc]at h0 hr;omega
 refine⟨λx hx y hy=>?_,λx hx y hy=>?_,by omega,by omega,by omega,by omega,by omega⟩
 ·obtain⟨i,hi,hi2,rfl⟩:=Ix hx;obtain⟨j,hj,rH,rfl⟩:=Iw hy;have hlt:s<r0:=by
   by_cases hc:mid<m
   ·rw[if_pos hc]at hr;omega
   ·rw[if_neg hc]at hr;omega
  have:=k4 s (VV _) hlt;rw[R3 ha hm (by omega) (by omega) (by omega) (by omega)]at this;simp only[Yr]at this;have u:=HQ hU hs (i:=s-a) (j:=i) hi2 hi;have v:=HQ hV hs (i:=j) (j:=mid+m-1-s-m) (by omega) (by omega);cases e:lt V[j] U[i]with
  | true=>rfl
  | false=>
   have h9:=hs.neg _ _ _ v (hs.neg _ _ _ e u);rw[h9]at this;cases this
 ·obtain⟨i,hi,hi2,rfl⟩:=Iw hx;obtain⟨j,hj,rH,rfl⟩:=Ix hy;have hlt:s0<s:=by
   by_cases hc:mid<m
   ·rw[if_pos hc]at h0;omega
   ·rw[if_neg hc]at h0;omega
  have:=k3 (s-1) (by omega) (by omega);rw[R3 ha hm (by omega) (by omega) (by omega) (by omega)]at this;simp only[WU]at this;have u:=HQ hU hs (i:=i) (j:=s-1-a) (by omega) (by omega);have v:=HQ hV hs (i:=mid+m-1-(s-1)-m) (j:=j) (by omega) hj;exact hs.neg _ _ _ v (hs.neg _ _ _ this u)

end
theorem one_up (hs:SW lt){x:α}{V:List α}{k:Nat}(hV:E6 lt V)(h1:∀y∈V.take k,lt y x=true)(h2:∀y∈V.drop k,lt y x=false):Srt lt ([x]++V) (V.take k++([x]++V.drop k)):=by
 have:=P5 (U:=[x]) (V:=V) (i:=0) (k:=k) (W1:=V.take k) (W2:=[x]++V.drop k) hs (Xc _ _) hV (λa ha y hy=>by
  have:a=x:=by simpa using ha
  rw[this];exact h1 y hy) (λa ha=>by simp at ha) ⟨Xg (Yv k V) hV,F9.refl _,rfl⟩
  ⟨LU (Xc _ _) (Xg (Yy k V) hV) λa ha y hy=>by rw[Wm]at ha;rw[ha];exact h2 y hy,.refl _,rfl⟩
 exact this
theorem one_dn (hs:SW lt){y:α}{U:List α}{i:Nat}(hU:E6 lt U)(h1:∀x∈U.take i,lt y x=false)(h2:∀x∈U.drop i,lt y x=true):Srt lt (U++[y]) (U.take i++([y]++U.drop i)):=by
 have:=P5 (U:=U) (V:=[y]) (i:=i) (k:=1) (W1:=U.take i++[y]) (W2:=U.drop i) hs hU (Xc _ _) (λx hx a ha=>by
  have:a=y:=by simpa using ha
  rw[this];exact h2 x hx) (λx hx a ha=>by simp at ha)
  ⟨LU (Xg (Yv i U) hU) (Xc _ _) λa ha x hx=>by rw[Wm]at hx;rw[hx];exact h1 a ha,.refl _,rfl⟩
  ⟨Xg (Yy i U) hU,by simpa using F9.refl _,by simp⟩
 simpa using this
def upR (a:Nat):Nat->List α->List α
 | 0,l=>l
 | k+1,l=>swp (upR a k l) (a+k) (a+k+1)
def dnR (m:Nat):Nat->List α->List α
 | 0,l=>l
 | k+1,l=>swp (dnR m k l) (m-k) (m-k-1)
theorem upR_ok (A B:List α)(x:α)(V:List α):∀k,k<=V.length->upR A.length k (A++([x]++(V++B)))=A++((V.take k++([x]++V.drop k))++B)
 | 0,_=>by simp[upR]
 | k+1,hk=>by
  have rB:k<V.length:=hk;unfold upR;rw[upR_ok A B x V k (by omega)];have e:A++((V.take k++([x]++V.drop k))++B)=(A++V.take k)++x::([]++V[k]::(V.drop (k+1)++B)):=by
   rw[Ww rB];simp only[VZ,List.cons_append,List.nil_append]
  have h1:(V.take k).length=k:=by rw[Wj];omega
  rw[e,(R4 (A++V.take k) [] (V.drop (k+1)++B) x V[k] (by rw[VX,h1]) (by rw[VX,h1];rfl)).1,Wb rB];simp only[VZ,List.cons_append,List.nil_append]
theorem dnR_ok (A B:List α)(y:α)(U:List α):∀k,k<=U.length->dnR (A.length+U.length) k (A++(U++([y]++B)))=A++((U.take (U.length-k)++([y]++U.drop (U.length-k)))++B)
 | 0,_=>by simp[dnR]
 | k+1,hk=>by
  unfold dnR;rw[dnR_ok A B y U k (by omega)];obtain⟨i,hi⟩:∃i,U.length=i+(k+1):=⟨U.length-(k+1),by omega⟩;have h2:U.length-k=i+1:=by omega
  have h3:U.length-(k+1)=i:=by omega
  have xN:i<U.length:=by omega
  rw[h2,h3];have h1:(U.take i).length=i:=by rw[Wj];omega
  have e:A++((U.take (i+1)++([y]++U.drop (i+1)))++B)=(A++U.take i)++U[i]::([]++y::(U.drop (i+1)++B)):=by
   rw[Wb xN];simp only[VZ,List.cons_append,List.nil_append]
  rw[e,(R4 (A++U.take i) [] (U.drop (i+1)++B) U[i] y (i:=A.length+U.length-k-1) (j:=A.length+U.length-k) (by rw[VX,h1];omega) (by rw[VX,h1];simp;omega)).2,Ww xN];simp only[VZ,List.cons_append,List.nil_append]

end
section
variable {α:Type}{lt:α->α->Bool}
def NC (lt:α->α->Bool)(w:Nat)(l:List α):Prop:=∀(i j:Nat) (hj:j<l.length) (hi:i<j),i / w=j / w->lt l[j] (l[i]'(by omega))=false
structure Stg (lt:α->α->Bool)(w:Nat)(l:List α)(a:Nat)(l':List α):Prop where
 ex:∃P,l'=P++l.drop a/\P.length=a/\F9 lt (l.take a) P/\NC lt w P
theorem Stg.start (w:Nat)(l:List α):Stg lt w l 0 l:=⟨⟨[],by simp,rfl,by simpa using F9.refl _,λi j hj=>by simp at hj⟩⟩
theorem Stg.len {w:Nat}{l l':List α}{a:Nat}(h:Stg lt w l a l')(ha:a<=l.length):l'.length=l.length:=by
 obtain⟨P,rfl,hP,_,_⟩:=h.ex;rw[VX,hP,Ws];omega
theorem Tz {w a i:Nat}(hw:0<w)(hd:w ∣ a)(hi:i<w):(a+i) / w=a / w:=by
 obtain⟨q,rfl⟩:=hd;rw[Nat.mul_add_div hw,Nat.mul_div_cancel_left _ hw,Xt hi];omega
theorem div_less {w a i:Nat}(hw:0<w)(hd:w ∣ a)(hi:i<a):i / w<a / w:=by
 obtain⟨q,rfl⟩:=hd;rw[Nat.mul_div_cancel_left _ hw];rw[Xr hw,Xi];exact hi
theorem NC.app {w:Nat}{P S:List α}(hw:0<w)(hd:w ∣ P.length)(h:NC lt w P)(hS:E6 lt S):S.length<=w->NC lt w (P++S):=by
 intro hl i j hj hi he;rw[VX]at hj;by_cases h1:j<P.length
 ·rw[Yz h1,Yz (by omega)];exact h i j h1 hi he
 ·by_cases h2:i<P.length
  ·have e1:=div_less hw hd h2;have e2:=Tz hw hd (show j-P.length<w by omega);rw[show P.length+(j-P.length)=j by omega]at e2;omega
  ·rw[Xa (by omega),Xa (by omega)];exact X5.1 hS (i-P.length) (j-P.length) (by omega) (by omega) (by omega)
theorem Stg.all {w:Nat}{l l':List α}(h:Stg lt w l l.length l'):F9 lt l l'/\NC lt w l'/\l'.length=l.length:=by
 obtain⟨P,h1,hP,hst,hb⟩:=h.ex;rw[Xn (VV _),Wx]at h1;rw[Wd (VV _)]at hst;subst h1;exact⟨hst,hb,hP⟩
theorem NC.block {w a:Nat}{l:List α}(hw:0<w)(hd:w ∣ a)(h:NC lt w l)(n:Nat)(hn:n<=w):E6 lt ((l.drop a).take n):=by
 refine X5.2 λi j hi hj hij=>?_;rw[Wj,Ws]at hi hj;rw[Yx,Yx,XL,XL];refine h (a+i) (a+j) (by omega) (by omega) ?_;rw[Tz hw hd (by omega),Tz hw hd (by omega)]
theorem NC.whole {w:Nat}{l:List α}(hw:l.length<=w)(h:NC lt w l):E6 lt l:=by
 refine X5.2 λi j hi hj hij=>h i j hj hij ?_;rw[Xt (by omega),Xt (by omega)]
theorem NQ (hs:SW lt):∀l m:List α,(l.Pairwise λa b=>lt a b=true)->(m.Pairwise λa b=>lt a b=true)->(∀a,a∈l↔a∈m)->l=m
 | [],m,_,_,h=>by
  cases m with
  | nil=>rfl
  | cons y m=>have:=(h y).2 (by simp);cases this
 | x::l,m,hl,hm,h=>by
  cases m with
  | nil=>have:=(h x).1 (by simp);cases this
  | cons y m=>
   rw[XI]at hl hm;have hxy:x=y:=by
    rcases WG.1 ((h x).1 (by simp))with e | e
    ·exact e
    ·rcases WG.1 ((h y).2 (by simp))with e' | e'
     ·exact e'.symm
     ·have a1:=hm.1 x e;have a2:=hl.1 y e';rw[hs.asy _ _ a1]at a2;cases a2
   subst hxy
   congr 1
   refine NQ hs l m hl.2 hm.2 λa=>?_;have ne:∀ {k:List α},(∀a∈k,lt x a=true)->a∈k->a≠x:=λhk ha e=>by
    have:=hk a ha;rw[e,hs.irr]at this;cases this
   constructor
   ·intro ha;rcases WG.1 ((h a).1 (by simp[ha]))with e | e
    ·exact absurd e (ne hl.1 ha)
    ·exact e
   ·intro ha;rcases WG.1 ((h a).2 (by simp[ha]))with e | e
    ·exact absurd e (ne hm.1 ha)
    ·exact e
def cpF (lt:α->α->Bool):α->List α->List α
 | _,[]=>[]
 | x,y::t=>if BC lt y x then cpF lt y t else y::cpF lt y t
def cpL (lt:α->α->Bool):List α->List α
 | []=>[]
 | x::t=>x::cpF lt x t
theorem cpF_ok (hs:SW lt):∀(t:List α) (x:α),E6 lt (x::t)->((cpF lt x t).Pairwise λa b=>lt a b=true)/\(∀z∈cpF lt x t,lt x z=true)/\∀z,z∈cpF lt x t↔BC lt z x=false/\(t.filter (BC lt z)).head? = some z
 | [],x,h=>⟨List.Pairwise.nil,λz (hz:z∈[])=>(by cases hz),λz=>(by simp[cpF])⟩
 | y::t,x,h=>by
  have h':=h;unfold E6 at h';rw[XI]at h';obtain⟨hx,ht⟩:=h';obtain⟨i1,i2,i3⟩:=cpF_ok hs t y ht;have yK:=hx y (by simp);unfold cpF;by_cases he:BC lt y x=true
  ·rw[if_pos he];have gI:=Tp hs he;rw[FZ]at he;have hlt:∀z∈cpF lt y t,lt x z=true:=λz hz=>by
    cases e:lt x z with
    | true=>rfl
    | false=>have:=hs.neg y x z he.1 e;rw[i2 z hz]at this;cases this
   refine⟨i1,hlt,λz=>?_⟩;rw[i3 z];have e1:BC lt z y=BC lt z x:=by
    rw[Wo,FZ,FZ];exact⟨λ⟨p,q⟩=>⟨hs.neg _ _ _ p he.1,hs.neg _ _ _ he.2 q⟩,λ⟨p,q⟩=>⟨hs.neg _ _ _ p he.2,hs.neg _ _ _ he.1 q⟩⟩
   rw[e1];constructor
   ·rintro⟨a,b⟩;refine⟨a,?_⟩;rw[WN,if_neg (by rw[e1,a];decide)];exact b
   ·rintro⟨a,b⟩;refine⟨a,?_⟩;rw[WN,if_neg (by rw[e1,a];decide)]at b;exact b
  ·rw[if_neg he];have hxy:lt x y=true:=by
    cases e:lt x y with
    | true=>rfl
    | false=>exact absurd (FZ.2 ⟨yK,e⟩) he
   have hlt:∀z∈cpF lt y t,lt x z=true:=λz hz=>by
    cases e:lt x z with
    | true=>rfl
    | false=>have:=hs.neg x z y e (hs.asy _ _ (i2 z hz));rw[hxy]at this;cases this
   refine⟨XI.2 ⟨i2,i1⟩,λz hz=>?_,λz=>?_⟩
   ·rcases WG.1 hz with e | e
    ·rw[e];exact hxy
    ·exact hlt z e
   ·rw[WG,i3 z,WN];by_cases oL:BC lt z y=true
    ·rw[if_pos oL];have lT:BC lt z x=false:=by
      cases e:BC lt z x with
      | false=>rfl
      | true=>
       rw[FZ]at e oL;have:=hs.neg x z y e.2 oL.1;rw[hxy]at this;cases this
     rw[lT,oL];simp only[List.head?_cons,Wa,YH,false_and,or_false,true_and];exact⟨λh=>h.symm,λh=>h.symm⟩
    ·rw[if_neg oL];have kM:BC lt z y=false:=by simpa using oL
     rw[kM];have hne:z≠y:=λe=>by rw[e,Mv hs]at kM;cases kM
     simp only[hne,false_or,true_and];constructor
     ·intro hb;refine⟨?_,hb⟩;have hz:z∈cpF lt y t:=(i3 z).2 ⟨kM,hb⟩;cases e:BC lt z x with
      | false=>rfl
      | true=>rw[FZ]at e;have:=hlt z hz;rw[e.2]at this;cases this
     ·exact λh=>h.2
theorem cpL_ok (hs:SW lt){l:List α}(h:E6 lt l):((cpL lt l).Pairwise λa b=>lt a b=true)/\∀z,z∈cpL lt l↔(l.filter (BC lt z)).head? = some z:=by
 cases l with
 | nil=>exact⟨List.Pairwise.nil,λz=>by simp[cpL]⟩
 | cons x t=>
  obtain⟨i1,i2,i3⟩:=cpF_ok hs t x h;refine⟨XI.2 ⟨i2,i1⟩,λz=>?_⟩;show z∈x::cpF lt x t↔_;rw[WG,i3 z,WN];by_cases lT:BC lt z x=true
  ·rw[if_pos lT,lT];simp only[List.head?_cons,Wa,YH,false_and,or_false];exact⟨λh=>h.symm,λh=>h.symm⟩
  ·rw[if_neg lT];have hne:z≠x:=λe=>by rw[e,Mv hs]at lT;exact lT rfl
   simp only[hne,false_or];exact⟨λh=>h.2,λh=>⟨by simpa using lT,h⟩⟩

end
def Dk (L:List Nd)(i:Nat)(x:Nd)(c:Int):Bool:=
 decide (0<=c)&&(decide (x.lv=1->c<=255))&&decide (1<x.lv->0<c->c<=i/\∀y,L[(c-1).toNat]? = some y->y.lv=x.lv-1)
def G5 (L:List Nd)(i:Nat):Bool:=
 match L[i]? with
 | some x=>decide (1<=x.lv/\x.lv<=1329)&&(List.range 4).all λk=>Dk L i x (x.kid k)
 | none=>true
def AB (L:List Nd):Bool:=(List.range L.length).all (G5 L)
theorem UV (L:List Nd)(tk:Tok)(H:Aa)(hL:L.length<1152921504606846976):Sh.f2t (.sl (enL cNd L) tk) H=some (.ret (.bool (AB L)),H):=by
 unfold Sh.f2t;rw[show AB L=(List.range L.length).all (G5 L) from rfl];have:=EZ L.length (G5 L) (λi=>[.sl (enL cNd L) tk,.i6 (i:Int)]) H (some (.ret (.bool true),H)) (some (.ret (.bool false),H)) hL (λrec i hi=>?_) (λrec=>?_)
  (G:=λrec1 vs H1=>Sh.f53 H rec1 (ag vs 0) (ag vs 1) H1)
 ·refine this.trans ?_;cases (List.range L.length).all (G5 L) <;> rfl
 ·have hx:(i:Int)<(L.length:Int):=by omega
  have hg:L[i]? = some L[i]:=VO hi;unfold Sh.f53;simp only[Am,Bg,Ax,BH,Br,hx,decide_true,AZ,A1 hi,Ar,AE,Nat.add_zero,Co];by_cases h1:L[i].lv<1
  ·have:G5 L i=false:=by simp only[G5,hg];simp;intro;omega
   simp[h1,this]
  ·by_cases h2:L[i].lv>1329
   ·have:G5 L i=false:=by simp only[G5,hg];simp;intro;omega
    simp[h1,h2,this,A1 hi]
   ·have hd:G5 L i=(List.range 4).all λk=>Dk L i L[i] (L[i].kid k):=by
     simp only[G5,hg];rw[zXc (by omega)];rfl
    simp only[h1,h2,decide_false,Mt,BH,Dy,C2,AQ,hd,AE,Nat.add_zero,Co,Ar,A1 hi];have:=EZ 4 (λk=>Dk L i L[i] (L[i].kid k)) (λk=>[.sl (enL cNd L) tk,.i6 (i:Int),.i6 (k:Int)]) H (rec [.sl (enL cNd L) tk,.i6 ((i+1:Nat):Int)] H) (some (.ret (.bool false),H)) (by decide) (λaA k hk=>?_) (λaA=>?_)
     (G:=λaA vs H1=>Sh.f52 H rec aA (ag vs 0) (ag vs 1) (ag vs 2) H1)
    ·exact this
    ·have hk':(k:Int)<4:=by omega
     unfold Sh.f52;simp only[Am,Bg,Bk,BH,Br,hk',decide_true,AZ,A1 hi,Ar,EP hk,AE,VU,Wg,Ez hk,Co,Au (show k<9223372036854775807 by omega),CC,DR,Dy];generalize L[i].kid k=c;generalize hx':L[i]=x at h1 h2 ⊢;by_cases hc:c<0
     ·have:Dk L i x c=false:=by simp[Dk];omega
      simp[hc,this,A1 hi,hx']
     ·obtain⟨n,rfl⟩:=WQ (show 0<=c by omega);by_cases hl:x.lv=1
      ·by_cases oI:255<n
       ·have:Dk L i x n=false:=by simp[Dk,hl];omega
        have oH:(255:Int)<n:=by omega
        simp[hc,hl,oI,oH,this,A1 hi,hx']
       ·have:Dk L i x n=true:=by simp[Dk,hl];omega
        have oH:¬(255:Int)<n:=by omega
        simp[hc,hl,oI,oH,this,A1 hi,hx']
      ·have cD:1<x.lv:=by omega
       by_cases hn:0<n
       ·by_cases qJ:i<n
        ·have:Dk L i x n=false:=by
          unfold Dk;rw[X3];right;rw[decide_eq_false_iff_not];intro h;have:=(h cD (by omega)).1;omega
         simp[hc,hl,cD,hn,qJ,this,A1 hi,hx']
        ·have hlt:n-1<L.length:=by omega
         have e1:((n:Int)-1).toNat=n-1:=by omega
         have hk2:Dk L i x n=decide (L[n-1].lv=x.lv-1):=by
          unfold Dk;rw[e1,VO hlt,Wo];simp only[Wc,zXe,Wa,forall_eq'];constructor
          ·intro h;exact (h.2 cD (by omega)).2
          ·intro h;exact⟨⟨by omega,by omega⟩,λ_ _=>⟨by omega,h⟩⟩
         have hw:IntKind.i64.wrap (x.lv-1)=x.lv-1:=Ao (by omega) (by omega);simp[hc,hl,cD,hn,qJ,hk2,Hp (show 0<n by omega) (by omega),A1 hlt,A1 hi,hx',hw];by_cases he:L[n-1].lv=x.lv-1 <;> simp[he]
       ·have:Dk L i x n=true:=by
         unfold Dk;simp only[Wc,zXe];exact⟨⟨by omega,by omega⟩,λ_ _=>by omega⟩
        simp[hc,hl,cD,hn,this,A1 hi,hx']
    ·unfold Sh.f52;simp[Au (show i<9223372036854775807 by omega)]
 ·unfold Sh.f53;simp
theorem AO {L:List Nd}(h:AB L=true){i:Nat}(hi:i<L.length):1<=L[i].lv/\L[i].lv<=1329/\∀k,k<4->0<=L[i].kid k/\(L[i].lv=1->L[i].kid k<=255)/\(1<L[i].lv->0<L[i].kid k->L[i].kid k<=i/\∀y,L[(L[i].kid k-1).toNat]? = some y->y.lv=L[i].lv-1):=by
 have h1:=Wi.1 h i (by simpa using hi);simp only[G5,VO hi,Wc,zXe,Wi]at h1;refine⟨h1.1.1,h1.1.2,λk hk=>?_⟩;have h2:=h1.2 k (by simpa using hk);simp only[Dk,Wc,zXe]at h2;exact⟨h2.1.1,h2.1.2,h2.2⟩
def My (E:List Bool)(x:Nd):Bool:=(List.range 4).all λk=>decide (x.kid k=0)||(decide (1<x.lv)&&E.getD (x.kid k).toNat true)
def A4 (L:List Nd):List Bool:=L.foldl (λE x=>E++[My E x]) [true]
theorem IK (L:List Nd)(x:Nd):A4 (L++[x])=A4 L++[My (A4 L) x]:=by simp[A4]
theorem CT (L:List Nd):(A4 L).length=L.length+1:=by
 rcases Ht L with rfl | ⟨l,a,rfl⟩
 ·rfl
 ·rw[IK];have:=CT l;simp[this]
termination_by L.length
decreasing_by (subst_vars;simp)
theorem V8 (L:List Nd){i:Nat}(hi:i<L.length):A4 (L.take (i+1))=A4 (L.take i)++[My (A4 (L.take i)) L[i]]:=by
 rw[Wb hi,IK]
theorem Jt (L:List Nd)(tk:Tok)(H:Aa)(hL:L.length<140737488355327)(hl:AB L=true):Sh.f1a (.sl (enL cNd L) tk) H=some (.ret (.sl (enL cB (A4 L)) .no),H):=by
 have cX:=Fz (f:=cB) (a:=false) (n:=L.length+1) (bytes:=1) (H:=H) (by omega) (by omega);have hid:=CL (sz:=1) (id:=H.length) (n:=L.length+1) (K:=.i64) (g:=0) (off:=0) (cap:=L.length+1) (ex:=true) (i:=0) (by omega);have hst:=DS (f:=cB) (sz:=1) (l:=List.replicate (L.length+1) false) (i:=0) (a:=true) (v:=.bool true) (H:=H++[.cel 0 (flat cB (List.replicate (L.length+1) false))]) (id:=H.length) (by simp) (by simp) rfl;unfold Sh.f1a;simp only[Ax,BH,CC,Au (show L.length<9223372036854775807 by omega),cX,Bv];simp only[Ym,Nat.add_zero]at hid;rw[show ((0:Nat):Int)=0 from rfl]at hid;simp only[Ym]at hst;rw[hid];simp only[BH,hst,AL,CH,UM,UK];have key:=Cm (G:=λrec1 vs H1=>Sh.f55 H rec1 (ag vs 0) (ag vs 1) (ag vs 2) H1) L.length (λi=>[.sl (enL cNd L) tk,.ms H.length 0 0 (L.length+1) (L.length+1) 1 true,.i6 (i:Int)]) (λi=>H++[.cel 0 (flat cB (A4 (L.take i)++List.replicate (L.length-i) false))]) (some (.ret (.sl (enL cB (A4 L)) .no),H)) (by omega) (λrec i hi=>?_) (λrec=>?_)
 ·have e:(List.replicate (L.length+1) false).set 0 true=A4 (L.take 0)++List.replicate (L.length-0) false:=by simp[zXm,A4]
  rw[e];exact key
 ·have aD:(i:Int)<(L.length:Int):=by omega
  obtain⟨l1,l2,l3⟩:=AO hl hi;have hEl:(A4 (L.take i)).length=i+1:=by rw[CT];simp;omega
  unfold Sh.f55;simp only[Am,Bg,Bk,Ax,BH,Br,aD,decide_true,AZ];have hs:∀k,k<4->1<L[i].lv->(A4 (L.take i)++List.replicate (L.length-i) false).getD (L[i].kid k).toNat true=(A4 (L.take i)).getD (L[i].kid k).toNat true:=by
   intro k hk h1;obtain⟨q1,q2,q3⟩:=l3 k hk;have:(L[i].kid k).toNat<(A4 (L.take i)).length:=by
    rw[hEl];by_cases h0:0<L[i].kid k
    ·have:=(q3 h1 h0).1;omega
    ·omega
   simp only[VW,VR this]
  have hb:∀k,k<4->1<L[i].lv->(L[i].kid k).toNat<L.length+1:=by
   intro k hk h1;obtain⟨q1,q2,q3⟩:=l3 k hk;by_cases h0:0<L[i].kid k
   ·have:=(q3 h1 h0).1;omega
   ·omega
  have hEs:My (A4 (L.take i)) L[i]=(List.range 4).all λk=>decide (L[i].kid k=0)||(decide (1<L[i].lv)&&(A4 (L.take i)++List.replicate (L.length-i) false).getD (L[i].kid k).toNat true):=by
   unfold My;rw[Ii,Ii];by_cases h1:1<L[i].lv
   ·simp only[hs 0 (by omega) h1,hs 1 (by omega) h1,hs 2 (by omega) h1,hs 3 (by omega) h1]
   ·simp only[h1,decide_false,Xh]
  have aI:(A4 (L.take i)++List.replicate (L.length-i) false).set (i+1) (My (A4 (L.take i)) L[i])=A4 (L.take (i+1))++List.replicate (L.length-(i+1)) false:=by
   rw[V8 L hi,W5 _ _ (by omega),hEl,WB,show L.length-i=(L.length-(i+1))+1 from by omega,zXm,List.set_cons_zero];simp
  have hlen:(A4 (L.take i)++List.replicate (L.length-i) false).length=L.length+1:=by simp[hEl];omega
  rw[<-aI,hEs];generalize A4 (L.take i)++List.replicate (L.length-i) false=E at hlen;generalize hx:L[i]=x at l1 l2 l3 hb;have iV:AC (H++[.cel 0 (flat cB E)]) H.length 0=some (flat cB E):=by simp
  refine Cm (G:=λaA vs H1=>Sh.f54 H rec aA (ag vs 0) (ag vs 1) (ag vs 2) (ag vs 3) (ag vs 4) H1) 4 (λk=>[.sl (enL cNd L) tk,.ms H.length 0 0 (L.length+1) (L.length+1) 1 true,.i6 (i:Int),.bool ((List.range k).all λk=>decide (x.kid k=0)||(decide (1<x.lv)&&E.getD (x.kid k).toNat true)),.i6 (k:Int)]) (λ_=>H++[.cel 0 (flat cB E)]) _ (by decide) (λaA k hk=>?_) (λaA=>?_)
  ·have hk':(k:Int)<4:=by omega
   obtain⟨q1,q2,q3⟩:=l3 k hk;have hb':=hb k hk;unfold Sh.f54;have pM:((List.range (k+1)).all λk=>decide (x.kid k=0)||(decide (1<x.lv)&&E.getD (x.kid k).toNat true))=(((List.range k).all λk=>decide (x.kid k=0)||(decide (1<x.lv)&&E.getD (x.kid k).toNat true))&&(decide (x.kid k=0)||(decide (1<x.lv)&&E.getD (x.kid k).toNat true))):=by
    rw[XQ,Y8];simp
   rw[pM];generalize ((List.range k).all λk=>decide (x.kid k=0)||(decide (1<x.lv)&&E.getD (x.kid k).toNat true))=e;simp only[Am,Bg,Bk,B4,BS,BH,Br,hk',decide_true,AZ,A1 hi,hx,Ar,EP hk,AE,VU,Wg,Ez hk,Co,Au (show k<9223372036854775807 by omega),CC,DR,Dy];obtain⟨n,hn⟩:=WQ q1;rw[hn]at hb' ⊢;simp only[zXl]at hb' ⊢;cases e with
   | false=>simp
   | true=>
    by_cases h0:n=0
    ·subst h0;simp
    ·by_cases h1:1<x.lv
     ·have lF:n<E.length:=by rw[hlen];exact hb' h1
      have jQ:=CL (sz:=1) (id:=H.length) (n:=L.length+1) (K:=.i64) (g:=0) (off:=0) (cap:=L.length+1) (ex:=true) (i:=n) (hb' h1);simp only[VU,Wg]at jQ;have hld:=Iy (f:=cB) iV lF;simp[h0,h1,hx,A1 hi,jQ,hld,VO lF]
     ·simp[h0,h1,hx,A1 hi]
  ·have jQ:=CL (sz:=1) (id:=H.length) (n:=L.length+1) (K:=.i64) (g:=0) (off:=0) (cap:=L.length+1) (ex:=true) (i:=i+1) (by omega);simp only[VU,Wg]at jQ;have iO:=DS (f:=cB) (sz:=1) (l:=E) (i:=i+1) (a:=(List.range 4).all λk=>decide (x.kid k=0)||(decide (1<x.lv)&&E.getD (x.kid k).toNat true)) (H:=H++[.cel 0 (flat cB E)]) (id:=H.length) iV (by omega) (v:=.bool ((List.range 4).all λk=>decide (x.kid k=0)||(decide (1<x.lv)&&E.getD (x.kid k).toNat true))) rfl;simp only[Wg]at iO;unfold Sh.f54;have hf:¬(((4:Nat):Int)<4):=by decide
   simp only[Am,Bg,Bk,B4,BS,BH,Br,hf,decide_false,AQ,CC,Au (show i<9223372036854775807 by omega),jQ,iO,AL,CH,UM,UK]
 ·unfold Sh.f55;have iV:AC (H++[.cel 0 (flat cB (A4 L))]) H.length 0=some (flat cB (A4 L)):=by simp
  have eA:=fall_ms (f:=cB) (b:=H.length) (d:=5) (cap:=L.length+1) (ex:=true) iV (VV _);rw[CT]at eA;have ht:L.take L.length=L:=Wd (VV _);simp only[Am,Bg,Bk,Ax,BH,Br,WL,decide_false,AQ,ht,WB,List.replicate_zero,Wx,Cw,eA,zXb]
theorem UX (L:List Nd)(tk:Tok)(n:Nat)(H:Aa)(hL:L.length<140737488355327)(hl:AB L=true)(hn:n<=L.length):Sh.f66 (.sl (enL cNd L) tk) (.i6 (n:Int)) H=some (.ret (.bool ((A4 L).getD n true)),H):=by
 have hlt:n<(A4 L).length:=by rw[CT];omega
 unfold Sh.f66;simp[Jt L tk H hL hl,A1 hlt,VW,VO hlt]
def A9 (L:List Nd)(c:Int):Nd:=L.getD (c-1).toNat ⟨0,0,0,0,0⟩
def OK (L:List Nd)(E:List Bool)(x:Nd)(k j:Nat):Bool:=
 decide (j=3-k)||(if x.lv=2 then decide ((A9 L (x.kid k)).kid j=0)else E.getD ((A9 L (x.kid k)).kid j).toNat true)
def hol (L:List Nd)(E:List Bool)(x:Nd):Bool:=
 (List.range 4).all λk=>decide (x.kid k=0)||(List.range 4).all (OK L E x k)
def DA (L:List Nd)(n:Nat):Bool:=
 decide (n≠0)&&decide (2<=(A9 L n).lv)&&hol L (A4 L) (A9 L n)
theorem Em {L:List Nd}{c:Int}{n:Nat}(hc:c=((n+1:Nat):Int))(h:n<L.length):A9 L c=L[n]:=by
 have:(c-1).toNat=n:=by omega
 unfold A9;rw[this,VW,VO h];rfl
theorem S2 (L:List Nd)(tk:Tok)(n:Nat)(H:Aa)(hL:L.length<140737488355327)(hl:AB L=true)(hn:n<=L.length):Sh.f2v (.sl (enL cNd L) tk) (.i6 (n:Int)) H=some (.ret (.bool (DA L n)),H):=by
 unfold Sh.f2v DA;cases n with
 | zero=>simp
 | succ n=>
  have hi:n<L.length:=hn;have e0:¬((n+1:Nat):Int)=0:=by omega
  obtain⟨l1,l2,l3⟩:=AO hl hi;rw[Em rfl hi];generalize hx:L[n]=x at l1 l2 l3;have hw:IntKind.i64.wrap (((n+1:Nat):Int)-1)=(n:Int):=by rw[Ao] <;> omega
  simp only[DR,GX,e0,decide_false,BH,Mt,Dx,hw,A1 hi,hx,Ar,AE,Nat.add_zero,Co,Br,C2];by_cases h2:x.lv<2
  ·have:¬2<=x.lv:=by omega
   simp[h2,this]
  ·have oJ:2<=x.lv:=by omega
   simp only[h2,oJ,decide_false,AQ,Jt L tk H hL hl,Fq,decide_true,ne_eq,XF,not_false_eq_true,zXn];have key:=EZ (G:=λrec1 vs H1=>Sh.f56 H rec1 (ag vs 0) (ag vs 1) (ag vs 2) (ag vs 3) H1) 4 (λk=>decide (x.kid k=0)||(List.range 4).all (OK L (A4 L) x k))
    (λk=>[.sl (enL cNd L) tk,.i6 ((n+1:Nat):Int),.sl (enL cB (A4 L)) .no,.i6 (k:Int)]) H (some (.ret (.bool true),H)) (some (.ret (.bool false),H)) (by decide) (λrec k hk=>?_) (λrec=>?_)
   ·refine key.trans ?_;rw[show hol L (A4 L) x=(List.range 4).all λk=>decide (x.kid k=0)||(List.range 4).all (OK L (A4 L) x k) from rfl];cases (List.range 4).all λk=>decide (x.kid k=0)||(List.range 4).all (OK L (A4 L) x k) <;> rfl
   ·have hk':(k:Int)<4:=by omega
    obtain⟨q1,q2,q3⟩:=l3 k hk;unfold Sh.f56;simp only[Am,Bg,Bk,B4,BH,Br,hk',decide_true,AZ,Dx,hw,A1 hi,hx,Ar,EP hk,AE,VU,Wg,Ez hk];have aN:IntKind.i64.wrap ((k:Int)+1)=((k+1:Nat):Int):=Au (by omega);by_cases hc:x.kid k=0
    ·rw[DU Fe];unfold Sh.f2u;simp only[hc,decide_true,XB,if_true,Am,Bg,Bk,B4,BS,DG,Br,BH,show ((0:Int)<4) from by decide,J2,Dy,show ¬((0:Int)>0) from by decide,decide_false,C9,AQ,CC,aN]
    ·obtain⟨m,hm⟩:∃m:Nat,x.kid k=((m+1:Nat):Int):=⟨(x.kid k-1).toNat,by omega⟩;have h1:1<x.lv:=by omega
     obtain⟨r1,r2⟩:=q3 h1 (by omega);have uQ:m<n:=by omega
     have hml:m<L.length:=by omega
     have hy:=r2 L[m] (by rw[show (x.kid k-1).toNat=m from by omega];exact VO hml);obtain⟨y1,y2,y3⟩:=AO hl hml;have hE:∀j,j<4->2<x.lv->(L[m].kid j).toNat<(A4 L).length:=by
      intro j hj h3;obtain⟨s1,s2,s3⟩:=y3 j hj;rw[CT];by_cases h0:0<L[m].kid j
      ·have:=(s3 (by omega) h0).1;omega
      ·omega
     have hp:OK L (A4 L) x k=λj=>decide (j=3-k)||(if x.lv=2 then decide (L[m].kid j=0)else (A4 L).getD (L[m].kid j).toNat true):=by
      funext j;unfold OK;rw[Em hm hml]
     have cQ:IntKind.i64.wrap (((m+1:Nat):Int)-1)=(m:Int):=by rw[Ao] <;> omega
     have bT:¬((m+1:Nat):Int)=0:=by omega
     simp only[hp,hm,bT,decide_false,zXo];generalize yJ:L[m]=y at y1 y2 y3 hy hE;refine EZ (G:=λaA vs H1=>Sh.f2u H rec aA (ag vs 0) (ag vs 1) (ag vs 2) (ag vs 3) (ag vs 4) (ag vs 5) H1) 4 _
      (λj=>[.sl (enL cNd L) tk,.i6 ((n+1:Nat):Int),.sl (enL cB (A4 L)) .no,.i6 (k:Int),.i6 ((m+1:Nat):Int),.i6 (j:Int)]) H _ _ (by decide) (λaA j hj=>?_) (λaA=>?_)
     ·have hj':(j:Int)<4:=by omega
      have hm0:((m+1:Nat):Int)>0:=by omega
      have jD:IntKind.i64.wrap (3-(k:Int))=3-(k:Int):=Ao (by omega) (by omega);have rF:IntKind.i64.wrap ((j:Int)+1)=((j+1:Nat):Int):=Au (by omega);obtain⟨s1,s2,s3⟩:=y3 j hj;have hE':=hE j hj;unfold Sh.f2u;simp only[Am,Bg,Bk,B4,BS,DG,Br,BH,hj',decide_true,J2,Dy,hm0,C9,AZ,Dx,hw,cQ,jD,A1 hml,yJ,A1 hi,hx,Ar,EP hj,AE,VU,Nat.add_zero,Wg,Ez hj,Co,IB,Lp,DR,GX,CC,rF];obtain⟨g,hg⟩:=WQ s1;rw[hg]at hE' ⊢;simp only[zXl]at hE' ⊢;by_cases yG:j=3-k
      ·have h3:(j:Int)=3-(k:Int):=by omega
       simp only[BH,Am,Bg,Bk,B4,BS,DG,Br,Dy,Lq,ID,DR,IB,GX,Lp,CC,Dx,IC,AZ,AQ,C9,C2,J2,Mt,Th,QX,gk_s,PT,PW,PU,PV,Vw,QC,Id,Qg,Qj,Qh,Qi,Vz,PY,Qb,PZ,Qa,Vx,Qc,Qf,Qd,Qe,Vy,B9,AK,decide_true,decide_false,WH,WT,Fq,CH,NG,Ei,J8,if_true,VY,if_false,IH,AL,Dp,Bv,zXo,XB,zXp,Yo,zXc h3,zXc yG,XB]
      ·have h3:¬(j:Int)=3-(k:Int):=by omega
       simp only[yG,h3,GMw,Ar,Ah,AE,VU,Nat.add_zero,Wg,Co,zXo];by_cases hx2:x.lv=2
       ·have hx3:¬(2:Int)>2:=by decide
        by_cases xQ:(g:Int)=0
        ·simp only[BH,Am,Bg,Bk,B4,BS,DG,Br,Dy,Lq,ID,DR,IB,GX,Lp,CC,Dx,IC,AZ,AQ,C9,C2,J2,Mt,Th,QX,gk_s,PT,PW,PU,PV,Vw,QC,Id,Qg,Qj,Qh,Qi,Vz,PY,Qb,PZ,Qa,Vx,Qc,Qf,Qd,Qe,Vy,B9,AK,decide_true,decide_false,WH,WT,Fq,CH,NG,Ei,J8,if_true,VY,if_false,IH,AL,Dp,Bv,zXo,XB,zXp,Yo,Ar,Ah,AE,VU,Nat.add_zero,Wg,Co,hw,A1 hi,hx,hx2,xQ,hx3]
        ·simp only[BH,Am,Bg,Bk,B4,BS,DG,Br,Dy,Lq,ID,DR,IB,GX,Lp,CC,Dx,IC,AZ,AQ,C9,C2,J2,Mt,Th,QX,gk_s,PT,PW,PU,PV,Vw,QC,Id,Qg,Qj,Qh,Qi,Vz,PY,Qb,PZ,Qa,Vx,Qc,Qf,Qd,Qe,Vy,B9,AK,decide_true,decide_false,WH,WT,Fq,CH,NG,Ei,J8,if_true,VY,if_false,IH,AL,Dp,Bv,zXo,XB,zXp,Yo,Ar,Ah,AE,VU,Nat.add_zero,Wg,Co,hw,A1 hi,hx,hx2,xQ,hx3]
       ·have hx3:x.lv>2:=by omega
        have hlt:=hE' hx3;have eQ:(A4 L).getD g true=(A4 L)[g]:=by rw[VW,VO hlt];rfl
        simp only[BH,Am,Bg,Bk,B4,BS,DG,Br,Dy,Lq,ID,DR,IB,GX,Lp,CC,Dx,IC,AZ,AQ,C9,C2,J2,Mt,Th,QX,gk_s,PT,PW,PU,PV,Vw,QC,Id,Qg,Qj,Qh,Qi,Vz,PY,Qb,PZ,Qa,Vx,Qc,Qf,Qd,Qe,Vy,B9,AK,decide_true,decide_false,WH,WT,Fq,CH,NG,Ei,J8,if_true,VY,if_false,IH,AL,Dp,Bv,zXo,XB,zXp,Yo,Ar,Ah,AE,VU,Nat.add_zero,Wg,Co,hw,A1 hi,hx,hx2,hx3,A1 hlt,eQ,zXh];cases (A4 L)[g] <;> simp only[BH,Am,Bg,Bk,B4,BS,DG,Br,Dy,Lq,ID,DR,IB,GX,Lp,CC,Dx,IC,AZ,AQ,C9,C2,J2,Mt,Th,QX,gk_s,PT,PW,PU,PV,Vw,QC,Id,Qg,Qj,Qh,Qi,Vz,PY,Qb,PZ,Qa,Vx,Qc,Qf,Qd,Qe,Vy,B9,AK,decide_true,decide_false,WH,WT,Fq,CH,NG,Ei,J8,if_true,VY,if_false,IH,AL,Dp,Bv,zXo,XB,zXp,Yo]
     ·have hf:¬(((4:Nat):Int)<4):=by decide
      unfold Sh.f2u;simp only[Am,Bg,Bk,B4,BS,DG,Br,BH,hf,decide_false,QX,Th,C2,AQ,CC,aN]
   ·have hf:¬(((4:Nat):Int)<4):=by decide
    unfold Sh.f56;simp only[Am,Bg,Bk,B4,Br,BH,hf,decide_false,AQ,NG]
theorem q05_inner (L:List Nd)(tk:Tok)(n k:Nat)(H:Aa)(hL:L.length<140737488355327)(hl:AB L=true)(hn:n<L.length)(h2:2<=L[n].lv)(hk:k<4) :
  Sh.f67 (.sl (enL cNd L) tk) (.i6 ((n+1:Nat):Int)) (.i6 (k:Int)) H=some (.ret (.i6 (if L[n].kid k=0 then 0 else (A9 L (L[n].kid k)).kid (3-k))),H):=by
 obtain⟨l1,l2,l3⟩:=AO hl hn;obtain⟨q1,q2,q3⟩:=l3 k hk;have hw:IntKind.i64.wrap (((n+1:Nat):Int)-1)=(n:Int):=by rw[Ao] <;> omega
 unfold Sh.f67;simp only[Dx,BH,hw,A1 hn,Ar,EP hk,AE,VU,Wg,Ez hk,DR,GX];by_cases hc:L[n].kid k=0
 ·simp[hc]
 ·obtain⟨m,hm⟩:∃m:Nat,L[n].kid k=((m+1:Nat):Int):=⟨(L[n].kid k-1).toNat,by omega⟩;obtain⟨r1,r2⟩:=q3 (by omega) (by omega);have hml:m<L.length:=by omega
  have cQ:IntKind.i64.wrap (((m+1:Nat):Int)-1)=(m:Int):=by rw[Ao] <;> omega
  have jD:IntKind.i64.wrap (3-(k:Int))=((3-k:Nat):Int):=by rw[Ao] <;> omega
  simp only[hc,decide_false,AQ,if_false,Em hm hml];rw[hm];simp only[cQ,jD,BH,A1 hml,Ar,VU,EP (show 3-k<4 by omega),AE,Wg,Ez (show 3-k<4 by omega),NG]
def Mx (rec:Nat->List Nat->List Nat)(x:Nd)(k:Nat)(out:List Nat):List Nat:=
 (List.range k).foldl (λo k=>if 1<x.lv/\0<x.kid k then rec (x.kid k).toNat o else o) out
def Gk (L:List Nd):Nat->Nat->List Nat->List Nat
 | 0,_,out=>out
 | v+1,n,out=>if n∈out then out else Mx (Gk L v) (A9 L n) 4 out++[n]
def NP (N:Nat)(out:List Nat):Prop:=out.Nodup/\∀x∈out,1<=x/\x<=N
theorem Nc:∀(N:Nat) (out:List Nat),NP N out->out.length<=N
 | 0,out,h=>by
  cases out with
  | nil=>simp
  | cons a l=>have:=h.2 a (by simp);omega
 | N+1,out,h=>by
  have h1:NP N (out.erase (N+1)):=⟨h.1.erase _,λx hx=>by
   have:=(h.1.mem_erase_iff).1 hx;have:=h.2 x this.2;omega⟩
  have:=Nc N _ h1;rw[List.length_erase]at this;split at this <;> omega
theorem Qr (rec:Nat->List Nat->List Nat)(x:Nd)(k:Nat)(out:List Nat):Mx rec x (k+1) out=if 1<x.lv/\0<x.kid k then rec (x.kid k).toNat (Mx rec x k out)else Mx rec x k out:=by
 simp[Mx,XQ]
theorem Mw {rec:Nat->List Nat->List Nat}{x:Nd}{out:List Nat}(P:List Nat->Prop)(h0:P out)(hs:∀k o,k<4->1<x.lv->0<x.kid k->P o->P (rec (x.kid k).toNat o)):∀k,k<=4->P (Mx rec x k out)
 | 0,_=>h0
 | k+1,h=>by
  rw[Qr];split
  ·rename_i hc;exact hs k _ (by omega) hc.1 hc.2 (Mw P h0 hs k (by omega))
  ·exact Mw P h0 hs k (by omega)
theorem Ba {L:List Nd}{n:Nat}(h:n<L.length):A9 L ((n+1:Nat):Int)=L[n]:=Em rfl h
theorem RO {L:List Nd}(hl:AB L=true):∀(v n:Nat) (out:List Nat),1<=n->n<=L.length->NP L.length out->NP L.length (Gk L v n out)/\(∀x∈out,x∈Gk L v n out)/\∀x∈Gk L v n out,x∈out\/x<=n
 | 0,n,out,h1,h2,ho=>⟨ho,λx hx=>hx,λx hx=>.inl hx⟩
 | v+1,n,out,h1,h2,ho=>by
  obtain⟨m,rfl⟩:∃m,n=m+1:=⟨n-1,by omega⟩;have hm:m<L.length:=by omega
  obtain⟨l1,l2,l3⟩:=AO hl hm;simp only[Gk];split
  ·exact⟨ho,λx hx=>hx,λx hx=>.inl hx⟩
  ·rename_i hn;rw[Ba hm];have key:=Mw (rec:=Gk L v) (x:=L[m]) (out:=out) (λo=>NP L.length o/\(∀x∈out,x∈o)/\∀x∈o,x∈out\/x<=m) ⟨ho,λx hx=>hx,λx hx=>.inl hx⟩ (λk o hk aJ aV hP=>by
    obtain⟨q1,q2,q3⟩:=l3 k hk;have:=(q3 aJ aV).1;obtain⟨r1,r2,r3⟩:=RO hl v (L[m].kid k).toNat o (by omega) (by omega) hP.1;exact⟨r1,λx hx=>r2 x (hP.2.1 x hx),λx hx=>by
     rcases r3 x hx with h | h
     ·exact hP.2.2 x h
     ·right;omega⟩) 4 (by omega)
   obtain⟨⟨k1,k2⟩,k3,k4⟩:=key;generalize Mx (Gk L v) L[m] 4 out=o at k1 k2 k3 k4;have cM:m+1 ∉ o:=λh=>by
    rcases k4 _ h with h | h
    ·exact hn h
    ·omega
   refine⟨⟨?_,?_⟩,?_,?_⟩
   ·rw[YM];exact⟨k1,by simp,λa ha b hb e=>by simp at hb;subst hb;subst e;exact cM ha⟩
   ·intro x hx;simp only[Wn,Wm]at hx;rcases hx with hx | rfl
    ·exact k2 x hx
    ·omega
   ·intro x hx;simp[k3 x hx]
   ·intro x hx;simp only[Wn,Wm]at hx;rcases hx with hx | rfl
    ·rcases k4 x hx with h | h
     ·exact .inl h
     ·exact .inr (by omega)
    ·exact .inr (VV _)
theorem append_outN {B:Aa}{l:List Nat}{n:Nat}(h:l.length<17592186044415):AW G9 1 8 (DJ cN B l) (.sl (enL cN [n]) .ti) (DI cN G9 1 B l)=some (DJ cN B (l++[n]),DI cN G9 1 B (l++[n])):=
 E5 (by simp) (by simp;omega) (by simp;omega)
theorem q05_end {L:List Nd}(tk:Tok)(B:Aa)(hL:L.length<17592186044415)(hl:AB L=true):∀(v n d:Nat) (out:List Nat),1<=n->n<=L.length->(A9 L n).lv=v->v<=d->NP L.length out ->
  Sh.fg d (.sl (enL cNd L) tk) (.i6 (n:Int)) (DJ cN B out) (DI cN G9 1 B out)=some (.ret (DJ cN B (Gk L v n out)),DI cN G9 1 B (Gk L v n out)):=by
 intro v
 induction v with
 | zero=>
  intro n d out h1 h2 hv hd ho;exfalso;obtain⟨m,rfl⟩:∃m,n=m+1:=⟨n-1,by omega⟩;rw[Ba (by omega)]at hv;have:=(AO hl (show m<L.length by omega)).1;omega
 | succ v ih=>
  intro n d out h1 h2 hv hd ho;obtain⟨d,rfl⟩:∃e,d=e+1:=⟨d-1,by omega⟩;obtain⟨m,rfl⟩:∃m,n=m+1:=⟨n-1,by omega⟩;have hm:m<L.length:=by omega
  obtain⟨l1,l2,l3⟩:=AO hl hm;have bD:=Nc _ _ ho;rw[Ba hm]at hv;show Sh.f7b (Sh.fg d) _ _ _ _=_;unfold Sh.f7b;have key:=Oa (G:=λrec1 vs H1=>Sh.f58 (DI cN G9 1 B out) (Sh.fg d) rec1 (ag vs 0) (ag vs 1) (ag vs 2) (ag vs 3) H1) out.length (λi=>decide (out.getD i 0=m+1))
   (λi=>[.sl (enL cNd L) tk,.i6 ((m+1:Nat):Int),DJ cN B out,.i6 (i:Int)]) (DI cN G9 1 B out) (some (.ret (DJ cN B (Mx (Gk L v) L[m] 4 out++[m+1])),DI cN G9 1 B (Mx (Gk L v) L[m] 4 out++[m+1]))) (λ_=>some (.ret (DJ cN B out),DI cN G9 1 B out)) (by omega) (λrec i hi=>?_) (λrec=>?_)
  ·refine key.trans ?_;by_cases bO:m+1∈out
   ·obtain⟨i,hi,hx⟩:=Wz bO;have hf:∃j,(List.range out.length).find? (λi=>decide (out.getD i 0=m+1))=some j:=by
     cases hq:(List.range out.length).find? (λi=>decide (out.getD i 0=m+1))with
     | some j=>exact⟨j,rfl⟩
     | none=>
      have:=XU.1 hq i (by simpa using hi);simp[VW,VO hi,hx]at this
    obtain⟨j,hj⟩:=hf;rw[hj];simp only[Gk,if_pos bO]
   ·have hf:(List.range out.length).find? (λi=>decide (out.getD i 0=m+1))=none:=by
     rw[XU];intro i hi;have aD:i<out.length:=by simpa using hi
     rw[VW,VO aD];simp only[Option.getD_some,zXe];intro e;exact bO (e ▸ We aD)
    rw[hf];simp only[Gk,if_neg bO,Ba hm]
  ·have aD:(i:Int)<(out.length:Int):=by omega
   have bZ:decide ((out[i]:Int)=((m+1:Nat):Int))=decide (out.getD i 0=m+1):=by
    rw[VW,VO hi,Wo];simp;omega
   unfold Sh.f58;simp only[GMw,Ar,Ah,AE,VU,Nat.add_zero,Wg,Co,Fy,Ax,aD,A1 hi,zXh,Au (show i<9223372036854775807 by omega),bZ];cases decide (out.getD i 0=m+1) <;> simp only[GMw]
  ·unfold Sh.f58;rw[Fy];simp only[GMw,Ax,WL];rw[<-Fy];refine Cm (G:=λaA vs H1=>Sh.f57 (DI cN G9 1 B out) (Sh.fg d) aA (ag vs 0) (ag vs 1) (ag vs 2) (ag vs 3) H1) 4 (λk=>[.sl (enL cNd L) tk,.i6 ((m+1:Nat):Int),DJ cN B (Mx (Gk L v) L[m] k out),.i6 (k:Int)]) (λk=>DI cN G9 1 B (Mx (Gk L v) L[m] k out)) _ (by decide) (λaA k hk=>?_) (λaA=>?_)
   ·have hk':(k:Int)<4:=by omega
    have aN:IntKind.i64.wrap ((k:Int)+1)=((k+1:Nat):Int):=Au (by omega);have cQ:IntKind.i64.wrap (((m+1:Nat):Int)-1)=(m:Int):=by rw[Ao] <;> omega
    obtain⟨q1,q2,q3⟩:=l3 k hk;have dE:NP L.length (Mx (Gk L v) L[m] k out):=Mw (λo=>NP L.length o) ho (λk o hk aJ aV hP=>by
     obtain⟨q1,q2,q3⟩:=l3 k hk;have:=(q3 aJ aV).1;exact (RO hl v (L[m].kid k).toNat o (by omega) (by omega) hP).1) k (by omega)
    unfold Sh.f57;rw[Qr];generalize Mx (Gk L v) L[m] k out=o at dE;simp only[GMw,Ar,Ah,AE,VU,Nat.add_zero,Wg,Co,hk',cQ,A1 hm,Sh.f2w,aN];by_cases aJ:1<L[m].lv
    ·by_cases aV:0<L[m].kid k
     ·obtain⟨r1,r2⟩:=q3 aJ aV;obtain⟨c,hc⟩:∃c:Nat,L[m].kid k=((c+1:Nat):Int):=⟨(L[m].kid k-1).toNat,by omega⟩;have aG:c<L.length:=by omega
      have hy:=r2 L[c] (by rw[show (L[m].kid k-1).toNat=c from by omega];exact VO aG);have hi2:=ih (c+1) d o (by omega) (by omega) (by rw[Ba aG];omega) (by omega) dE;have cJ:((c+1:Nat):Int)>0:=by omega
      rw[if_pos ⟨aJ,aV⟩];simp only[GMw,Ar,Ah,AE,VU,Nat.add_zero,Wg,Co,aJ,cQ,A1 hm,Ar,EP hk,Ez hk,hc,cJ,hi2,gt_iff_lt,zXl,Sh.f2w,aN]
     ·rw[if_neg (λh=>aV h.2)];simp only[GMw,Ar,Ah,AE,VU,Nat.add_zero,Wg,Co,aJ,cQ,A1 hm,Ar,EP hk,Ez hk,aV,gt_iff_lt,Sh.f2w,aN]
    ·rw[if_neg (λh=>aJ h.1)];simp only[GMw,Ar,Ah,AE,VU,Nat.add_zero,Wg,Co,aJ,gt_iff_lt,Sh.f2w,aN]
   ·have hf:¬(((4:Nat):Int)<4):=by decide
    have dE:NP L.length (Mx (Gk L v) L[m] 4 out):=Mw (λo=>NP L.length o) ho (λk o hk aJ aV hP=>by
     obtain⟨q1,q2,q3⟩:=l3 k hk;have:=(q3 aJ aV).1;exact (RO hl v (L[m].kid k).toNat o (by omega) (by omega) hP).1) 4 (by omega)
    have hle:=Nc _ _ dE;unfold Sh.f57;simp only[GMw,hf,build_N,append_outN (show (Mx (Gk L v) L[m] 4 out).length<17592186044415 by omega)]
def Bj (L:List Nd):List Ab:=[.sl (enL cNd L) .no]
def CY (L:List Nd):Ab:=.agg (Bj L)
def Bn (L:List Nd):Int:=(A9 L (L.length:Int)).lv
def NW (L:List Nd):List Nat:=Gk L (Bn L).toNat L.length []
def dupB (L:List Nd):Bool:=(List.range L.length).all λi=>!((A4 L).getD (i+1) true)&&(List.range i).all λk=>decide (L.getD i ⟨0,0,0,0,0⟩≠L.getD k ⟨0,0,0,0,0⟩)
def PG (L:List Nd):Bool:=(List.range (NW L).length).all (λi=>decide ((NW L).getD i 0=i+1))&&decide ((NW L).length=L.length)
def D7 (L:List Nd):Bool:=
 decide (L=[])||(AB L && !(DA L L.length)&&dupB L&&PG L)
theorem boxQuad (L:List Nd)(tk:Tok)(H:Aa):BD true 1 (.agg [.sl (enL cNd L) tk]) H=some (.ptr H.length 0 0,H++[.cel 0 [.sl (enL cNd L) tk]]):=Cp rfl rfl
theorem q05_right (L:List Nd)(tk:Tok)(H:Aa)(hL:L.length<17592186044415):Sh.f5c (.agg [.sl (enL cNd L) tk]) H=some (.ret (.bool (D7 L)),H):=by
 unfold Sh.f5c;simp only[GMw,Ar,Ah,AE,VU,Nat.add_zero,Wg,Co,boxQuad,F2,Hv,zXh,Ax];by_cases h0:L=[]
 ·subst h0;simp[D7]
 ·have hlen:L.length≠0:=λh=>h0 (Wk h);have eX:¬((L.length:Int)=0):=by omega
  have hq:D7 L=(AB L && !(DA L L.length)&&dupB L&&PG L):=by simp[D7,h0]
  simp only[GMw,eX,UV L tk _ (show L.length<1152921504606846976 by omega)];cases hl:AB L with
  | false=>simp[hq,hl]
  | true=>
   simp only[GMw,Ax,S2 L tk L.length _ (show L.length<140737488355327 by omega) hl (VV _)];cases hh:DA L L.length with
   | true=>simp[hq,hh]
   | false=>
    simp only[GMw,Jt L tk _ (show L.length<140737488355327 by omega) hl];rw[hq,hl,hh];simp only[GMw];generalize hB:H++[.cel 0 [.sl (enL cNd L) tk]]=B;have hfin:∀(v:Bool) (G:Aa),rP H (.bool v) (B++G)=some (.ret (.bool v),H):=λv G=>by rw[<-hB,VZ];exact Fw
    have mM:∀(v:Bool),rP H (.bool v) B=some (.ret (.bool v),H):=λv=>by rw[<-hB];exact Fw
    have key:=EZ (G:=λrec1 vs H1=>Sh.f5b H rec1 (ag vs 0) (ag vs 1) (ag vs 2) H1) L.length (λi=>!((A4 L).getD (i+1) true)&&(List.range i).all λk=>decide (L.getD i ⟨0,0,0,0,0⟩≠L.getD k ⟨0,0,0,0,0⟩))
     (λi=>[.sl (enL cNd L) tk,.sl (enL cB (A4 L)) .no,.i6 (i:Int)]) B (some (.ret (.bool (PG L)),H)) (some (.ret (.bool false),H)) (by omega) (λrec i hi=>?_) (λrec=>?_)
    ·refine key.trans ?_;rw[show dupB L=(List.range L.length).all λi=>!((A4 L).getD (i+1) true)&&(List.range i).all λk=>decide (L.getD i ⟨0,0,0,0,0⟩≠L.getD k ⟨0,0,0,0,0⟩) from rfl];cases (List.range L.length).all λi=>!((A4 L).getD (i+1) true)&&(List.range i).all λk=>decide (L.getD i ⟨0,0,0,0,0⟩≠L.getD k ⟨0,0,0,0,0⟩) <;> simp only[GMw]
    ·have aD:(i:Int)<(L.length:Int):=by omega
     have hlt:i+1<(A4 L).length:=by rw[CT];omega
     have aN:IntKind.i64.wrap ((i:Int)+1)=((i+1:Nat):Int):=Au (by omega);have eQ:(A4 L).getD (i+1) true=(A4 L)[i+1]:=by rw[VW,VO hlt];rfl
     unfold Sh.f5b;simp only[GMw,Ar,Ah,AE,VU,Nat.add_zero,Wg,Co,Ax,aD,aN,A1 hlt,zXh,eQ];cases (A4 L)[i+1]with
     | true=>simp only[GMw,mM]
     | false=>
      simp only[GMw];refine EZ (G:=λaA vs H1=>Sh.f59 H rec aA (ag vs 0) (ag vs 1) (ag vs 2) (ag vs 3) H1) i (λk=>decide (L.getD i ⟨0,0,0,0,0⟩≠L.getD k ⟨0,0,0,0,0⟩))
       (λk=>[.sl (enL cNd L) tk,.sl (enL cB (A4 L)) .no,.i6 (i:Int),.i6 (k:Int)]) B _ _ (by omega) (λaA k hk=>?_) (λaA=>?_)
      ·have hk':(k:Int)<(i:Int):=by omega
       have cP:k<L.length:=by omega
       unfold Sh.f59;simp only[GMw,hk',A1 hi,A1 cP,Jy,eq_nd,mM,Au (show k<9223372036854775807 by omega)];simp only[VW,VO hi,VO cP,Option.getD_some];by_cases he:L[i]=L[k]
       ·simp only[he,ne_eq,not_true_eq_false,GMw]
       ·simp only[he,ne_eq,not_false_eq_true,GMw]
      ·unfold Sh.f59;simp only[GMw,WL,aN]
    ·unfold Sh.f5b;have hm:L.length-1<L.length:=by omega
     have xH:L.length=L.length-1+1:=by omega
     have aJ:(A9 L (L.length:Int)).lv=((Bn L).toNat:Int):=by
      have:=(AO hl hm).1;unfold Bn;rw[xH,Ba hm];omega
     have eL:Sh.fg AU (.sl (enL cNd L) tk) (.i6 (L.length:Int)) (.sl [] .ti) B=some (.ret (DJ cN B (Gk L (Bn L).toNat L.length [])),DI cN G9 1 B (Gk L (Bn L).toNat L.length [])):=q05_end tk B hL hl (Bn L).toNat L.length AU [] (by omega) (VV _) aJ (by
      have:=(AO hl hm).2.1;rw[Dr];unfold Bn;rw[xH,Ba hm];omega) ⟨by simp,by simp⟩
     have hok:=(RO hl (Bn L).toNat L.length [] (by omega) (VV _) ⟨by simp,by simp⟩).1;have hol:=Nc _ _ hok;obtain⟨G,hG⟩:=GF (f:=cN) (ty:=G9) (sz:=1) B (Gk L (Bn L).toNat L.length []);simp only[GMw,Ax,WL,eL,hG,Fy];have pS:NW L=Gk L (Bn L).toNat L.length []:=rfl;rw[<-pS]at hol ⊢;unfold PG;generalize NW L=o at hol ⊢;have key:=EZ (G:=λdB vs H1=>Sh.f5a H dB (ag vs 0) (ag vs 1) (ag vs 2) H1) o.length (λi=>decide (o.getD i 0=i+1)) (λi=>[.sl (enL cNd L) tk,.sl (enL cN o) (outK B o),.i6 (i:Int)]) (B++G) (some (.ret (.bool (decide (o.length=L.length))),H)) (some (.ret (.bool false),H)) (by omega) (λrec i hi=>?_) (λrec=>?_)
     ·refine key.trans ?_;cases (List.range o.length).all (λi=>decide (o.getD i 0=i+1)) <;> simp only[GMw]
     ·have aD:(i:Int)<(o.length:Int):=by omega
      unfold Sh.f5a;simp only[GMw,Ar,Ah,AE,VU,Nat.add_zero,Wg,Co,Ax,aD,A1 hi,zXh,Au (show i<9223372036854775807 by omega),hfin];simp only[VW,VO hi,Option.getD_some];by_cases he:o[i]=i+1
      ·have:(o[i]:Int)=((i+1:Nat):Int):=by omega
       simp only[zXc this,zXc he,GMw]
      ·have:¬(o[i]:Int)=((i+1:Nat):Int):=by omega
       simp only[zXd this,zXd he,GMw]
     ·have hd:decide ((o.length:Int)=(L.length:Int))=decide (o.length=L.length):=by rw[Wo];simp;omega
      unfold Sh.f5a;simp only[GMw,Ax,WL,hfin,hd]
theorem UW (L:List Nd)(tk:Tok)(H:Aa)(hL:L.length<17592186044415):Sh.f31 (.agg [.sl (enL cNd L) tk]) H=some (.ret (.i6 (if L=[]then 0 else Bn L)),H):=by
 unfold Sh.f31;simp only[GMw,Ar,Ah,AE,VU,Nat.add_zero,Wg,Co,boxQuad,F2,Hv,zXh,Ax];by_cases h0:L=[]
 ·subst h0;simp
 ·have hlen:L.length≠0:=λh=>h0 (Wk h);have eX:¬((L.length:Int)=0):=by omega
  have hm:L.length-1<L.length:=by omega
  have hw:IntKind.i64.wrap ((L.length:Int)-1)=((L.length-1:Nat):Int):=Hp (by omega) (by omega);have ht:Bn L=L[L.length-1].lv:=by
   unfold Bn;rw[Em (n:=L.length-1) (by omega) hm]
  simp only[h0,eX,GMw,Ar,Ah,AE,VU,Nat.add_zero,Wg,Co,hw,A1 hm,Ij,ht]
abbrev nd0:Nd:=⟨0,0,0,0,0⟩
def Nd.setKid (x:Nd)(k:Nat)(c:Int):Nd:=match k with | 0=>{ x with k0:=c } | 1=>{ x with k1:=c } | 2=>{ x with k2:=c } | _=>{ x with k3:=c }
theorem UJ (x:Nd)(k:Nat)(c:Int):(x.setKid k c).lv=x.lv:=by unfold Nd.setKid;split <;> rfl
theorem QM (x:Nd){k:Nat}(c:Int)(h:k<4):(x.setKid k c).kid k=c:=by
 match k,h with
 | 0,_=>rfl
 | 1,_=>rfl
 | 2,_=>rfl
 | 3,_=>rfl
theorem Fu (x:Nd){k j:Nat}(c:Int)(h:k<4)(hj:j<4)(hne:j≠k):(x.setKid k c).kid j=x.kid j:=by
 match k,j,h,hj with
 | 0,1,_,_=>rfl
 | 0,2,_,_=>rfl
 | 0,3,_,_=>rfl
 | 1,0,_,_=>rfl
 | 1,2,_,_=>rfl
 | 1,3,_,_=>rfl
 | 2,0,_,_=>rfl
 | 2,1,_,_=>rfl
 | 2,3,_,_=>rfl
 | 3,0,_,_=>rfl
 | 3,1,_,_=>rfl
 | 3,2,_,_=>rfl
 | 0,0,_,_=>exact absurd rfl hne
 | 1,1,_,_=>exact absurd rfl hne
 | 2,2,_,_=>exact absurd rfl hne
 | 3,3,_,_=>exact absurd rfl hne
section
variable {H:Aa}{p k:Nat}{x:Nd}{cs cs':List Ab}
theorem HY (hg:H[p]? = some (.cel 0 (cNd x))):Ac true 5 (.ptr p 0 0) H=some (.agg (cNd x)):=by
 simp only[Ac,Aw hg,zXa,if_true];rfl
theorem ST (hg:H[p]? = some (.cel 0 (cNd x))):Ac false 1 (.ptr p 0 0) H=some (.i6 x.lv):=by
 simp only[Ac,Aw hg,zXa,VY,if_false];rfl
theorem Vj (hg:H[p]? = some (.cel 0 (cNd x)))(h:k<4):Ac false 1 (.ptr p 0 (1+k)) H=some (.i6 (x.kid k)):=by
 simp only[Ac,Aw hg,zXa,VY,if_false];exact Ez h
theorem ET {c:Int}(hg:H[p]? = some (.cel 0 (cNd x)))(h:k<4):Af 1 (.ptr p 0 (1+k)) (.i6 c) H=some (H.set p (.cel 0 (cNd (x.setKid k c)))):=by
 simp only[Af,Aw hg,zXa,acells_int,Bt hg]
 match k,h with
 | 0,_=>rfl
 | 1,_=>rfl
 | 2,_=>rfl
 | 3,_=>rfl
theorem JQ (hg:H[p]? = some (.cel 0 cs))(hl:cs.length=5):Af 5 (.ptr p 0 0) (.agg (cNd x)) H=some (H.set p (.cel 0 (cNd x))):=by
 simp only[Af,Aw hg,zXa,VM,Bt hg,Dq hl];rw[if_pos ⟨rfl,by omega⟩]
theorem HZ {K:IntKind}{id g o:Nat}(h:k<4):B5 4 1 (.ptr id g o) (.int K (k:Int))=some (.ptr id g (o+k)):=by
 unfold B5;simp only[];rw[if_pos ⟨by omega,by omega⟩];simp

end
theorem Pv (H:Aa):Az (some [.i6 0,.i6 0,.i6 0,.i6 0,.i6 0]) H=some (.ptr H.length 0 0,H++[.cel 0 (cNd nd0)]):=alloc_eq rfl
theorem DW (L:List Nd):(A4 L).getD 0 true=true:=by
 have key:∀(l:List Nd) (E:List Bool),E[0]? = some true->(l.foldl (λE x=>E++[My E x]) E)[0]? = some true:=by
  intro l
  induction l with
  | nil=>intro E h;exact h
  | cons a l ih=>intro E h;exact ih _ (by rw[VR (by cases E with | nil=>simp at h | cons e E=>simp)];exact h)
 rw[VW,show (A4 L)[0]? = some true from key L [true] rfl];rfl
def IX (L:List Nd)(x:Nd)(k:Nat):Int:=if x.kid k=0 then 0 else (A9 L (x.kid k)).kid (3-k)
def Cd (L:List Nd)(n:Nat):Nd:=⟨(A9 L n).lv-1,IX L (A9 L n) 0,IX L (A9 L n) 1,IX L (A9 L n) 2,IX L (A9 L n) 3⟩
def BN:Nat->List Nd->Nat->List Nd×Nat
 | 0,L,n=>(L,n)
 | f+1,L,n=>if DA L n then BN f (L++[Cd L n]) (L.length+1)else (L,n)
def DH (L:List Nd)(n:Nat):List Nd×Nat:=
 if (A4 L).getD n true then (L,0)else BN (A9 L n).lv.toNat L n
theorem Vt (L:List Nd)(n:Nat){k:Nat}(h:k<4):(Cd L n).kid k=IX L (A9 L n) k:=by
 match k,h with
 | 0,_=>rfl
 | 1,_=>rfl
 | 2,_=>rfl
 | 3,_=>rfl
theorem KE {L:List Nd}{x:Nd}(hl:AB L=true)(hx:G5 (L++[x]) L.length=true):AB (L++[x])=true:=by
 unfold AB;rw[Wi];intro i hi;have aD:i<L.length+1:=by simpa using hi
 by_cases h:i=L.length
 ·rw[h];exact hx
 ·have hlt:i<L.length:=by omega
  have h1:=Wi.1 hl i (by simpa using hlt);simp only[G5,VR hlt,VO hlt,Wc,Wi]at h1 ⊢;refine⟨h1.1,λk hk=>?_⟩;have h2:=h1.2 k hk;simp only[Dk,Wc,zXe]at h2 ⊢;refine⟨h2.1,λq1 q2=>?_⟩;obtain⟨r1,r2⟩:=h2.2 q1 q2;refine⟨r1,λy hy=>?_⟩;rw[VR (by omega)]at hy;exact r2 y hy
theorem KF {L:List Nd}{x:Nd}(h1:1<=x.lv)(h2:x.lv<=1329)(h3:∀k,k<4->0<=x.kid k/\(x.lv=1->x.kid k<=255)/\(1<x.lv->0<x.kid k->x.kid k<=L.length/\(A9 L (x.kid k)).lv=x.lv-1)):G5 (L++[x]) L.length=true:=by
 simp only[G5,Wt (VV _),WB,zXh,Wc,zXe,Wi];refine⟨⟨h1,h2⟩,λk hk=>?_⟩;obtain⟨q1,q2,q3⟩:=h3 k (by simpa using hk);simp only[Dk,Wc,zXe];refine⟨⟨q1,q2⟩,λr1 r2=>?_⟩;obtain⟨s1,s2⟩:=q3 r1 r2;refine⟨s1,λy hy=>?_⟩;have hlt:(x.kid k-1).toNat<L.length:=by omega
 rw[VR hlt,VO hlt]at hy;injection hy with hy;rw[<-hy,<-s2,Em (n:=(x.kid k-1).toNat) (by omega) hlt]
theorem Nl {L:List Nd}(hl:AB L=true){n:Nat}(hn:n<L.length)(h2:2<=L[n].lv):AB (L++[Cd L (n+1)])=true:=by
 obtain⟨l1,l2,l3⟩:=AO hl hn;have e:A9 L ((n+1:Nat):Int)=L[n]:=Ba hn;have elv:(Cd L (n+1)).lv=L[n].lv-1:=by show (A9 L ((n+1:Nat):Int)).lv-1=_;rw[e]
 refine KE hl (KF (by omega) (by omega) λk hk=>?_);obtain⟨q1,q2,q3⟩:=l3 k hk;rw[Vt L (n+1) hk,elv,e];unfold IX;by_cases hc:L[n].kid k=0
 ·rw[if_pos hc];exact⟨by omega,λ_=>by omega,λ_ h=>by omega⟩
 ·rw[if_neg hc];obtain⟨m,hm⟩:∃m:Nat,L[n].kid k=((m+1:Nat):Int):=⟨(L[n].kid k-1).toNat,by omega⟩;obtain⟨r1,r2⟩:=q3 (by omega) (by omega);have hml:m<L.length:=by omega
  have hy:=r2 L[m] (by rw[show (L[n].kid k-1).toNat=m from by omega];exact VO hml);obtain⟨y1,y2,y3⟩:=AO hl hml;rw[Em hm hml];obtain⟨s1,s2,s3⟩:=y3 (3-k) (by omega);refine⟨s1,λh=>s2 (by omega),λh h0=>?_⟩;obtain⟨t1,t2⟩:=s3 (by omega) h0;refine⟨by omega,?_⟩;obtain⟨c,bT⟩:∃c:Nat,L[m].kid (3-k)=((c+1:Nat):Int):=⟨(L[m].kid (3-k)-1).toNat,by omega⟩;have aG:c<L.length:=by omega
  rw[Em bT aG];have:=t2 L[c] (by rw[show (L[m].kid (3-k)-1).toNat=c from by omega];exact VO aG);omega
theorem Nm {L:List Nd}{n:Nat}(h:DA L n=true):n≠0/\2<=(A9 L n).lv:=by
 simp only[DA,Wc,zXe]at h;exact⟨h.1.1,h.1.2⟩
theorem VL {H G:Aa}{l:List Nd}{x:Nd}(h:l.length<3518437208883):AW AN 5 40 (.sl (enL cNd l) (.own H.length)) (.sl (enL cNd [x]) .ti) (H++.tok l.length AN 5::G)=some (.sl (enL cNd (l++[x])) (.own H.length),H++.tok (l.length+1) AN 5::G):=by
 have:=Fr (f:=cNd) (l:=l) (m:=[x]) (ty:=AN) (bytes:=40) (tk:=.ti) (H:=H++.tok l.length AN 5::G) (t:=H.length) (by simp) (by simp) (by simp;omega) (by simp;omega);rw[this];simp
def UI (f:Nat->Int)(x:Nd):Nat->Nd
 | 0=>x
 | k+1=>(UI f x k).setKid k (f k)
theorem UH (f:Nat->Int)(x:Nd):UI f x 4=⟨x.lv,f 0,f 1,f 2,f 3⟩:=rfl
theorem TI (z:Int):A6 (some [.i6 0,.i6 0,.i6 0,.i6 0,.i6 0]) [(0,1,.i6 z)]=some (.agg (cNd ⟨z,0,0,0,0⟩)):=by
 simp[A6,Gy,CZ,cNd]
theorem q06_shrink (L:List Nd)(tk:Tok)(n:Nat)(H:Aa)(hL:L.length<3518437200000)(hl:AB L=true)(hn:n<=L.length) :
  Sh.f69 (.sl (enL cNd L) tk) (.i6 (n:Int)) H=some (.ret (.tup [.sl (enL cNd (DH L n).1) .no,.i6 ((DH L n).2:Int)]),H):=by
 unfold Sh.f69;have hb:AS 5 []=some (.sl (enL cNd []) .ti):=rfl;rw[hb];by_cases h0:L=[]
 ·subst h0;have dZ:n=0:=by simpa using hn
  subst dZ;have ha:AW AN 5 40 (.sl (enL cNd []) .ti) (.sl (enL cNd []) tk) H=some (.sl (enL cNd []) .ti,H):=Ea (by simp[Cj,enL]);have he:=UX [] .ti 0 H (by simp) hl (VV _);simp only[GMw,ha,he,show (A4 []).getD 0 true=true from rfl,Mf,Ci,Bu,B6,Ja,CM,zXb]
  rfl
 ·have ha:AW AN 5 40 (.sl (enL cNd []) .ti) (.sl (enL cNd L) tk) H=some (.sl (enL cNd L) (.own H.length),H++[.tok L.length AN 5]):=by
   have:=CR (f:=cNd) (l:=[]) (m:=L) (ty:=AN) (bytes:=40) (tk:=tk) (H:=H) h0 (by simp;omega) (by simp;omega);simpa using this
  simp only[GMw,ha,UX L _ n _ (show L.length<140737488355327 by omega) hl hn];unfold DH;cases eT:(A4 L).getD n true with
  | true=>simp only[GMw,Cw,Ci,Bu,B6,Ja,CM,zXb];rfl
  | false=>
   simp only[GMw];have aJ:(A9 L n).lv<=1329:=by
    cases n with
    | zero=>exfalso;rw[DW]at eT;cases eT
    | succ m=>rw[Ba hn];exact (AO hl hn).2.1
   have key:=Bq (G:=λrec1 vs H1=>Sh.f7m H rec1 (ag vs 0) (ag vs 1) H1) (σ:=List Nd×Nat×Aa) (λs=>AB s.1=true/\s.2.1<=s.1.length/\s.1.length+(A9 s.1 s.2.1).lv.toNat<3518437208883/\s.1.length+(A9 s.1 s.2.1).lv.toNat<3518437208883)
    (λs=>[.i6 (s.2.1:Int),.sl (enL cNd s.1) (.own H.length)]) (λs=>H++.tok s.1.length AN 5::s.2.2) (λs=>(A9 s.1 s.2.1).lv.toNat)
    (λs=>some (.ret (.tup [.sl (enL cNd (BN (A9 s.1 s.2.1).lv.toNat s.1 s.2.1).1) .no,.i6 ((BN (A9 s.1 s.2.1).lv.toNat s.1 s.2.1).2:Int)]),H)) (λs rec hs hrec=>?_) (L,n,[]) ⟨hl,hn,by dsimp only;omega,by dsimp only;omega⟩ (by dsimp only;omega)
   ·exact key
   ·obtain⟨M,i,G⟩:=s;obtain⟨hs1,nA,pT,tY⟩:=hs;simp only at hs1 nA pT tY hrec ⊢;unfold Sh.f7m;simp only[GMw,S2 M _ i _ (show M.length<140737488355327 by omega) hs1 nA];cases hh:DA M i with
    | false=>
     have:BN (A9 M i).lv.toNat M i=(M,i):=by
      cases (A9 M i).lv.toNat with
      | zero=>rfl
      | succ f=>simp[BN,hh]
     simp only[GMw,this,Cw,Ci,Bu,B6,Ja,CM,zXb]
    | true=>
     obtain⟨jC,gD⟩:=Nm hh;obtain⟨m,rfl⟩:∃m,i=m+1:=⟨i-1,by omega⟩;have hm:m<M.length:=nA;obtain⟨l1,l2,l3⟩:=AO hs1 hm;have hx:A9 M ((m+1:Nat):Int)=M[m]:=Ba hm;rw[hx]at gD pT hrec ⊢;have cQ:IntKind.i64.wrap (((m+1:Nat):Int)-1)=(m:Int):=by rw[Ao] <;> omega
     have mA:IntKind.i64.wrap (M[m].lv-1)=M[m].lv-1:=Ao (by omega) (by omega);have jF:BN M[m].lv.toNat M (m+1)=BN (M[m].lv-1).toNat (M++[Cd M (m+1)]) (M.length+1):=by
      rw[show M[m].lv.toNat=(M[m].lv-1).toNat+1 from by omega];simp only[BN,hh,if_true]
     generalize hB:H++.tok M.length AN 5::G=B;simp only[GMw,Ar,Ah,AE,VU,Nat.add_zero,Wg,Co,cQ,A1 hm,mA,TI,Pv,JQ (Al (B:=B) (cs:=cNd nd0)) rfl,Be];refine Cm (G:=λaA vs H1=>Sh.f68 H rec aA (ag vs 0) (ag vs 1) (ag vs 2) (ag vs 3) H1) 4 (λk=>[.i6 ((m+1:Nat):Int),.sl (enL cNd M) (.own H.length),.ptr B.length 0 0,.i6 (k:Int)]) (λk=>B++[.cel 0 (cNd (UI (IX M M[m]) ⟨M[m].lv-1,0,0,0,0⟩ k))]) _ (by decide) (λaA k hk=>?_) (λaA=>?_)
     ·have hk':(k:Int)<4:=by omega
      unfold Sh.f68;have nW:=q05_inner M (.own H.length) m k (B++[.cel 0 (cNd (UI (IX M M[m]) ⟨M[m].lv-1,0,0,0,0⟩ k))]) (by omega) hs1 hm gD hk;simp only[GMw,hk',nW,Ah,VU,HZ hk,ET (Al (B:=B)) hk,Be,Au (show k<9223372036854775807 by omega)]
      rfl
     ·have hf:¬(((4:Nat):Int)<4):=by decide
      have nZ:(⟨M[m].lv-1,IX M M[m] 0,IX M M[m] 1,IX M M[m] 2,IX M M[m] 3⟩:Nd)=Cd M (m+1):=by unfold Cd;rw[hx]
      unfold Sh.f68;rw[UH];simp only[GMw,hf,HY (Al (B:=B)),Ks];rw[<-hB,VZ,List.cons_append,VL (by omega)];simp only[GMw,Ax,VX,zXi,nZ];have eF:(A9 (M++[Cd M (m+1)]) ((M.length+1:Nat):Int)).lv=M[m].lv-1:=by
       rw[Ba (by simp),show (M++[Cd M (m+1)])[M.length]'(by simp)=Cd M (m+1) from by simp];show (A9 M ((m+1:Nat):Int)).lv-1=_;rw[hx]
      have:=hrec (M++[Cd M (m+1)],M.length+1,G++[.cel 0 (cNd (Cd M (m+1)))]) ⟨Nl hs1 hm gD,by simp,by dsimp only;rw[eF];simp;omega,by dsimp only;rw[eF];simp;omega⟩ (by dsimp only;rw[eF];omega);simp only[VX,zXi]at this;rw[this,eF,jF]
def Ct (l:List Nd)(x:Nd):Nat:=match (List.range l.length).find? (λi=>decide (l.getD i nd0=x))with | some i=>i+1 | none=>0
theorem Et {l:List Nd}{x:Nd}{i:Nat}:Ct l x=i+1↔l[i]? = some x/\∀j,j<i->l[j]? ≠ some x:=by
 unfold Ct;constructor
 ·intro h;cases hf:(List.range l.length).find? (λi=>decide (l.getD i nd0=x))with
  | none=>rw[hf]at h;dsimp only at h;omega
  | some k=>
   rw[hf]at h;dsimp only at h;have hk:k=i:=by omega
   subst hk;rw[Y0]at hf;obtain⟨h1,h2,h3⟩:=hf;have hlt:k<l.length:=by simpa using h2
   simp only[zXe,VW,VO hlt,Option.getD_some]at h1;refine⟨by rw[VO hlt,h1],λj hj e=>?_⟩;have:=h3 j hj;simp only[VW,e,Option.getD_some,decide_true,WH]at this;cases this
 ·rintro⟨h1,h2⟩;have hlt:i<l.length:=(VP.1 h1).1;have hf:(List.range l.length).find? (λi=>decide (l.getD i nd0=x))=some i:=by
   rw[Y0];refine⟨by simp[VW,h1],by simpa using hlt,λj hj=>?_⟩;have tA:j<l.length:=by omega
   have:=h2 j hj;rw[VO tA]at this;simp only[VW,VO tA,Option.getD_some,WU,decide_eq_false_iff_not];exact λe=>this (by rw[e])
  rw[hf]
theorem Jb {l:List Nd}{x:Nd}:Ct l x=0↔x ∉ l:=by
 constructor
 ·intro h hx;obtain⟨i,hi,aH⟩:=Wz hx;unfold Ct at h;cases hf:(List.range l.length).find? (λi=>decide (l.getD i nd0=x))with
  | none=>
   have:=XU.1 hf i (by simpa using hi);simp[VW,VO hi,aH]at this
  | some k=>rw[hf]at h;dsimp only at h;omega
 ·intro h;cases hf:Ct l x with
  | zero=>rfl
  | succ i=>
   rw[Et]at hf;exact absurd (Wr hf.1) h
theorem findN_le (l:List Nd)(x:Nd):Ct l x<=l.length:=by
 cases hf:Ct l x with
 | zero=>omega
 | succ i=>rw[Et]at hf;exact (VP.1 hf.1).1
theorem OS {l m:List Nd}{x:Nd}(h:Ct l x≠0):Ct (l++m) x=Ct l x:=by
 cases hf:Ct l x with
 | zero=>exact absurd hf h
 | succ i=>
  rw[Et]at hf ⊢;have hlt:i<l.length:=(VP.1 hf.1).1;refine⟨by rw[VR hlt];exact hf.1,λj hj=>?_⟩;rw[VR (by omega)];exact hf.2 j hj
theorem V4 {l:List Nd}{x:Nd}(h:Ct l x=0):Ct (l++[x]) x=l.length+1:=by
 rw[Et];refine⟨by simp,λj hj e=>?_⟩;rw[VR hj]at e;exact Jb.1 h (Wr e)
def BF (out:List Nd)(x:Nd):List Nd×Nat:=if Ct out x=0 then (out++[x],out.length+1)else (out,Ct out x)
def BU (rec:Nat->List Nd->List Nd×Nat)(x:Nd):Nat->List Nd->List Nd×Nd
 | 0,out=>(out,x)
 | k+1,out=>((rec (x.kid k).toNat (BU rec x k out).1).1,(BU rec x k out).2.setKid k ((rec (x.kid k).toNat (BU rec x k out).1).2:Int))
def Bm (L:List Nd)(E:List Bool):Nat->Nat->List Nd->List Nd×Nat
 | 0,_,out=>(out,0)
 | v+1,n,out=>
  if E.getD n true then (out,0)
  else if 1<(A9 L n).lv then BF (BU (Bm L E v) (A9 L n) 4 out).1 (BU (Bm L E v) (A9 L n) 4 out).2
  else BF out (A9 L n)
theorem Mi (out:List Nd)(x:Nd):0<(BF out x).2:=by
 unfold BF;split
 ·simp
 ·dsimp only;omega
theorem S5 (out:List Nd)(x:Nd):∃r,(BF out x).1=out++r:=by
 unfold BF;split
 ·exact⟨_,rfl⟩
 ·exact⟨[],by simp⟩
theorem S6 (out:List Nd)(x:Nd)(r:List Nd):BF ((BF out x).1++r) x=((BF out x).1++r,(BF out x).2):=by
 by_cases h:Ct out x=0
 ·have h1:BF out x=(out++[x],out.length+1):=by simp[BF,h]
  rw[h1];have h2:Ct (out++[x]++r) x=out.length+1:=by rw[OS (by rw[V4 h];omega),V4 h]
  dsimp only;unfold BF;rw[h2,if_neg (by omega)]
 ·have h1:BF out x=(out,Ct out x):=by simp[BF,h]
  rw[h1];dsimp only;unfold BF;rw[OS h,if_neg h]
section
variable {L:List Nd}{E:List Bool}
theorem Tb {rec:Nat->List Nd->List Nd×Nat}(hr:∀n out,∃r,(rec n out).1=out++r)(x:Nd):∀k out,∃r,(BU rec x k out).1=out++r
 | 0,out=>⟨[],by simp[BU]⟩
 | k+1,out=>by
  obtain⟨r,h⟩:=Tb hr x k out;obtain⟨r',h'⟩:=hr (x.kid k).toNat (BU rec x k out).1;exact⟨r++r',by simp only[BU];rw[h',h];simp⟩
theorem Tc:∀v n out,∃r,(Bm L E v n out).1=out++r
 | 0,n,out=>⟨[],by simp[Bm]⟩
 | v+1,n,out=>by
  simp only[Bm];split
  ·exact⟨[],by simp⟩
  ·split
   ·obtain⟨r,h⟩:=Tb (Tc v) (A9 L n) 4 out;obtain⟨r',h'⟩:=S5 (BU (Bm L E v) (A9 L n) 4 out).1 (BU (Bm L E v) (A9 L n) 4 out).2;exact⟨r++r',by rw[h',h];simp⟩
   ·exact S5 _ _
theorem IW:∀v n out r,Bm L E v n ((Bm L E v n out).1++r)=((Bm L E v n out).1++r,(Bm L E v n out).2)
 | 0,n,out,r=>by simp[Bm]
 | v+1,n,out,r=>by
  by_cases he:E.getD n true=true
  ·simp only[Bm,if_pos he]
  ·by_cases hl:1<(A9 L n).lv
   ·have e:∀o,Bm L E (v+1) n o=BF (BU (Bm L E v) (A9 L n) 4 o).1 (BU (Bm L E v) (A9 L n) 4 o).2:=λo=>by simp only[Bm,if_neg he,if_pos hl]
    have key:∀k,k<=4->∀s,BU (Bm L E v) (A9 L n) k ((BU (Bm L E v) (A9 L n) k out).1++s)=((BU (Bm L E v) (A9 L n) k out).1++s,(BU (Bm L E v) (A9 L n) k out).2):=by
     intro k
     induction k with
     | zero=>intro _ s;simp[BU]
     | succ k ih=>
      intro hk s;simp only[BU];obtain⟨r',h'⟩:=Tc (L:=L) (E:=E) v ((A9 L n).kid k).toNat (BU (Bm L E v) (A9 L n) k out).1;have hi:=ih (by omega) (r'++s);have ha:=IW v ((A9 L n).kid k).toNat (BU (Bm L E v) (A9 L n) k out).1 s;rw[h']at ha ⊢;rw[VZ,hi];rw[VZ]at ha;dsimp only;rw[ha]
    obtain⟨r',h'⟩:=S5 (BU (Bm L E v) (A9 L n) 4 out).1 (BU (Bm L E v) (A9 L n) 4 out).2;have ha:=S6 (BU (Bm L E v) (A9 L n) 4 out).1 (BU (Bm L E v) (A9 L n) 4 out).2 r;rw[e,e];rw[h']at ha ⊢;rw[VZ,key 4 (by omega)];dsimp only;rw[VZ]at ha;exact ha
   ·have e:∀o,Bm L E (v+1) n o=BF o (A9 L n):=λo=>by simp only[Bm,if_neg he,if_neg hl]
    rw[e,e];exact S6 out (A9 L n) r

end
theorem q06_find (l:List Nd)(tk:Tok)(x:Nd)(H:Aa)(hl:l.length<1152921504606846975):Sh.f3e (.sl (enL cNd l) tk) (.agg (cNd x)) H=some (.ret (.i6 (Ct l x:Int)),H):=by
 unfold Sh.f3e;rw[Cp (sz:=5) Fp rfl];simp only[GMw];have hp:(H++[Blk.cel 0 (cNd x)])[H.length]? = some (.cel 0 (cNd x)):=Al;have key:=Oa (G:=λrec1 vs H1=>Sh.f6a H rec1 (ag vs 0) (ag vs 1) (ag vs 2) H1) l.length (λi=>decide (l.getD i nd0=x)) (λi=>[.sl (enL cNd l) tk,.ptr H.length 0 0,.i6 (i:Int)]) (H++[.cel 0 (cNd x)])
  (some (.ret (.i6 0),H)) (λi=>some (.ret (.i6 ((i+1:Nat):Int)),H)) (by omega) (λrec i hi=>?_) (λrec=>?_)
 ·refine key.trans ?_;unfold Ct;cases (List.range l.length).find? (λi=>decide (l.getD i nd0=x)) <;> rfl
 ·have aD:(i:Int)<(l.length:Int):=by omega
  unfold Sh.f6a;simp only[GMw,Ax,aD,A1 hi,Jy,HY hp,eq_nd,Au (show i<9223372036854775807 by omega),Ij];simp only[VW,VO hi,Option.getD_some];by_cases he:l[i]=x
  ·simp only[he,GMw]
  ·simp only[he,GMw]
 ·unfold Sh.f6a;simp only[GMw,Ax,WL,Ij]
structure VS (b id:Nat)(out:List Nd)(D:List Nat)(v:Ab)(H:Aa):Prop where
 hv:(out=[]/\v=.sl [] .ti)\/∃t,b<=t/\v=.sl (enL cNd out) (.own t)/\H[t]? = some (.tok out.length AN 5)
 hd:H[id]? = some (.cel 0 (flat cN D))
structure Ext (b id:Nat)(H H':Aa):Prop where
 len:H.length<=H'.length
 cel:∀(i:Nat) (cs:List Ab),i≠id->H[i]? = some (.cel 0 cs)->H'[i]? = some (.cel 0 cs)
 old:∀i,i<b->H'[i]? = H[i]?
theorem Ext.refl (b id:Nat)(H:Aa):Ext b id H H:=⟨VV _,λ_ _ _ h=>h,λ_ _=>rfl⟩
theorem Ext.trans {b id:Nat}{H H1 H2:Aa}(h:Ext b id H H1)(h':Ext b id H1 H2):Ext b id H H2:=
 ⟨Wu h.len h'.len,λi cs hi hc=>h'.cel i cs hi (h.cel i cs hi hc),λi hi=>(h'.old i hi).trans (h.old i hi)⟩
theorem VS.sl {b id:Nat}{out:List Nd}{D:List Nat}{v:Ab}{H:Aa}(h:VS b id out D v H):∃tk,v=.sl (enL cNd out) tk:=by
 rcases h.hv with ⟨rfl,rfl⟩ | ⟨t,_,rfl,_⟩
 ·exact⟨_,rfl⟩
 ·exact⟨_,rfl⟩
theorem ON {H:Aa}{i:Nat}{x:Blk}(B:Blk)(h:H[i]? = some x):(H++[B])[i]? = some x:=by
 have:=(VP.1 h).1;rw[VR this];exact h
theorem VS.snoc {b id:Nat}{out:List Nd}{D:List Nat}{v:Ab}{H:Aa}(h:VS b id out D v H)(B:Blk):VS b id out D v (H++[B]):=by
 refine⟨?_,ON B h.hd⟩;rcases h.hv with h1 | ⟨t,h1,h2,h3⟩
 ·exact .inl h1
 ·exact .inr ⟨t,h1,h2,ON B h3⟩
theorem Ext.snoc {b id:Nat}{H:Aa}(hb:b<=H.length)(B:Blk):Ext b id H (H++[B]):=
 ⟨by simp,λi cs _ h=>ON B h,λi hi=>by rw[VR (by omega)]⟩
theorem VS.put {b id p:Nat}{out:List Nd}{D:List Nat}{v:Ab}{H:Aa}{c c':List Ab}(h:VS b id out D v H)(hp:H[p]? = some (.cel 0 c))(hne:p≠id):VS b id out D v (H.set p (.cel 0 c')):=by
 refine⟨?_,by rw[VT hne];exact h.hd⟩;rcases h.hv with h1 | ⟨t,h1,h2,h3⟩
 ·exact .inl h1
 ·refine .inr ⟨t,h1,h2,?_⟩;have:p≠t:=λe=>by rw[<-e,hp]at h3;cases h3
  rw[VT this];exact h3
theorem VS.app {b id:Nat}{out:List Nd}{D:List Nat}{v:Ab}{H:Aa}(h:VS b id out D v H)(hb:b<=H.length)(x:Nd)(hl:out.length<3518437208883) :
  ∃v' H',AW AN 5 40 v (.sl (enL cNd [x]) .ti) H=some (v',H')/\VS b id (out++[x]) D v' H'/\Ext b id H H':=by
 rcases h.hv with ⟨rfl,rfl⟩ | ⟨t,h1,rfl,h3⟩
 ·have:=CR (f:=cNd) (l:=[]) (m:=[x]) (ty:=AN) (bytes:=40) (tk:=.ti) (H:=H) (by simp) (by simp) (by simp);refine⟨_,_,this,⟨.inr ⟨H.length,hb,rfl,by simp⟩,ON _ h.hd⟩,Ext.snoc hb _⟩
 ·have:=Fr (f:=cNd) (l:=out) (m:=[x]) (ty:=AN) (bytes:=40) (tk:=.ti) (H:=H) (t:=t) (by simp) h3 (by simp;omega) (by simp;omega);have jA:=(VP.1 h3).1;refine⟨_,_,this,⟨.inr ⟨t,h1,rfl,by simp[jA]⟩,?_⟩,⟨by simp,λi cs hi hc=>?_,λi hi=>?_⟩⟩
  ·have:t≠id:=λe=>by have:=h.hd;rw[<-e,h3]at this;cases this
   rw[VT this];exact h.hd
  ·have:t≠i:=λe=>by rw[<-e,h3]at hc;cases hc
   rw[VT this];exact hc
  ·rw[VT (by omega)]
structure VI (L out:List Nd)(D:List Nat):Prop where
 len:D.length=L.length+1
 cnt:out.length<=D.countP (λd=>decide (0<d))
 val:∀(n d:Nat),D[n]? = some d->0<d->Bm L (A4 L) (A9 L n).lv.toNat n out=(out,d)
theorem VI.grow {L out r:List Nd}{D:List Nat}(h:∀(n d:Nat),D[n]? = some d->0<d->Bm L (A4 L) (A9 L n).lv.toNat n out=(out,d)):∀(n d:Nat),D[n]? = some d->0<d->Bm L (A4 L) (A9 L n).lv.toNat n (out++r)=(out++r,d):=by
 intro n d h1 h2;have h3:=h n d h1 h2;have:=IW (L:=L) (E:=A4 L) (A9 L n).lv.toNat n out r
 rwa [h3]at this
theorem VI.le {L out:List Nd}{D:List Nat}(h:VI L out D):out.length<=L.length+1:=by
 have:=h.cnt;have:=List.countP_le_length (p:=λd:Nat=>decide (0<d)) (l:=D);have:=h.len;omega
theorem insF_lv {L:List Nd}{E:List Bool}{v n:Nat}{out:List Nd}(he:E.getD n true=false)(hl:1<(A9 L n).lv):Bm L E (v+1) n out=BF (BU (Bm L E v) (A9 L n) 4 out).1 (BU (Bm L E v) (A9 L n) 4 out).2:=by
 simp only[Bm,he,VY,if_false,if_pos hl]
theorem insF_one {L:List Nd}{E:List Bool}{v n:Nat}{out:List Nd}(he:E.getD n true=false)(hl:¬1<(A9 L n).lv):Bm L E (v+1) n out=BF out (A9 L n):=by
 simp only[Bm,he,VY,if_false,if_neg hl]
theorem insK_lv (rec:Nat->List Nd->List Nd×Nat)(x:Nd):∀k out,(BU rec x k out).2.lv=x.lv
 | 0,out=>rfl
 | k+1,out=>by simp only[BU,UJ];exact insK_lv rec x k out
theorem insK_kid (rec:Nat->List Nd->List Nd×Nat)(x:Nd):∀k out j,k<=j->j<4->(BU rec x k out).2.kid j=x.kid j
 | 0,out,j,_,_=>rfl
 | k+1,out,j,h1,h2=>by
  simp only[BU];rw[Fu _ _ (by omega) h2 (by omega)];exact insK_kid rec x k out j (by omega) h2
theorem UU {L:List Nd}(tk tk2:Tok)(b id:Nat)(hL:L.length<3518437208880)(hl:AB L=true):∀(v n d:Nat) (out:List Nd) (D:List Nat) (w:Ab) (H:Aa),n<=L.length->(n=0\/(A9 L n).lv.toNat=v)->v<d->b<=id->id<H.length->VS b id out D w H->VI L out D ->
  ∃H' D' w',Sh.fp d (.sl (enL cNd L) tk) (.sl (enL cB (A4 L)) tk2) (.i6 (n:Int)) w (.ms id 0 0 (L.length+1) (L.length+1) 1 true) H=some (.ret (.tup [w',.ms id 0 0 (L.length+1) (L.length+1) 1 true,.i6 ((Bm L (A4 L) v n out).2:Int)]),H') /\
   VS b id (Bm L (A4 L) v n out).1 D' w' H'/\Ext b id H H'/\VI L (Bm L (A4 L) v n out).1 D'/\∀j,n<j->D'[j]? = D[j]? := by
 intro v
 induction v with
 | zero=>
  intro n d out D w H hn hv hd yC hid hVS hVI;have hb:b<=H.length:=by omega
  obtain⟨d,rfl⟩:∃e,d=e+1:=⟨d-1,by omega⟩;have dZ:n=0:=by
   rcases hv with h | h
   ·exact h
   ·cases n with
    | zero=>rfl
    | succ m=>
     rw[Ba (show m<L.length from hn)]at h;have:=(AO hl (show m<L.length from hn)).1;omega
  subst dZ;have hlt:0<(A4 L).length:=by rw[CT];omega
  have he:(A4 L)[0]=true:=by have:=DW L;rw[VW,VO hlt]at this;exact this
  refine⟨H,D,w,?_,hVS,Ext.refl _ _ _,hVI,λ_ _=>rfl⟩;show Sh.f3f (Sh.fp d) _ _ _ _ _ _=_;unfold Sh.f3f;simp only[GMw,Ar,Ah,AE,VU,Nat.add_zero,Wg,Co,A1 hlt,zXh,he]
  rfl
 | succ v ih=>
  intro n d out D w H hn hv hd yC hid hVS hVI;have hb:b<=H.length:=by omega
  obtain⟨d,rfl⟩:∃e,d=e+1:=⟨d-1,by omega⟩;have hlt:n<(A4 L).length:=by rw[CT];omega
  have eQ:(A4 L).getD n true=(A4 L)[n]:=by rw[VW,VO hlt];rfl
  have hDn:n<D.length:=by rw[hVI.len];omega
  have hidx:=CL (sz:=1) (id:=id) (n:=L.length+1) (K:=.i64) (g:=0) (off:=0) (cap:=L.length+1) (ex:=true) (i:=n) (by omega);simp only[VU,Wg]at hidx;have hld:=Iy (f:=cN) (Aw hVS.hd) hDn;show ∃H' D' w',Sh.f3f (Sh.fp d) _ _ _ _ _ _=_/\_;unfold Sh.f3f;simp only[GMw,Ar,Ah,AE,VU,Nat.add_zero,Wg,Co,A1 hlt,zXh];cases he:(A4 L)[n]with
  | true=>
   have e:Bm L (A4 L) (v+1) n out=(out,0):=by simp only[Bm,eQ,he,if_true]
   rw[e];exact⟨H,D,w,by simp only[GMw];rfl,hVS,Ext.refl _ _ _,hVI,λ_ _=>rfl⟩
  | false=>
   rw[he]at eQ;simp only[GMw,hidx,hld,zXh];by_cases hpos:0<D[n]
   ·have hi:(D[n]:Int)>0:=by omega
    have aO:(A9 L n).lv.toNat=v+1:=by
     rcases hv with h | h
     ·exfalso;subst h;rw[DW]at eQ;cases eQ
     ·exact h
    have e:=hVI.val n D[n] (VO hDn) hpos;rw[aO]at e;rw[e];exact⟨H,D,w,by simp only[GMw,hi],hVS,Ext.refl _ _ _,hVI,λ_ _=>rfl⟩
   ·have hi:¬(D[n]:Int)>0:=by omega
    have hD0:D[n]=0:=by omega
    obtain⟨m,rfl⟩:∃m,n=m+1:=⟨n-1,by
     cases n with
     | zero=>rw[DW]at eQ;cases eQ
     | succ n=>rfl⟩
    have hm:m<L.length:=hn;have aO:(A9 L ((m+1:Nat):Int)).lv.toNat=v+1:=by
     rcases hv with h | h
     ·omega
     ·exact h
    obtain⟨l1,l2,l3⟩:=AO hl hm;have hx:A9 L ((m+1:Nat):Int)=L[m]:=Ba hm;rw[hx]at aO;have cQ:IntKind.i64.wrap (((m+1:Nat):Int)-1)=(m:Int):=by rw[Ao] <;> omega
    simp only[GMw,hi,cQ,A1 hm,Jy,Pv,JQ (Al (B:=H) (cs:=cNd nd0)) rfl,Be];generalize hX:L[m]=x at l1 l2 l3 aO hx;have qC:H.length≠id:=by omega
    have loop:=GG (G:=λrec1 vs H1=>Sh.f6b H (Sh.fp d) rec1 (ag vs 0) (ag vs 1) (ag vs 2) (ag vs 3) (ag vs 4) (ag vs 5) (ag vs 6) H1) (if 1<x.lv then 4 else 0)
     (λk vs Hc=>∃w' D',vs=[.sl (enL cNd L) tk,.sl (enL cB (A4 L)) tk2,.i6 ((m+1:Nat):Int),w',.ms id 0 0 (L.length+1) (L.length+1) 1 true,.ptr H.length 0 0,.i6 (k:Int)]/\VS b id (BU (Bm L (A4 L) v) x k out).1 D' w' Hc/\Hc[H.length]? = some (.cel 0 (cNd (BU (Bm L (A4 L) v) x k out).2))/\Ext b id H Hc/\VI L (BU (Bm L (A4 L) v) x k out).1 D'/\(∀j,m<j->D'[j]? = D[j]?))
     (by split <;> decide) (λk vs Hc hk hI=>?_) (vs:=[.sl (enL cNd L) tk,.sl (enL cB (A4 L)) tk2,.i6 ((m+1:Nat):Int),w,.ms id 0 0 (L.length+1) (L.length+1) 1 true,.ptr H.length 0 0,.i6 0]) (H:=H++[.cel 0 (cNd x)]) ⟨w,D,rfl,hVS.snoc _,by simp[BU],Ext.snoc hb _,hVI,λ_ _=>rfl⟩
    ·obtain⟨vs',Hc,⟨w',D',rfl,hVS',hcell,hExt,hVI',hDD⟩,rec,aB⟩:=loop;rw[aB];unfold Sh.f6b;obtain⟨tkk,rfl⟩:=hVS'.sl;have hle:=hVI'.le;have wT:(AF (.bool (decide (((if 1<x.lv then 4 else 0:Nat):Int)<4))) (.bool (decide (x.lv>1))) (.bool false))=some (.bool false):=by
      by_cases h:1<x.lv <;> simp[h]
     have lH:(BU (Bm L (A4 L) v) x (if 1<x.lv then 4 else 0) out).2.lv=x.lv:=insK_lv _ _ _ _;have dP:Bm L (A4 L) (v+1) (m+1) out=BF (BU (Bm L (A4 L) v) x (if 1<x.lv then 4 else 0) out).1 (BU (Bm L (A4 L) v) x (if 1<x.lv then 4 else 0) out).2:=by
      by_cases h:1<x.lv
      ·rw[if_pos h,insF_lv eQ (by rw[hx];exact h),hx]
      ·rw[if_neg h,insF_one eQ (by rw[hx];exact h),hx];rfl
     have hpre:=Tb (Tc (L:=L) (E:=A4 L) v) x (if 1<x.lv then 4 else 0) out;rw[dP];have cA:=IW (L:=L) (E:=A4 L) (v+1) (m+1) out [];rw[Wx,dP]at cA;generalize (BU (Bm L (A4 L) v) x (if 1<x.lv then 4 else 0) out)=io at *;obtain⟨o,y⟩:=io;dsimp only at hVS' hcell hVI' lH hpre cA hle ⊢;have bL:∀(A B:Out),(gk (.bool (decide (((if 1<x.lv then 4 else 0:Nat):Int)<4))) true (Ad 0 (.ptr H.length 0 0)) λx29=>gk (.bool (decide (((if 1<x.lv then 4 else 0:Nat):Int)<4))) true (Ac false 1 x29 Hc) λx30=>gk (.bool (decide (((if 1<x.lv then 4 else 0:Nat):Int)<4))) true (Ae .none .gtr x30 (.i6 1)) λx31=>(AF (.bool (decide (((if 1<x.lv then 4 else 0:Nat):Int)<4))) x31 (.bool false)).bind λx32=>Ak x32 A B)=B:=by
      intro A B;by_cases h:1<x.lv
      ·have hf:¬(((4:Nat):Int)<4):=by decide
       simp only[if_pos h,hf,GMw]
      ·have hf:(((0:Nat):Int)<4):=by decide
       have h':¬x.lv>1:=h;simp only[if_neg h,hf,GMw,Ah,Nat.add_zero,ST hcell,lH,h']
     simp only[Am,Aj,Br,BH];rw[bL];have rI:Av 1 (.ms id 0 0 (L.length+1) (L.length+1) 1 true) (.i6 ((m+1:Nat):Int))=some (.ptr id 0 (m+1)):=hidx;have hD'n:D'[m+1]? = some 0:=by rw[hDD (m+1) (by omega),VO hDn,hD0]
     have hDl:m+1<D'.length:=by rw[hVI'.len];omega
     have hD'e:D'[m+1]=0:=by rw[VO hDl]at hD'n;injection hD'n
     have fin:∀(o':List Nd) (i:Nat) (w2:Ab) (H2:Aa),BF o y=(o',i)->VS b id o' D' w2 H2->Ext b id H H2->VI L o D'->o'.length<=o.length+1->(∃r,o'=o++r) ->
       ∃H' D'' w'',Sh.f7n H (.i6 ((m+1:Nat):Int)) w2 (.ms id 0 0 (L.length+1) (L.length+1) 1 true) (.i6 (i:Int)) H2=some (.ret (.tup [w'',.ms id 0 0 (L.length+1) (L.length+1) 1 true,.i6 (i:Int)]),H')/\VS b id o' D'' w'' H'/\Ext b id H H'/\VI L o' D''/\∀j,m+1<j->D''[j]? = D[j]? := by
      intro o' i w2 H2 hp hV2 hE2 hI2 hlen ⟨r,hr⟩;have jC:0<i:=by have:=Mi o y;rw[hp]at this;exact this
      have hst:=DS (f:=cN) (sz:=1) (l:=D') (i:=m+1) (a:=i) (v:=.i6 (i:Int)) (Aw hV2.hd) hDl rfl;rw[Bt hV2.hd,Wg]at hst;have lM:=(VP.1 hV2.hd).1;refine⟨H2.set id (.cel 0 (flat cN (D'.set (m+1) i))),D'.set (m+1) i,w2,by unfold Sh.f7n;simp only[GMw,rI,hst],⟨?_,by simp[lM]⟩,⟨by simp;exact hE2.len,λj cs hj hc=>?_,λj hj=>?_⟩,⟨by simp[hI2.len],?_,?_⟩,λj hj=>?_⟩
      ·rcases hV2.hv with h1 | ⟨t,h1,h2,h3⟩
       ·exact .inl h1
       ·refine .inr ⟨t,h1,h2,?_⟩;have:id≠t:=λe=>by have:=hV2.hd;rw[e,h3]at this;cases this
        rw[VT this];exact h3
      ·rw[VT (λe=>hj e.symm)];exact hE2.cel j cs hj hc
      ·rw[VT (by omega)];exact hE2.old j hj
      ·rw[List.countP_set hDl];have:=hI2.cnt;simp only[hD'e,jC,decide_true,if_true,Nat.lt_irrefl,decide_false,VY,if_false,Nat.sub_zero];omega
      ·intro j dd hj lO;by_cases xL:j=m+1
       ·subst xL;rw[Wf hDl]at hj;injection hj with hj;subst hj;rw[hx,aO];rw[hp]at cA;exact cA
       ·rw[VT (λe=>xL e.symm)]at hj;rw[hr];exact VI.grow hI2.val j dd hj lO
      ·rw[VT (by omega)];exact hDD j (by omega)
     have gO:=q06_find o tkk y Hc (by omega);simp only[GMw,HY hcell,gO];by_cases hf:Ct o y=0
     ·have hp:BF o y=(o++[y],o.length+1):=by simp[BF,hf]
      obtain⟨w2,H2,ha,hV2,hE2⟩:=hVS'.app (Wu hb hExt.len) y (by omega);obtain⟨tk3,rfl⟩:=hV2.sl;have h0:((Ct o y:Nat):Int)=0:=by omega
      obtain⟨H',D'',w'',q1,q2,q3,q4,q5⟩:=fin (o++[y]) (o.length+1) _ H2 hp hV2 (hExt.trans hE2) hVI' (by simp) ⟨[y],rfl⟩;refine⟨H',D'',w'',?_,by rw[hp];exact q2,q3,by rw[hp];exact q4,q5⟩;rw[hp,<-q1];simp only[GMw,h0,Ks,ha,Ax,VX,zXi]
     ·have hp:BF o y=(o,Ct o y):=by simp[BF,hf]
      have h0:¬((Ct o y:Nat):Int)=0:=by omega
      obtain⟨H',D'',w'',q1,q2,q3,q4,q5⟩:=fin o (Ct o y) _ Hc hp hVS' hExt hVI' (by omega) ⟨[],by simp⟩;refine⟨H',D'',w'',?_,by rw[hp];exact q2,q3,by rw[hp];exact q4,q5⟩;rw[hp,<-q1];simp only[GMw,h0]
    ·obtain⟨w',D',rfl,hVS',hcell,hExt,hVI',hDD⟩:=hI;have aJ:1<x.lv:=by
      by_cases h:1<x.lv
      ·exact h
      ·rw[if_neg h]at hk;omega
     rw[if_pos aJ]at hk;obtain⟨q1,q2,q3⟩:=l3 k hk;have hk':(k:Int)<4:=by omega
     have lH:=insK_lv (Bm L (A4 L) v) x k out;have aV:=insK_kid (Bm L (A4 L) v) x k out k (VV _) hk;obtain⟨c,hc⟩:=WQ q1;have zY:c<=m:=by
      by_cases h0:0<x.kid k
      ·have:=(q3 aJ h0).1;omega
      ·omega
     have vU:c=0\/(A9 L (c:Int)).lv.toNat=v:=by
      by_cases h0:0<x.kid k
      ·right;obtain⟨c',rfl⟩:∃c',c=c'+1:=⟨c-1,by omega⟩;have aG:c'<L.length:=by omega
       have:=(q3 aJ h0).2 L[c'] (by rw[show (x.kid k-1).toNat=c' from by omega];exact VO aG);rw[Ba aG];omega
      ·left;omega
     obtain⟨H1,D1,w1,r1,r2,r3,r4,r5⟩:=ih c d (BU (Bm L (A4 L) v) x k out).1 D' w' Hc (by omega) vU (by omega) yC (WP hid hExt.len) hVS' hVI';have gY:=r3.cel _ _ qC hcell;have kI:(x.kid k).toNat=c:=by omega
     refine⟨[.sl (enL cNd L) tk,.sl (enL cB (A4 L)) tk2,.i6 ((m+1:Nat):Int),w1,.ms id 0 0 (L.length+1) (L.length+1) 1 true,.ptr H.length 0 0,.i6 ((k+1:Nat):Int)],H1.set H.length (.cel 0 (cNd ((BU (Bm L (A4 L) v) x k out).2.setKid k ((Bm L (A4 L) v c (BU (Bm L (A4 L) v) x k out).1).2:Int)))),⟨w1,D1,rfl,?_,?_,?_,?_,?_⟩,λrec=>?_⟩
     rotate_left 5
     ·unfold Sh.f6b;simp only[Am,Aj,GMw,hk',Ah,Nat.add_zero,VU,ST hcell,lH,show x.lv>1 from aJ,HZ hk,Vj hcell hk,aV,hc,r1,B1,B8,V6,ET gY hk,Au (show k<9223372036854775807 by omega)]
     ·simp only[BU,kI];exact r2.put gY qC
     ·have cD:=(VP.1 gY).1;simp only[BU,kI];rw[Wf cD]
     ·refine⟨by simp;exact (hExt.trans r3).len,λi cs hi hcs=>?_,λi hi=>?_⟩
      ·have:=(VP.1 hcs).1;rw[VT (by omega)];exact (hExt.trans r3).cel i cs hi hcs
      ·rw[VT (by omega)];exact (hExt.trans r3).old i hi
     ·simp only[BU,kI];exact r4
     ·intro j hj;rw[r5 j (by omega)];exact hDD j hj
theorem C0 {H H0:Aa}(h:∀i,i<H0.length->H[i]? = H0[i]?):H.take H0.length=H0:=by
 apply Xx;intro i;by_cases hi:i<H0.length
 ·rw[WM hi,h i hi]
 ·rw[zYb (by simp;omega),zYb (by omega)]
theorem Sk:∀(f:Nat) (L:List Nd) (n:Nat),AB L=true->n<=L.length->AB (BN f L n).1=true/\(BN f L n).2<=(BN f L n).1.length/\(BN f L n).1.length<=L.length+f
 | 0,L,n,hl,hn=>⟨hl,hn,VV _⟩
 | f+1,L,n,hl,hn=>by
  unfold BN;cases hh:DA L n with
  | false=>exact⟨hl,hn,by show L.length<=_;omega⟩
  | true=>
   obtain⟨h0,h2⟩:=Nm hh;obtain⟨m,rfl⟩:∃m,n=m+1:=⟨n-1,by omega⟩;rw[Ba hn]at h2;obtain⟨r1,r2,r3⟩:=Sk f (L++[Cd L (m+1)]) (L.length+1) (Nl hl hn h2) (by simp);simp only[if_true];refine⟨r1,r2,?_⟩;simp at r3;omega
theorem OZ {L:List Nd}{n:Nat}(h:(A4 L).getD n true=false):0<n:=by
 cases n with
 | zero=>rw[DW]at h;cases h
 | succ n=>omega
theorem OB {L:List Nd}(hl:AB L=true){n:Nat}(h0:0<n)(hn:n<=L.length):(A9 L (n:Int)).lv.toNat<=1329:=by
 obtain⟨m,rfl⟩:∃m,n=m+1:=⟨n-1,by omega⟩;rw[Ba hn];have:=(AO hl hn).2.1;omega
theorem P6 {L:List Nd}{n:Nat}(hl:AB L=true)(hn:n<=L.length):AB (DH L n).1=true/\(DH L n).2<=(DH L n).1.length/\(DH L n).1.length<=L.length+1329:=by
 unfold DH;cases he:(A4 L).getD n true with
 | true=>exact⟨hl,Wv _,by show L.length<=_;omega⟩
 | false=>
  obtain⟨r1,r2,r3⟩:=Sk (A9 L n).lv.toNat L n hl hn;have:=OB hl (OZ he) hn;simp only[VY,if_false];exact⟨r1,r2,by omega⟩
def Jg (L:List Nd)(n:Nat):List Nd:=(Bm (DH L n).1 (A4 (DH L n).1) (A9 (DH L n).1 ((DH L n).2:Int)).lv.toNat (DH L n).2 []).1
def SG (L:List Nd)(n:Int):Bool:=AB L&&decide (0<=n)&&decide (n<=L.length)
theorem q06_of (L:List Nd)(tk:Tok)(n:Int)(H:Aa)(hL:L.length<3518437200000):Sh.f6c (.sl (enL cNd L) tk) (.i6 n) H =
  some (.ret (if SG L n then .tup [CY (Jg L n.toNat),.i6 0]else .tup [CY [],.i6 1]),H):=by
 unfold Sh.f6c;rw[alloc_eq (cs:=[.sl [] .ti]) rfl];have hcell:∀G:Aa,(H++[Blk.cel 0 [.sl [] .ti]]++G)[H.length]? = some (.cel 0 [.sl [] .ti]):=λG=>by simp
 have bad:∀(k:Ab->Aa->Out),(∀v G,k v G=(Eh [Ac true 1 (.ptr H.length 0 0) G,some (.i6 1)]).bind λx19=>rPN H x19 G) ->
   ((A6 (some [(.sl [] .ti)]) []).bind λx16=>bP H (A8 (Af 1 (.ptr H.length 0 0) x16 (H++[.cel 0 [.sl [] .ti]]))) k)=some (.ret (.tup [CY [],.i6 1]),H):=by
  intro k hk;have hb:A6 (some [(.sl [] .ti)]) []=some (.agg [.sl [] .ti]):=rfl;simp only[GMw,hb,Kz,P1 (sz:=1) (cs:=[.sl [] .ti]) (vs:=[.sl [] .ti]) (v:=.agg [.sl [] .ti]) rfl rfl rfl,zXb,hk,F2,SR,zXi,EN,CU,D6];simp only[Cw,Ci,Bu,B6,F5,DB,Ew,GL,CM,GMw,zXb]
  rfl
 simp only[GMw,UV L tk _ (show L.length<1152921504606846976 by omega)];unfold SG;cases hl:AB L with
 | false=>
  simp only[GMw];exact bad _ λv G=>rfl
 | true=>
  simp only[GMw,Ax];by_cases dZ:n<0
  ·have:¬0<=n:=by omega
   simp only[GMw,dZ,this];exact bad _ λv G=>rfl
  ·have eX:0<=n:=by omega
   by_cases dL:n>L.length
   ·have:¬n<=L.length:=by omega
    simp only[GMw,dZ,eX,dL,this,Ax];exact bad _ λv G=>rfl
   ·obtain⟨n,rfl⟩:=WQ eX;have hle:n<=L.length:=by omega
    have iQ:(n:Int)<=(L.length:Int):=by omega
    have oT:¬(n:Int)>(L.length:Int):=dL;obtain⟨s1,s2,s3⟩:=P6 hl hle;simp only[GMw,dZ,eX,oT,iQ,Ax,q06_shrink L tk n _ (show L.length<3518437200000 by omega) hl hle,B1,B8];unfold Jg;simp only[zXl];generalize DH L n=s at s1 s2 s3;obtain⟨M,r⟩:=s;dsimp only at s1 s2 s3 ⊢;have cX:=Fz (f:=cN) (a:=0) (n:=M.length+1) (bytes:=8) (H:=H++[.cel 0 [.sl [] .ti]]) (by omega) (by omega);simp only[show cN 0=[Ab.i6 0] from rfl]at cX;simp only[GMw,Jt M .no _ (show M.length<140737488355327 by omega) s1,Ax,Au (show M.length<9223372036854775807 by omega),cX];have nP:(A9 M (r:Int)).lv.toNat<AU:=by
     rw[Dr];by_cases hr:0<r
     ·have:=OB s1 hr s2;omega
     ·obtain rfl:r=0:=by omega
      unfold A9;rw[VW];by_cases hM:0<M.length
      ·rw[show (((0:Nat):Int)-1).toNat=0 from rfl,VO hM];have:=(AO s1 hM).2.1;simp only[Option.getD_some];omega
      ·rw[show (((0:Nat):Int)-1).toNat=0 from rfl,zYb (by omega)];simp
    obtain⟨H',D',w',v1,v2,v3,v4,v5⟩:=UU (L:=M) .no .no (H++[Blk.cel 0 [.sl [] .ti]]).length (H++[Blk.cel 0 [.sl [] .ti]]).length (by omega) s1 (A9 M (r:Int)).lv.toNat r AU [] (List.replicate (M.length+1) 0) (.sl [] .ti) (H++[.cel 0 [.sl [] .ti]]++[.cel 0 (flat cN (List.replicate (M.length+1) 0))])
     s2 (.inr rfl) nP (VV _) (by simp) ⟨.inl ⟨rfl,rfl⟩,Al⟩ ⟨by simp,by simp,λj dd hj lO=>by
      have:=Wr hj;rw[XR]at this;omega⟩
    have hold:∀i,i<H.length+1->H'[i]? = (H++[Blk.cel 0 [.sl [] .ti]])[i]? := λi hi=>by
     rw[v3.old i (by simpa using hi),VR (by simpa using hi)]
    have bT:H'[H.length]? = some (.cel 0 [.sl [] .ti]):=by rw[hold _ (by omega)];simp
    have aG:=(VP.1 bT).1;obtain⟨tk3,rfl⟩:=v2.sl;generalize (Bm M (A4 M) (A9 M (r:Int)).lv.toNat r []).1=Q at v1 v2 v4 ⊢;have hb:A6 (some [(.sl [] .ti)]) [(0,1,.sl (enL cNd Q) tk3)]=some (.agg [.sl (enL cNd Q) tk3]):=by simp[A6,Gy,CZ]
    have hst:Af 1 (.ptr H.length 0 0) (.agg [.sl (enL cNd Q) tk3]) H'=some (H'.set H.length (.cel 0 [.sl (enL cNd Q) tk3])):=by
     simp only[Af,Aw bT,zXa,Bt bT];rfl
    have hld:Ac true 1 (.ptr H.length 0 0) (H'.set H.length (.cel 0 [.sl (enL cNd Q) tk3]))=some (.agg [.sl (enL cNd Q) tk3]):=by
     have:(H'.set H.length (.cel 0 [.sl (enL cNd Q) tk3]))[H.length]? = some (.cel 0 [.sl (enL cNd Q) tk3]):=by rw[Wf aG]
     simp only[Ac,Aw this,zXa];rfl
    have aS:(H'.set H.length (.cel 0 [.sl (enL cNd Q) tk3])).take H.length=H:=C0 λi hi=>by
     rw[VT (by omega),hold i (by omega),VR hi]
    simp only[GMw,v1,B1,hb,hst,hld,EN,CU,D6,zXb,GD aS,Ci,Bu,B6,F5,DB,Ew,GL,CM]
    rfl
theorem q01_cut (l:List Bool)(tk:Tok)(H:Aa)(hb:l.length<1152921504606846976):Sh.f1x (.sl (enL cB l) tk) H=some (.ret (.sl (enL cB (Dz l)) .no),H):=by
 unfold Sh.f1x;refine Bq (σ:=List Bool×Tok) (λs=>s.1.length<1152921504606846976) (λs=>[.sl (enL cB s.1) s.2]) (λ_=>H) (λs=>s.1.length) (λs=>some (.ret (.sl (enL cB (Dz s.1)) .no),H)) (λs rec hs hrec=>?_) (l,tk) hb hb;obtain⟨l,tk⟩:=s;simp only at hs hrec ⊢;unfold Sh.f5e;rcases Ht l with rfl | ⟨l',b,rfl⟩
 ·simp[cutL_nil]
 ·simp only[VX,zXi]at hs hrec;have h1:l'.length<(l'++[b]).length:=by simp
  have h2:((((l'++[b]).length:Nat):Int)>0):=by simp
  have h3:IntKind.i64.wrap ((((l'++[b]).length:Nat):Int)-1)=(l'.length:Int):=by rw[Ao] <;> simp <;> omega
  simp only[Am,Ax,zXa,Dy,h2,decide_true,J2,Dx,h3,A1 h1,AE,zXh,J8,C9,Xa (VV _),WB,List.getElem_cons_zero];cases b with
  | true=>simp[Qx]
  | false=>
   have:=hrec (l',FM tk 0 l'.length (l'++[false]).length false) (by dsimp only;omega) (by simp);simp only[WT,AZ,Sj (YJ h1),zXa,List.take_left',this,Og]
theorem q01_at (l:List Bool)(tk:Tok)(i:Int)(H:Aa):Sh.f8 (.sl (enL cB l) tk) (.i6 i) H=some (.ret (.bool (decide (0<=i)&&l.getD i.toNat false)),H):=by
 unfold Sh.f8;by_cases h0:0<=i
 ·obtain⟨n,rfl⟩:=WQ h0;by_cases h1:n<l.length
  ·have h2:(n:Int)<(l.length:Int):=by omega
   simp[h2,A1 h1,VW,VO h1]
  ·have h2:¬(n:Int)<(l.length:Int):=by omega
   simp[h2,VW,zYb (Nat.le_of_not_lt h1)]
 ·simp[h0]
theorem HU (l:List Nat)(tk:Tok)(H:Aa)(hl:l.length<=2199023255552)(hx:Lim l):Sh.f6 (.sl (enL cU l) tk) H=some (.ret (.sl (enL cB (Dz (AV l))) .no),H):=by
 unfold Sh.f6;refine Cm l.length (λi=>[.sl (enL cU l) tk,DJ cB H (AV (l.take i)),.i6 (i:Int)]) (λi=>DI cB BY 1 H (AV (l.take i))) _ (by omega) (λrec i hi=>?_) (λrec=>?_)
 ·have aD:(i:Int)<(l.length:Int):=by omega
  have aH:l[i]<4294967296:=hx _ (We hi);have htk:AV (l.take (i+1))=AV (l.take i)++D0 32 l[i]:=by
   rw[Wb hi,AV,List.flatMap_append];simp[AV]
  have hlen:(AV (l.take i)).length<=32*2199023255552:=by rw[Cv];simp;omega
  unfold Sh.f2y;simp only[Am,Bg,Bk,Ax,zXa,Br,aD,decide_true,AZ,A1 hi,AE,zXh,htk];generalize AV (l.take i)=o at hlen;generalize l[i]=x at aH;refine Bq (σ:=Nat×Nat×List Bool) (λs=>s.1<=32/\s.2.1<4294967296/\s.2.2.length<=o.length+s.1) (λs=>[.sl (enL cU l) tk,DJ cB H s.2.2,.i6 (i:Int),.int .u32 (s.2.1:Int),.i6 (s.1:Int)]) (λs=>DI cB BY 1 H s.2.2) (λs=>32-s.1)
   (λs=>rec [.sl (enL cU l) tk,DJ cB H (s.2.2++D0 (32-s.1) s.2.1),.i6 ((i+1:Nat):Int)] (DI cB BY 1 H (s.2.2++D0 (32-s.1) s.2.1))) (λs aA hs hrec=>?_) (0,x,o) ⟨by dsimp only;omega,aH,by dsimp only;omega⟩ (by dsimp only;omega)
  obtain⟨k,y,p⟩:=s;obtain⟨hk,hy,hp⟩:=hs;simp only at hk hy hp hrec ⊢;unfold Sh.f7c;by_cases h:k<32
  ·have h':(k:Int)<32:=by omega
   have e1:(y:Int).tmod 2=((y%2:Nat):Int):=rfl;have e2:IntKind.u32.wrap ((y:Int).tdiv 2)=((y / 2:Nat):Int):=by rw[show (y:Int).tdiv 2=((y / 2:Nat):Int) from rfl,Do] <;> omega
   have e3:(((y%2:Nat):Int) == 1)=(y%2 == 1):=by rw[Wo];simp only[beq_iff_eq];omega
   have e4:IntKind.i64.wrap ((k:Int)+1)=((k+1:Nat):Int):=by rw[Ao] <;> omega
   have:=hrec (k+1,y / 2,p++[y%2 == 1]) ⟨h,by dsimp only;omega,by simp;omega⟩ (by dsimp only;omega);simp only[Am,Bg,Bk,B4,BS,Br,h',decide_true,zXa,AZ,J6 (show (2:Int)≠0 by decide),RW (show (2:Int)≠0 by decide),e1,e2,DR,e3,RV];rw[E5 (by simp) (by simp;omega) (by simp;omega)];simp only[Dp,CH,CC,zXa,e4,this];rw[show 32-k=(32-(k+1))+1 from by omega,D0];simp
  ·have:k=32:=by omega
   subst this;have e4:IntKind.i64.wrap ((i:Int)+1)=((i+1:Nat):Int):=by rw[Ao] <;> omega
   simp[D0,e4]
 ·unfold Sh.f2y;obtain⟨G,hG⟩:=GF (f:=cB) (ty:=BY) (sz:=1) H (AV l);rw[Wd (VV _)];simp only[Am,Bg,Bk,Fy,hG,Ax,zXa,Br,WL,decide_false,AQ,q01_cut (AV l) _ _ (by rw[Cv];omega),CH,Cw,I4,zXb]
theorem S4 (l:List Bool)(tk:Tok)(H:Aa)(hl:l.length<=70368744177664):Sh.fn (.sl (enL cB l) tk) H=some (.ret (.sl (enL cU (AA (Bp l))) .no),H):=by
 unfold Sh.fn;have aG:=I8 l;rw[q01_cut l tk H (by omega),<-limbsOf_eq,KI];simp only[CH];generalize Dz l=c at aG;obtain⟨n,hn⟩:∃n,n=(c.length+31) / 32:=⟨_,rfl⟩;rw[<-hn];refine Cm n (λq=>[.sl (enL cB c) .no,DJ cU H (Ep c q),.i6 ((32*q:Nat):Int)]) (λq=>DI cU Ce 1 H (Ep c q)) _ (by omega) (λrec q hq=>?_) (λrec=>?_)
 ·have eP:((32*q:Nat):Int)<(c.length:Int):=by omega
  unfold Sh.f5f;simp only[Am,Bg,Bk,Ax,zXa,Br,eP,decide_true,AZ];have hlo:(Ep c q).length=q:=Mq c q;rw[KH];generalize Ep c q=o at hlo;refine Bq (σ:=Nat) (λj=>j<=min 32 (c.length-32*q)) (λj=>[.sl (enL cB c) .no,DJ cU H o,.i6 ((32*q:Nat):Int),.int .u32 ((Bp ((c.drop (32*q)).take j):Nat):Int),.int .u32 (IntKind.u32.wrap ((2:Int)^j)),.i6 ((32*q+j:Nat):Int)]) (λ_=>DI cU Ce 1 H o) (λj=>32-j)
   (λ_=>rec [.sl (enL cB c) .no,DJ cU H (o++[GI c q]),.i6 ((32*(q+1):Nat):Int)] (DI cU Ce 1 H (o++[GI c q]))) (λj aA hj hrec=>?_) 0 (by omega) (by omega)
  unfold Sh.f7y;have hw:IntKind.i64.wrap (((32*q:Nat):Int)+32)=((32*(q+1):Nat):Int):=by rw[Ao] <;> omega
  by_cases h:j<min 32 (c.length-32*q)
  ·have h1:((32*q+j:Nat):Int)<(c.length:Int):=by omega
   have dA:32*q+j<c.length:=by omega
   have h2:((32*q+j:Nat):Int)<((32*(q+1):Nat):Int):=by omega
   have cC:IntKind.i64.wrap (((32*q+j:Nat):Int)+1)=((32*q+(j+1):Nat):Int):=by rw[Ao] <;> omega
   have aS:(c.drop (32*q)).take (j+1)=(c.drop (32*q)).take j++[c[32*q+j]]:=by
    rw[Wb (by simp;omega)];simp
   have hlen:((c.drop (32*q)).take j).length=j:=by simp;omega
   have uP:Bp ((c.drop (32*q)).take (j+1))=Bp ((c.drop (32*q)).take j)+(if c[32*q+j]then 2^j else 0):=by
    rw[aS,D9,hlen];simp only[Bp];split <;> simp
   have uY:=KC ((c.drop (32*q)).take j);rw[hlen]at uY;have hp:(2:Nat)^j*2<=2^32:=by rw[<-Nat.pow_succ];exact W9 (by omega) (by omega)
   have uG:IntKind.u32.wrap ((2:Int)^j)=((2^j:Nat):Int):=by
    rw[show ((2:Int)^j)=((2^j:Nat):Int) from by simp,Do] <;> omega
   have dK:IntKind.u32.wrap (((Bp ((c.drop (32*q)).take j):Nat):Int)+((2^j:Nat):Int))=((Bp ((c.drop (32*q)).take j)+2^j:Nat):Int):=by rw[Do] <;> omega
   have dI:IntKind.u32.wrap (((2^j:Nat):Int)*2)=IntKind.u32.wrap ((2:Int)^(j+1)):=by rw[Xv];simp
   have:=hrec (j+1) (by omega) (by omega);rw[uP]at this;simp only[Am,Bg,Bk,B4,BS,DG,Ax,zXa,Br,h1,decide_true,J2,CC,hw,h2,C9,AZ,AK,A1 dA,AE,zXh,uG];cases hb:c[32*q+j]with
   | true=>
    rw[hb]at this;simp only[AZ,CC,dK,zXa,Am,Bg,Bk,B4,BS,DG,Sh.f7d,IC,dI,cC];simpa using this
   | false=>
    rw[hb]at this;simp only[AQ,Am,Bg,Bk,B4,BS,DG,Sh.f7d,IC,CC,dI,cC,zXa];simpa using this
  ·have hj':j=min 32 (c.length-32*q):=by omega
   have hx:Bp ((c.drop (32*q)).take j)=GI c q:=by
    unfold GI;by_cases h:j=32
    ·rw[h]
    ·rw[Wd (by simp;omega),Wd (by simp;omega)]
   have tail:((AS 1 [.int .u32 ((GI c q:Nat):Int)]).bind λx40=>bP H (Cb (AW Ce 1 4 (DJ cU H o) x40 (DI cU Ce 1 H o))) λx41 H42=>(Ae .none .add (.i6 ((32*q:Nat):Int)) (.i6 32)).bind λx43=>rec [.sl (enL cB c) .no,x41,x43] H42)
     = rec [.sl (enL cB c) .no,DJ cU H (o++[GI c q]),.i6 ((32*(q+1):Nat):Int)] (DI cU Ce 1 H (o++[GI c q])):=by
    rw[build_U];simp only[zXa];rw[E5 (by simp) (by simp;omega) (by simp;omega)];simp only[Dp,CH,CC,zXa,hw]
   rw[hx];by_cases h1:((32*q+j:Nat):Int)<(c.length:Int)
   ·have h2:¬((32*q+j:Nat):Int)<((32*(q+1):Nat):Int):=by omega
    simp only[Am,Bg,Bk,B4,BS,DG,Ax,zXa,Br,h1,decide_true,J2,CC,hw,h2,decide_false,C9,AQ];simpa only[CC,hw,zXa]using tail
   ·simp only[Am,Bg,Bk,B4,BS,DG,Ax,zXa,Br,h1,decide_false,QX,C2,AQ];exact tail
 ·have eP:¬((32*n:Nat):Int)<(c.length:Int):=by omega
  obtain⟨G,hG⟩:=GF (f:=cU) (ty:=Ce) (sz:=1) H (Ep c n);unfold Sh.f5f;simp only[Am,Bg,Bk,Fy,hG,Ax,zXa,Br,eP,decide_false,AQ,Cw,I4,zXb]
theorem q01_norm (l:List Nat)(tk:Tok)(H:Aa)(hl:l.length<=1099511627776)(hx:Lim l):Sh.f1b (.sl (enL cU l) tk) H=some (.ret (.sl (enL cU (AA (val l))) .no),H):=by
 have hc:=I8 (AV l);rw[Cv]at hc;unfold Sh.f1b;rw[HU l tk H (by omega) hx];simp only[Fq];rw[S4 _ _ _ (by omega)];simp only[Fq,Ei,V0,EC,ER l hx]
theorem q01_right (l:List Nat)(tk:Tok)(H:Aa)(hl:l.length<=1099511627776):Sh.f5x (.sl (enL cU l) tk) H=some (.ret (.bool (Gg l)),H):=by
 unfold Sh.f5x;rcases Ht l with rfl | ⟨l',x,rfl⟩
 ·simp[Gg]
 ·simp only[VX,zXi]at hl;have h1:l'.length<(l'++[x]).length:=by simp
  have h3:IntKind.i64.wrap ((((l'++[x]).length:Nat):Int)-1)=(l'.length:Int):=by rw[Ao] <;> simp <;> omega
  have hne:((((l'++[x]).length:Nat):Int) == 0)=false:=by simp;omega
  have hb:((x:Int) != 0)=(x != 0):=by rw[Wo];simp
  simp only[Ax,zXa,DR,hne,Mt,Dx,h3,A1 h1,AE,zXh,Xa (VV _),WB,List.getElem_cons_zero,IB,C2,NG,hb];simp[Gg]
theorem q01_cmp (a b:List Nat)(ta tb:Tok)(H:Aa)(ha:a.length<=1099511627776)(hb:b.length<=1099511627776)(la:Lim a)(lb:Lim b) :
  Sh.f5j (.sl (enL cU a) ta) (.sl (enL cU b) tb) H=some (.ret (.i6 (cmpI (val a) (val b))),H):=by
 have c1:=I8 (AV a);have c2:=I8 (AV b);rw[Cv]at c1 c2;unfold Sh.f5j;rw[HU a ta H (by omega) la];simp only[Fq,HU b tb H (by omega) lb,Ax,zXa,max_int];have hx:Bp (Dz (AV a))=val a:=by rw[EC,ER a la]
 have hy:Bp (Dz (AV b))=val b:=by rw[EC,ER b lb]
 rw[<-hx,<-hy];generalize Dz (AV a)=x at c1 ⊢;generalize Dz (AV b)=y at c2 ⊢;have hw:IntKind.i64.wrap (max (x.length:Int) (y.length:Int)-1)=((max x.length y.length:Nat):Int)-1:=by rw[Ao] <;> omega
 simp only[Dx,hw,zXa];have z:∀(c:List Bool) (m:Nat),c.length<=m->Bp c / 2^m=0:=λc m h=>Xt (WP (KC c) (W9 (by omega) h));refine Bq (σ:=Nat) (λi=>i<9223372036854775807/\(Bp x) / 2^i=(Bp y) / 2^i) (λi=>[.sl (enL cB x) .no,.sl (enL cB y) .no,.i6 ((i:Int)-1)]) (λ_=>H) (λi=>i) (λ_=>some (.ret (.i6 (cmpI (Bp x) (Bp y))),H)) (λi rec hi hrec=>?_) (max x.length y.length) ⟨by omega,by rw[z _ _ (by omega),z _ _ (by omega)]⟩ (by omega);obtain⟨hi,he⟩:=hi;unfold Sh.f83;cases i with
 | zero=>
  have e:Bp x=Bp y:=by simpa using he
  simp[e,cmpI]
 | succ i=>
  have jC:(((i+1:Nat):Int)-1)=(i:Int):=by omega
  have hge:(i:Int)>=0:=by omega
  have hw:IntKind.i64.wrap ((i:Int)-1)=(i:Int)-1:=by rw[Ao] <;> omega
  have ax:∀(c:List Bool) (H:Aa),Sh.f8 (.sl (enL cB c) .no) (.i6 (i:Int)) H=some (.ret (.bool ((Bp c).testBit i)),H):=λc H=>by rw[q01_at,zXl,nat1_bit];simp
  have tb:∀m:Nat,m.testBit i=decide (m / 2^i%2=1):=λm=>X8;have hs:∀m:Nat,m / 2^(i+1)=m / 2^i / 2:=λm=>by rw[Nat.pow_succ,Nat.div_div_eq_div_mul]
  rw[hs,hs]at he;have mono:∀p q:Nat,p<=q->p / 2^i<=q / 2^i:=λp q h=>Nat.div_le_div_right h;simp only[Am,Bg,Bk,jC,ID,hge,decide_true,zXa,AZ,ax,Fq,bne_bool];by_cases heq:(Bp x) / 2^i=(Bp y) / 2^i
  ·have lS:(Bp x).testBit i=(Bp y).testBit i:=by rw[tb,tb,heq]
   simp only[lS,bne_self_eq_false,AQ,Dx,hw,zXa];exact hrec i ⟨by omega,heq⟩ (by omega)
  ·have m1:=mono (Bp x) (Bp y);have m2:=mono (Bp y) (Bp x);rcases Yq (Bp x / 2^i)with h1 | h1 <;> rcases Yq (Bp y / 2^i)with h2 | h2
   ·omega
   ·have hlt:Bp x<Bp y:=by
     rcases W7 (Bp x) (Bp y)with h | h
     ·exact h
     ·have:=m2 h;omega
    simp[tb,h1,h2,cmpI,hlt]
   ·have hlt:Bp y<Bp x:=by
     rcases W7 (Bp y) (Bp x)with h | h
     ·exact h
     ·have:=m1 h;omega
    have hn:¬Bp x<Bp y:=by omega
    simp[tb,h1,h2,cmpI,hlt,hn]
   ·omega
theorem O6 (m:List Bool)(i:Nat):Bp m%2^(i+1)=Bp m%2^i+2^i*bn (m.getD i false):=by
 rw[nat1_bit,X8,Nat.pow_succ,Nat.mod_mul]
 congr 2
 rcases Yq (Bp m / 2^i)with h | h <;> simp[h,bn]
theorem q01_add (a b:List Nat)(ta tb:Tok)(H:Aa)(ha:a.length<=1099511627776)(hb:b.length<=1099511627776)(la:Lim a)(lb:Lim b) :
  Sh.f5i (.sl (enL cU a) ta) (.sl (enL cU b) tb) H=some (.ret (.sl (enL cU (AA (val a+val b))) .no),H):=by
 have c1:=I8 (AV a);have c2:=I8 (AV b);rw[Cv]at c1 c2;unfold Sh.f5i;have hx:Bp (Dz (AV a))=val a:=by rw[EC,ER a la]
 have hy:Bp (Dz (AV b))=val b:=by rw[EC,ER b lb]
 simp only[HU a ta H (by omega) la,CH,HU b tb H (by omega) lb];rw[<-hx,<-hy];generalize Dz (AV a)=x at c1 ⊢;generalize Dz (AV b)=y at c2 ⊢;refine Bq (σ:=List Bool×Bool) (λs=>s.1.length<=max x.length y.length+1/\Bp s.1+2^s.1.length*bn s.2=Bp x%2^s.1.length+Bp y%2^s.1.length) (λs=>[.sl (enL cB x) .no,.sl (enL cB y) .no,DJ cB H s.1,.bool s.2,.i6 (s.1.length:Int)]) (λs=>DI cB BY 1 H s.1) (λs=>max x.length y.length+1-s.1.length)
  (λ_=>some (.ret (.sl (enL cU (AA (Bp x+Bp y))) .no),H)) (λs rec hs hrec=>?_) ([],false) ⟨by simp,by simp[Bp,bn,Nat.mod_one]⟩ (by simp;omega)
 obtain⟨o,c⟩:=s;obtain⟨ho,he⟩:=hs;simp only at ho he hrec ⊢;unfold Sh.f82;simp only[Am,Bg,Bk,B4,BS,Ax,zXa,max_int,Lq];by_cases h:o.length<=max x.length y.length
 ·have h':((o.length:Int)<=max (x.length:Int) (y.length:Int)):=by omega
  have hw:IntKind.i64.wrap ((o.length:Int)+1)=((o.length+1:Nat):Int):=by rw[Ao] <;> omega
  have ax:∀(m:List Bool) (H:Aa),Sh.f8 (.sl (enL cB m) .no) (.i6 (o.length:Int)) H=some (.ret (.bool (m.getD o.length false)),H):=λm H=>by rw[q01_at,zXl];simp
  have app:∀s:Bool,AW BY 1 1 (DJ cB H o) (.sl (enL cB [s]) .ti) (DI cB BY 1 H o)=some (DJ cB H (o++[s]),DI cB BY 1 H (o++[s])):=λs=>E5 (by simp) (by simp;omega) (by simp;omega);have w1:IntKind.i64.wrap (0+1)=1:=by decide
  have w2:IntKind.i64.wrap (1+1)=2:=by decide
  have w3:IntKind.i64.wrap (2+1)=3:=by decide
  have fin:rec [.sl (enL cB x) .no,.sl (enL cB y) .no,DJ cB H (o++[(bn (x.getD o.length false)+bn (y.getD o.length false)+bn c)%2 == 1]),.bool (decide (1<bn (x.getD o.length false)+bn (y.getD o.length false)+bn c)),.i6 ((o.length+1:Nat):Int)] (DI cB BY 1 H (o++[(bn (x.getD o.length false)+bn (y.getD o.length false)+bn c)%2 == 1]))=some (.ret (.sl (enL cU (AA (Bp x+Bp y))) .no),H):=by
   have:=hrec (o++[(bn (x.getD o.length false)+bn (y.getD o.length false)+bn c)%2 == 1],decide (1<bn (x.getD o.length false)+bn (y.getD o.length false)+bn c)) ⟨by simp;omega,?_⟩ (by simp;omega)
   ·simpa using this
   ·simp only[VX,zXi];rw[O6 x,O6 y,D9,Nat.pow_succ];generalize x.getD o.length false=p;generalize y.getD o.length false=q;generalize 2^o.length=z at he ⊢;cases p <;> cases q <;> cases c <;> simp[bn,Bp]at he ⊢ <;> omega
  simp only[h',decide_true,AZ,AK,ax,CH];revert fin;generalize x.getD o.length false=p;simp only[Sh.f81,AK,Am,Bg,Bk,B4,BS,DG,ax,CH];generalize y.getD o.length false=q;intro fin;rw[<-fin];cases p <;> cases q <;> cases c <;>
   simp only[AZ,AQ,CC,w1,w2,w3,zXa,Am,Bg,Bk,B4,BS,DG,Sh.f80,Sh.f7z,AK,J6 (show (2:Int)≠0 by decide),DR,RV,Dy,app,Dp,CH,hw,bn] <;> rfl
 ·have h':¬((o.length:Int)<=max (x.length:Int) (y.length:Int)):=by omega
  obtain⟨G,hG⟩:=GF (f:=cB) (ty:=BY) (sz:=1) H o;have bx:=KC x;have by':=KC y;have px:2^x.length*2<=2^o.length:=by rw[<-Nat.pow_succ];exact W9 (by omega) (by omega)
  have py:2^y.length*2<=2^o.length:=by rw[<-Nat.pow_succ];exact W9 (by omega) (by omega)
  rw[WX (by omega),WX (by omega)]at he;have hc:c=false:=by
   cases c with
   | false=>rfl
   | true=>exfalso;simp only[bn,if_true,Wg]at he;omega
  subst hc;have gM:Bp o=Bp x+Bp y:=by simpa[bn]using he
  simp only[h',decide_false,AQ,Fy,hG,S4 o _ _ (by omega),CH,Cw,I4,zXb,gM]
theorem q01_sub (a b:List Nat)(ta tb:Tok)(H:Aa)(ha:a.length<=1099511627776)(hb:b.length<=1099511627776)(la:Lim a)(lb:Lim b) :
  Sh.f2z (.sl (enL cU a) ta) (.sl (enL cU b) tb) H=some (.ret (.tup [.sl (enL cU (if val b<=val a then AA (val a-val b)else [])) .no,.bool (decide (val b<=val a))]),H):=by
 have c1:=I8 (AV a);rw[Cv]at c1;unfold Sh.f2z;simp only[q01_cmp a b ta tb H ha hb la lb,CH,Br,zXa];by_cases hv:val b<=val a
 ·have hc:¬(cmpI (val a) (val b)<0):=by unfold cmpI;split <;> (try split) <;> omega
  have hx:Bp (Dz (AV a))=val a:=by rw[EC,ER a la]
  have hy:Bp (Dz (AV b))=val b:=by rw[EC,ER b lb]
  simp only[hc,decide_false,AQ,HU a ta H (by omega) la,HU b tb H (by omega) lb,CH,hv,if_true,decide_true];rw[<-hx,<-hy]at hv ⊢;generalize Dz (AV a)=x at c1 hv ⊢;generalize Dz (AV b)=y at hv ⊢;refine Bq (σ:=List Bool×Bool) (λs=>s.1.length<=x.length/\Bp s.1+Bp y%2^s.1.length=Bp x%2^s.1.length+2^s.1.length*bn s.2) (λs=>[.sl (enL cB x) .no,.sl (enL cB y) .no,DJ cB H s.1,.i6 (if s.2 then 1 else 0),.i6 (s.1.length:Int)]) (λs=>DI cB BY 1 H s.1) (λs=>x.length-s.1.length)
   (λ_=>some (.ret (.tup [.sl (enL cU (AA (Bp x-Bp y))) .no,.bool true]),H)) (λs rec hs hrec=>?_) ([],false) ⟨by simp,by simp[Bp,bn,Nat.mod_one]⟩ (by simp;omega)
  obtain⟨o,c⟩:=s;obtain⟨ho,he⟩:=hs;simp only at ho he hrec ⊢;unfold Sh.f87;simp only[Am,Bg,Bk,B4,BS,Ax,zXa,Br];by_cases h:o.length<x.length
  ·have h':((o.length:Int)<(x.length:Int)):=by omega
   have hw:IntKind.i64.wrap ((o.length:Int)+1)=((o.length+1:Nat):Int):=by rw[Ao] <;> omega
   have ax:∀(m:List Bool) (H:Aa),Sh.f8 (.sl (enL cB m) .no) (.i6 (o.length:Int)) H=some (.ret (.bool (m.getD o.length false)),H):=λm H=>by rw[q01_at,zXl];simp
   have app:∀s:Bool,AW BY 1 1 (DJ cB H o) (.sl (enL cB [s]) .ti) (DI cB BY 1 H o)=some (DJ cB H (o++[s]),DI cB BY 1 H (o++[s])):=λs=>E5 (by simp) (by simp;omega) (by simp;omega);have n0:unA .neg (.i6 0)=some (.i6 0):=by rw[show unA .neg (.i6 0)=some (.i6 (IntKind.i64.wrap (0-0))) from rfl,show IntKind.i64.wrap (0-0)=0 from by decide]
   have n1:unA .neg (.i6 1)=some (.i6 (-1)):=by rw[show unA .neg (.i6 1)=some (.i6 (IntKind.i64.wrap (0-1))) from rfl,show IntKind.i64.wrap (0-1) = -1 from by decide]
   have w1:IntKind.i64.wrap (0+1)=1:=by decide
   have w2:IntKind.i64.wrap (-1+1)=0:=by decide
   have w3:IntKind.i64.wrap (0-1) = -1:=by decide
   have w4:IntKind.i64.wrap (1-1)=0:=by decide
   have w5:IntKind.i64.wrap (-1-1) = -2:=by decide
   have w6:IntKind.i64.wrap (-1+2)=1:=by decide
   have w7:IntKind.i64.wrap (-2+2)=0:=by decide
   have fin:rec [.sl (enL cB x) .no,.sl (enL cB y) .no,DJ cB H (o++[subS (x.getD o.length false) (y.getD o.length false) c]),.i6 (if subC (x.getD o.length false) (y.getD o.length false) c then 1 else 0),.i6 ((o.length+1:Nat):Int)] (DI cB BY 1 H (o++[subS (x.getD o.length false) (y.getD o.length false) c]))=some (.ret (.tup [.sl (enL cU (AA (Bp x-Bp y))) .no,.bool true]),H):=by
    have:=hrec (o++[subS (x.getD o.length false) (y.getD o.length false) c],subC (x.getD o.length false) (y.getD o.length false) c) ⟨by simp;omega,?_⟩ (by simp;omega)
    ·simpa using this
    ·simp only[VX,zXi];rw[O6 x,O6 y,D9,Nat.pow_succ];generalize x.getD o.length false=p;generalize y.getD o.length false=q;generalize 2^o.length=z at he ⊢;cases p <;> cases q <;> cases c <;> simp[bn,Bp,subS,subC,subN]at he ⊢ <;> omega
   simp only[h',decide_true,AZ,AK,ax,CH];revert fin;generalize x.getD o.length false=p;simp only[Sh.f86,AK,Am,Bg,Bk,B4,BS,DG,ax,CH];generalize y.getD o.length false=q;intro fin;rw[<-fin];cases p <;> cases q <;> cases c <;>
    simp[n0,n1,w1,w2,w3,w4,w5,w6,w7,Sh.f85,Sh.f84,AK,RV,app,hw,subS,subC,subN]
  ·have h':¬((o.length:Int)<(x.length:Int)):=by omega
   obtain⟨G,hG⟩:=GF (f:=cB) (ty:=BY) (sz:=1) H o;have bx:=KC x;have bo:=KC o;have aH:x.length=o.length:=by omega
   rw[aH]at bx;rw[WX bx,WX (by omega)]at he;have hc:c=false:=by
    cases c with
    | false=>rfl
    | true=>exfalso;simp only[bn,if_true,Wg]at he;omega
   subst hc;have gM:Bp o=Bp x-Bp y:=by simp[bn]at he;omega
   simp only[h',decide_false,AQ,Fy,hG,S4 o _ _ (by omega),CH,Cw,Ci,Bu,B6,Ja,Ff,zXa,zXb,gM]
 ·have hc:cmpI (val a) (val b)<0:=by unfold cmpI;rw[if_pos (by omega)];decide
  simp[hc,hv,HM]
def A2 (z:Int):List Ab:=[.bool (decide (z<0)),.sl (enL cU (AA z.natAbs)) .no]
def big (z:Int):Ab:=.agg (A2 z)
def LB (z:Int):Prop:=(AA z.natAbs).length<=549755813888
theorem VK (z:Int):(A2 z).all Ab.isScal=true:=by simp[A2]
@[simp] theorem bigC_g0 (z:Int)(h:0<(A2 z).length):(A2 z)[0]=.bool (decide (z<0)):=(rfl)
@[simp] theorem bigC_g1 (z:Int)(h:1<(A2 z).length):(A2 z)[1]=.sl (enL cU (AA z.natAbs)) .no:=(rfl)
@[simp] theorem bigC_0 (z:Int):(A2 z)[0]? = some (.bool (decide (z<0))):=(rfl)
@[simp] theorem bigC_1 (z:Int):(A2 z)[1]? = some (.sl (enL cU (AA z.natAbs)) .no):=(rfl)
@[simp] theorem TM (z:Int):(big z).acells=some (A2 z):=BV (VK z)
theorem big_sgn (neg:Bool)(n:Nat):[Ab.bool (sgn neg n),.sl (enL cU (AA n)) .no]=A2 (if neg then -(n:Int)else n):=by
 unfold A2;have e1:sgn neg n=decide ((if neg then -(n:Int)else (n:Int))<0):=by
  unfold sgn;cases neg with
  | false=>simp
  | true=>
   by_cases h:n=0
   ·subst h;rfl
   ·have:(-(n:Int))<0:=by omega
    simp[h,this];omega
 have e2:(if neg then -(n:Int)else (n:Int)).natAbs=n:=by cases neg <;> simp
 rw[e1,e2]
theorem QV (n:Nat):(decide (((AA n).length:Int)>0))=decide (n≠0):=by
 by_cases h:n=0
 ·subst h;rw[EH];rfl
 ·have:=Wy.2 (OD h);have h1:((AA n).length:Int)>0:=by omega
  rw[zXc h1,zXc h]
@[simp] theorem fcells_big {H:Aa}{n d:Nat}{z:Int}:Gj H n (d+2) (A2 z)=some (A2 z):=by simp[A2]
@[simp] theorem fall_big {H:Aa}{n d:Nat}{z:Int}:Hx H n (d+3) (big z)=some (big z):=by simp[big]
@[simp] theorem Np {H:Aa}{n d:Nat}{z:Int}:Fg H n (d+3) (big z)=some (big z):=by simp[big]
@[simp] theorem forget_big {z:Int}:forget (big z)=big z:=by simp[big,A2]
@[simp] theorem bigC_length (z:Int):(A2 z).length=2:=(rfl)
@[simp] theorem TR (z:Int):Ab.agg (A2 z)=big z:=(rfl)
@[simp] theorem putN_big (cs:List Ab)(z:Int)(h:cs.length=2):CZ cs 0 2 (A2 z)=A2 z:=Dq h
theorem DL (z:Int)(H:Aa):BD true 2 (big z) H=some (.ptr H.length 0 0,H++[.cel 0 (A2 z)]):=Cp (VK z) rfl
theorem Oy (neg:Bool)(l:List Nat)(tk:Tok)(H:Aa)(hl:l.length<=1099511627776)(hx:Lim l):Sh.fe (.bool neg) (.sl (enL cU l) tk) H=some (.ret (big (if neg then -(val l:Int)else val l)),H):=by
 unfold Sh.fe big;rw[<-big_sgn];have hp:=QV (val l);cases neg with
 | false=>simp[q01_norm _ _ _ hl hx,A6,Gy,CZ,sgn,BV]
 | true=>
  simp only[J2,C9,zXa,Ax,Dy,hp,sgn,zXn,alloc_eq (cs:=[.bool false,.sl [] .ti]) rfl,Bv,q01_norm _ _ _ hl hx,CH];simp[A6,Gy,CZ,BV]
theorem UZ (neg:Bool)(l:List Nat)(tk:Tok)(H:Aa)(hl:l.length<=1099511627776)(hx:Lim l):Sh.fh (.agg [.bool neg,.sl (enL cU l) tk]) H=some (.ret (big (-(DZ neg l))),H):=by
 have ez:(if neg=false then -(val l:Int)else (val l:Int)) = -(DZ neg l):=by cases neg <;> simp[DZ]
 unfold Sh.fh;simp[Cp,Oy _ l tk _ hl hx,ez]
theorem Lr (z:Int):DZ (decide (z<0)) (AA z.natAbs)=z:=by
 unfold DZ;rw[BA];by_cases h:z<0
 ·simp[h];omega
 ·simp[h];omega
theorem Pt (neg:Bool)(l:List Nat):(DZ neg l).natAbs=val l:=by cases neg <;> simp[DZ]
theorem q02_add (n1 n2:Bool)(l1 l2:List Nat)(t1 t2:Tok)(H:Aa)(h1:l1.length<=549755813888)(h2:l2.length<=549755813888)(x1:Lim l1)(x2:Lim l2) :
  Sh.f2 (.agg [.bool n1,.sl (enL cU l1) t1]) (.agg [.bool n2,.sl (enL cU l2) t2]) H=some (.ret (big (DZ n1 l1+DZ n2 l2)),H):=by
 have v1:=RZ l1 x1;have v2:=RZ l2 x2;have p1:=JU (show l1.length<=max l1.length l2.length by omega);have p2:=JU (show l2.length<=max l1.length l2.length by omega);have p3:(4294967296:Nat)^(max l1.length l2.length+1)=4294967296^max l1.length l2.length*4294967296:=Nat.pow_succ _ _;have sg:∀(neg:Bool) (m:Nat) (tk:Tok) (H:Aa),m<4294967296^(max l1.length l2.length+1)->Sh.fe (.bool neg) (.sl (enL cU (AA m)) tk) H=some (.ret (big (if neg then -(m:Int)else m)),H):=by
  intro neg m tk H hm;have:=Oy neg (AA m) tk H (by have:=Fb hm;omega) (Bz m)
  rwa [BA]at this
 unfold Sh.f2;by_cases hn:n1=n2
 ·subst hn;have ez:(if n1=true then -((val l1:Int)+(val l2:Int))else ((val l1:Int)+(val l2:Int)))=DZ n1 l1+DZ n1 l2:=by cases n1 <;> simp[DZ] <;> omega
  simp[WD,Cp,Kv,BP,q01_add _ _ _ _ _ (show l1.length<=1099511627776 by omega) (show l2.length<=1099511627776 by omega) x1 x2,sg n1 (val l1+val l2) _ _ (by omega),ez]
 ·have hb:(n1 == n2)=false:=by simpa using hn
  by_cases hv:val l2<=val l1
  ·have ez:(if n1=true then -((val l1-val l2:Nat):Int)else ((val l1-val l2:Nat):Int))=DZ n1 l1+DZ n2 l2:=by cases n1 <;> cases n2 <;> simp[DZ]at hn ⊢ <;> omega
   simp[WD,Cp,Kv,hb,q01_sub _ _ _ _ _ (show l1.length<=1099511627776 by omega) (show l2.length<=1099511627776 by omega) x1 x2,hv,sg n1 (val l1-val l2) _ _ (by omega),ez]
  ·have ez:(if n2=true then -((val l2-val l1:Nat):Int)else ((val l2-val l1:Nat):Int))=DZ n1 l1+DZ n2 l2:=by cases n1 <;> cases n2 <;> simp[DZ]at hn ⊢ <;> omega
   have aO:val l1<=val l2:=by omega
   simp[WD,Cp,Kv,hb,q01_sub _ _ _ _ _ (show l1.length<=1099511627776 by omega) (show l2.length<=1099511627776 by omega) x1 x2,q01_sub _ _ _ _ _ (show l2.length<=1099511627776 by omega) (show l1.length<=1099511627776 by omega) x2 x1,hv,aO,sg n2 (val l2-val l1) _ _ (by omega),ez]
theorem QA (z:Int):big z=.agg [.bool (decide (z<0)),.sl (enL cU (AA z.natAbs)) .no]:=rfl
theorem HT (a b:Int)(H:Aa)(ha:LB a)(hb:LB b):Sh.f2 (big a) (big b) H=some (.ret (big (a+b)),H):=by
 rw[QA a,QA b,q02_add _ _ _ _ _ _ _ ha hb (Bz _) (Bz _),Lr,Lr]
theorem IP (a:Int)(H:Aa)(ha:LB a):Sh.fh (big a) H=some (.ret (big (-a)),H):=by
 rw[QA a,UZ _ _ _ _ (by unfold LB at ha;omega) (Bz _),Lr]
theorem LB.neg {a:Int}(h:LB a):LB (-a):=by unfold LB at *;rwa [Int.natAbs_neg]
theorem LB.of {a:Int}{k:Nat}(h:a.natAbs<4294967296^k)(hk:k<=549755813888):LB a:=Wu (Fb h) hk
theorem S3 (a b:Int)(H:Aa)(ha:LB a)(hb:LB b):Sh.fi (big a) (big b) H=some (.ret (big (a-b)),H):=by
 unfold Sh.fi;simp[WD,DL,BP,IP _ _ hb,HT _ _ _ ha hb.neg,Int.sub_eq_add_neg]
def FH (a b:Int):Int:=if a<b then -1 else if a=b then 0 else 1
theorem EX (a b:Int)(H:Aa)(ha:LB a)(hb:LB b):Sh.f0 (big a) (big b) H=some (.ret (.i6 (FH a b)),H):=by
 unfold Sh.f0;simp only[DL,Bv,VZ,List.singleton_append];simp[WD,DL,S3 _ _ _ ha hb];unfold FH;by_cases h0:a=b
 ·subst h0;simp[EH]
 ·have hne:AA (a-b).natAbs≠[]:=OD (by omega);have hp:=Wy.2 hne;have hz:(((AA (a-b).natAbs).length:Int) == 0)=false:=by rw[beq_eq_false_iff_ne];omega
  have lW:¬((AA (a-b).natAbs).length:Int)=0:=by omega
  have wM:¬AA (a-b).natAbs=[]:=hne;by_cases hn:a<b
  ·have:a-b<0:=by omega
   simp[hz,lW,wM,hn,this]
  ·have:¬(a-b<0):=by omega
   simp[hz,lW,wM,hn,this,h0]
theorem repl1 (n:Nat)(v:Ab):Md n [v]=List.replicate n v:=by
 induction n with
 | zero=>rfl
 | succ n ih=>simp only[Md,zXm,List.flatten_cons]at ih ⊢;rw[ih];rfl
theorem chunk1 (n:Nat)(v:Ab):GO 1 n (List.replicate n v)=List.replicate n [v]:=by
 induction n with
 | zero=>rfl
 | succ n ih=>simp only[GO,zXm,List.take_succ_cons,List.take_zero,YF,Xm,ih]
theorem make_one {bytes n:Nat}{v:Ab}{H:Aa}(hv:v.isScal=true)(hb:n*bytes<=140737488355328)(hn:n<=140737488355328):FA 1 bytes (some [v]) (.i6 (n:Int)) (.i6 (n:Int)) H=some (.ms H.length 0 0 n n 1 true,H++[.cel 0 (List.replicate n v)]):=by
 unfold FA;simp only[zXa];have h1:((n:Int)*(bytes:Int))<=140737488355328:=by
   have:((n*bytes:Nat):Int)<=140737488355328:=by omega
   simpa using this
 rw[if_pos ⟨by simp[hv],rfl,by omega,by omega,h1,by omega⟩,repl1];simp
theorem elems_ms {H:Aa}{n:Nat}:Cj 1 (.ms H.length 0 0 n n 1 true) (H++[.cel 0 (List.replicate n (.bool false))])=some (enL cB (List.replicate n false)):=by
 have hm:(List.replicate n (Ab.bool false)).map L9=List.replicate n (.bool false):=by simp[L9]
 have hi:(List.replicate n (Ab.bool false)).all BI=true:=by simp[BI]
 simp only[Cj,if_true,get_app0,Kb,zXa,Xm,VU,Wg,Yf,Wd (show (List.replicate n (Ab.bool false)).length<=n by simp),hm,hi,VV,and_self,chunk1];simp[enL]
theorem q01_of_ms (B:Aa)(n:Nat)(hn:n<=140737488355328):Sh.fn (.ms B.length 0 0 n n 1 true) (B++[.cel 0 (List.replicate n (.bool false))])=some (.ret (.sl [] .no),B++[.cel 0 (List.replicate n (.bool false))]):=by
 unfold Sh.fn Sh.f1x;have hc:∀K:Aa,Ap (λrec1 vs H1=>Sh.f5e K rec1 (ag vs 0) H1) AU [.ms B.length 0 0 n n 1 true] (B++[.cel 0 (List.replicate n (.bool false))])
   = some (.ret (.ms B.length 0 0 0 n 1 true),B++[.cel 0 (List.replicate n (.bool false))]):=by
  intro K;refine Bq (σ:=Nat) (λk=>k<=n) (λk=>[.ms B.length 0 0 k n 1 true]) (λ_=>B++[.cel 0 (List.replicate n (.bool false))]) (λk=>k) (λ_=>some (.ret (.ms B.length 0 0 0 n 1 true),B++[.cel 0 (List.replicate n (.bool false))])) (λk rec hk hrec=>?_) n (VV _) (by omega);unfold Sh.f5e;cases k with
  | zero=>simp[forget,Ev,fgt]
  | succ k=>
   have hpos:((k+1:Nat):Int)>0:=by omega
   have hw:IntKind.i64.wrap (((k+1:Nat):Int)-1)=(k:Int):=by rw[Ao] <;> omega
   have hidx:Av 1 (.ms B.length 0 0 (k+1) n 1 true) (.i6 (k:Int))=some (.ptr B.length 0 k):=by
    unfold Av;simp only[];rw[if_pos ⟨trivial,by omega,by omega⟩];simp
   have qQ:Ac false 1 (.ptr B.length 0 k) (B++[.cel 0 (List.replicate n (.bool false))])=some (.bool false):=by
    rw[F2,Hv,XW,if_pos (by omega)]
   have hsl:Bw 1 (.ms B.length 0 0 (k+1) n 1 true) none (some (.i6 (k:Int))) none=some (.ms B.length 0 0 k n 1 true):=by
    have:(0:Int)<=(k:Int):=by omega
    simp only[Bw,By,zXa,this,if_true,zXl];rw[if_pos ⟨trivial,by omega,by omega,by omega⟩];simp
   simp only[Am,len_ms,zXa,Dy,hpos,decide_true,J2,Dx,hw,hidx,qQ,J8,C9,WT,AZ,hsl];exact hrec k (by omega) (by omega)
 rw[hc];simp only[CH];rw[DU Fe];unfold Sh.f5f;simp
theorem q01_shl (l:List Nat)(tk:Tok)(m:Nat)(H:Aa)(hm:m<=10000)(hl:l.length<=549755813888)(hx:Lim l) :
  Sh.f5g (.sl (enL cU l) tk) (.i6 (m:Int)) H=some (.ret (.sl (enL cU (AA (2^m*val l))) .no),H):=by
 unfold Sh.f5g;have h0:¬(m:Int)<0:=by omega
 have h1:¬(m:Int)>10000:=by omega
 have hc:=I8 (AV l);rw[Cv]at hc;simp only[Br,zXa,zXd h0,Mt,Dy,zXd h1,C2,AQ,HU l tk H (by omega) hx,B9,make_one (bytes:=1) (v:=.bool false) rfl (show m*1<=140737488355328 by omega) (by omega),Bv];by_cases hv:val l=0
 ·have e:Dz (AV l)=[]:=cutL_nat0 (by rw[ER l hx];exact hv);rw[e,HM,Ea (by rw[elems_ms];rfl)];simp[q01_of_ms H m (by omega),hv,EH,HM]
 ·have hne:Dz (AV l)≠[]:=λe=>hv (by rw[<-ER l hx,<-EC,e];rfl);have ha:AW BY 1 1 (.ms H.length 0 0 m m 1 true) (.sl (enL cB (Dz (AV l))) .no) (H++[.cel 0 (List.replicate m (.bool false))])
    = some (.sl (enL cB (List.replicate m false++Dz (AV l))) (.own (H.length+1)),H++[.cel 0 (List.replicate m (.bool false))]++[.tok (m+(Dz (AV l)).length) BY 1]):=by
   have hl0:(enL cB (Dz (AV l))).length≠0:=by simpa using hne
   unfold AW;rw[show Cj 1 (.sl (enL cB (Dz (AV l))) .no) (H++[.cel 0 (List.replicate m (.bool false))])=some (enL cB (Dz (AV l))) from by simp[Cj,all_enL],elems_ms];simp only[zXa];rw[if_neg hl0,if_pos (by simp;omega),if_pos (by simp;exact Wy.2 hne)];simp[enL_append]
  rw[ha];simp only[Dp,B9,VZ];rw[S4 _ _ _ (by simp;omega)];simp only[B9,Cw,I4,zXb,nat1_repl,EC,ER l hx]
theorem q02_shl (z:Int)(m:Nat)(H:Aa)(hm:m<=10000)(hz:LB z)(lW:LB (z*2^m)) :
  Sh.f5h (big z) (.i6 (m:Int)) H=some (.ret (big (z*2^m)),H):=by
 have e:(z*2^m).natAbs=2^m*z.natAbs:=by rw[Int.natAbs_mul,YD,Xi];rfl
 have hp:(0:Int)<2^m:=XA (by omega);have hs:∀tk H,Sh.fe (.bool (decide (z<0))) (.sl (enL cU (AA (2^m*z.natAbs))) tk) H=some (.ret (big (z*2^m)),H):=by
  intro tk H;rw[Oy _ _ _ _ (by rw[<-e];unfold LB at lW;omega) (Bz _),BA]
  congr 3
  have:((2^m*z.natAbs:Nat):Int)=2^m*(z.natAbs:Int):=by simp
  by_cases h:z<0
  ·simp only[h,decide_true,if_true,this];rw[show ((z.natAbs:Nat):Int) = -z from by omega,Int.mul_neg,Int.neg_neg,Int.mul_comm]
  ·simp only[h,decide_false,VY,if_false,this];rw[show ((z.natAbs:Nat):Int)=z from by omega,Int.mul_comm]
 unfold Sh.f5h;simp[DL,BP,q01_shl _ _ _ _ hm hz (Bz _),BA,hs]
theorem JN {n:Int}(h0:-18446744073709551616<=n)(h:n<0):IntKind.u64.wrap n=n+18446744073709551616:=by
 have h1:IntKind.u64.bits=64:=rfl;have h2:IntKind.u64.signed=false:=rfl;unfold IntKind.wrap;simp only[h1,h2,Xh,VY,if_false];omega
theorem build_2U (x y:Nat):AS 1 [.int .u32 (x:Int),.int .u32 (y:Int)]=some (.sl (enL cU [x,y]) .ti):=by simp[AS,Dd,L9,BI,Ab.acells,enL]
theorem q02_of (n:Int)(H:Aa)(h0:-9223372036854775808<=n)(h1:n<=9223372036854775807):Sh.fu (.i6 n) H=some (.ret (big n),H):=by
 obtain⟨u,hu⟩:∃u:Nat,u=n.natAbs:=⟨_,rfl⟩;have hlim:Lim [u%4294967296,u / 4294967296]:=λx hx=>by
  simp at hx;rcases hx with rfl | rfl <;> omega
 have bB:val [u%4294967296,u / 4294967296]=u:=by simp[val];omega
 have ez:(if decide (n<0)=true then -(u:Int)else (u:Int))=n:=by
  by_cases h:n<0 <;> simp[h] <;> omega
 have a1:=λH=>Oy (decide (n<0)) [u%4294967296,u / 4294967296] .ti H (by simp) hlim;simp only[bB,ez]at a1;have e1:((u:Int).tmod 4294967296)=((u%4294967296:Nat):Int):=rfl;have e2:IntKind.u64.wrap ((u:Int).tdiv 4294967296)=((u / 4294967296:Nat):Int):=by rw[show (u:Int).tdiv 4294967296=((u / 4294967296:Nat):Int) from rfl,Cs] <;> omega
 have e3:IntKind.u32.wrap ((u%4294967296:Nat):Int)=((u%4294967296:Nat):Int):=by rw[Do] <;> omega
 have e4:IntKind.u32.wrap ((u / 4294967296:Nat):Int)=((u / 4294967296:Nat):Int):=by rw[Do] <;> omega
 have j1:Sh.f7e H (.i6 n) (.ptr H.length 0 0) (.int .u64 (u:Int)) (H++[.cel 0 [.bool false,.sl [] .ti]])=some (.ret (big n),H):=by
  unfold Sh.f7e;simp only[Br,zXa,J6 (show (4294967296:Int)≠0 by decide),RW (show (4294967296:Int)≠0 by decide),e1,e2,B3,e3,e4,build_2U,a1,CH];simp
 unfold Sh.fu;simp only[alloc_eq (cs:=[.bool false,.sl [] .ti]) rfl,Bv,B3,zXa,AK,Br,Am,Bg,Bk];by_cases h:n<0
 ·have w:IntKind.u64.wrap (0-IntKind.u64.wrap n)=(u:Int):=by
   rw[JN (n:=n) (by omega) h,JN (by omega) (by omega)];omega
  have un:unA .neg (.int .u64 (IntKind.u64.wrap n))=some (.int .u64 (u:Int)):=by
   rw[show unA .neg (.int .u64 (IntKind.u64.wrap n))=some (.int .u64 (IntKind.u64.wrap (0-IntKind.u64.wrap n))) from rfl,w]
  rw[zXc h];simp only[AZ,un,zXa,Am,Bg,Bk];exact j1
 ·have w:IntKind.u64.wrap n=(u:Int):=by rw[Cs (by omega) (by omega)];omega
  rw[zXd h];simp only[AQ,w,Am,Bg,Bk];exact j1
theorem LB_pow (m:Nat)(hm:m<=20000):LB (2^m):=by
 refine LB.of (k:=m+1) ?_ (by omega);rw[YD];have:(2:Nat)^m<2^(32*(m+1)):=YA (by omega) (by omega);rw[Yu]at this;exact this
theorem LB_one:LB 1:=LB_pow 0 (by omega)
theorem Iv (m:Nat)(H:Aa)(hm:m<=10000):Sh.f7 (.i6 (m:Int)) H=some (.ret (big (2^m)),H):=by
 have hs:=λH=>q02_shl 1 m H hm LB_one (by rw[Int.one_mul];exact LB_pow m (by omega));simp only[Int.one_mul]at hs;unfold Sh.f7;simp[q02_of 1 _ (by omega) (by omega),hs]
def Hl (z:Int):Bool:=decide (-9223372036854775808<=z/\z<=9223372036854775807)
def Ua (z:Int):Int:=if Hl z then z else 0
theorem val_drop (l:List Nat)(i:Nat)(h:i<l.length):val (l.drop i)=l[i]+4294967296*val (l.drop (i+1)):=by
 rw[Ww h,val]
theorem val_drop_le (l:List Nat)(i:Nat):4294967296^i*val (l.drop i)<=val l:=by
 induction l generalizing i with
 | nil=>simp[val]
 | cons a l ih=>
  cases i with
  | zero=>simp
  | succ i=>have:=ih i;simp only[YF,val,Nat.pow_succ];rw[Xi (4294967296^i) 4294967296,X0];omega
theorem wrap_neg {u:Nat}(h:u<=9223372036854775808):IntKind.i64.wrap (IntKind.u64.wrap (0-(u:Int))) = -(u:Int):=by
 have h1:IntKind.i64.bits=64:=rfl;have h2:IntKind.i64.signed=true:=rfl;by_cases h0:u=0
 ·subst h0;decide
 ·rw[JN (by omega) (by omega)];unfold IntKind.wrap;simp only[h1,h2,zXn,zXe];split <;> omega
theorem q02_int (neg:Bool)(l:List Nat)(tk:Tok)(H:Aa)(hl:l.length<=549755813888)(hx:Lim l):Sh.fv (.agg [.bool neg,.sl (enL cU l) tk]) H=some (.ret (.tup [.i6 (Ua (DZ neg l)),.bool (Hl (DZ neg l))]),H):=by
 unfold Sh.fv;have hw:IntKind.i64.wrap ((l.length:Int)-1)=(l.length:Int)-1:=by rw[Ao] <;> omega
 simp only[Cp (cs:=[.bool neg,.sl (enL cU l) tk]) (sz:=2) rfl rfl,Bv,Ah,zXa,F2,Hv,VU,List.getElem?_cons_succ,zXh,Ax,Dx,hw];refine Bq (σ:=Nat) (λi=>i<=l.length/\val (l.drop i)<18446744073709551616) (λi=>[.ptr H.length 0 0,.int .u64 ((val (l.drop i):Nat):Int),.i6 ((i:Int)-1)]) (λ_=>H++[.cel 0 [.bool neg,.sl (enL cU l) tk]]) (λi=>i)
  (λ_=>some (.ret (.tup [.i6 (Ua (DZ neg l)),.bool (Hl (DZ neg l))]),H)) (λi rec hi hrec=>?_) l.length ⟨VV _,by simp[val]⟩ (by omega) |> λh=>by simpa[val]using h
 obtain⟨hi,hv⟩:=hi;unfold Sh.f88;cases i with
 | zero=>
  simp only[Xm]at hv ⊢;have lE:¬(((0:Nat):Int)-1>=0):=by omega
  have un:unA .neg (.int .u64 ((val l:Nat):Int))=some (.int .u64 (IntKind.u64.wrap (0-((val l:Nat):Int)))):=rfl;simp only[Am,Bg,Bk,ID,lE,decide_false,zXa,AQ,Ah,F2,Hv,VU,zXh];cases neg with
  | true=>
   by_cases h:val l<=9223372036854775808
   ·have h':((val l:Nat):Int)<=9223372036854775808:=by omega
    have hok:Hl (DZ true l)=true:=by simp[Hl,DZ];omega
    have lZ:=wrap_neg h;rw[Int.zero_sub]at lZ;simp[h',un,B3,lZ,Ua,hok];simp[DZ]
   ·have h':¬((val l:Nat):Int)<=9223372036854775808:=by omega
    have hok:Hl (DZ true l)=false:=by simp[Hl,DZ];omega
    simp[h',Ua,hok]
  | false=>
   by_cases h:val l<=9223372036854775807
   ·have h':¬((val l:Nat):Int)>9223372036854775807:=by omega
    have hok:Hl (DZ false l)=true:=by simp[Hl,DZ];omega
    have hw:IntKind.i64.wrap ((val l:Nat):Int)=((val l:Nat):Int):=by rw[Ao] <;> omega
    simp[h',B3,hw,Ua,hok];simp[DZ]
   ·have h':((val l:Nat):Int)>9223372036854775807:=by omega
    have hok:Hl (DZ false l)=false:=by simp[Hl,DZ];omega
    simp[h',Ua,hok]
 | succ i=>
  have e:((i+1:Nat):Int)-1=(i:Int):=by omega
  have hge:(i:Int)>=0:=by omega
  have hil:i<l.length:=by omega
  have aH:l[i]<4294967296:=hx _ (We hil);have hd:=val_drop l i hil;have hle:=val_drop_le l (i+1);simp only[Am,Bg,Bk,e,ID,hge,decide_true,zXa,AZ,Dy];by_cases h:val (l.drop (i+1))<=4294967295
  ·have h':¬((val (l.drop (i+1)):Nat):Int)>4294967295:=by omega
   have w1:IntKind.u64.wrap (((val (l.drop (i+1)):Nat):Int)*4294967296)=((val (l.drop (i+1)):Nat):Int)*4294967296:=by rw[Cs] <;> omega
   have w2:IntKind.u64.wrap (((l[i]:Nat):Int))=((l[i]:Nat):Int):=by rw[Cs] <;> omega
   have w3:IntKind.u64.wrap (((val (l.drop (i+1)):Nat):Int)*4294967296+((l[i]:Nat):Int))=((val (l.drop i):Nat):Int):=by rw[Cs,hd] <;> omega
   have w4:IntKind.i64.wrap ((i:Int)-1)=(i:Int)-1:=by rw[Ao] <;> omega
   simp only[h',decide_false,AQ,IC,w1,Ah,zXa,F2,Hv,VU,List.getElem?_cons_succ,zXh,A1 hil,AE,B3,w2,CC,w3,Dx,w4];exact hrec i ⟨by omega,by omega⟩ (by omega)
  ·have h':((val (l.drop (i+1)):Nat):Int)>4294967295:=by omega
   have sB:18446744073709551616<=val l:=by
    have:4294967296^1*4294967296<=4294967296^(i+1)*val (l.drop (i+1)):=Ya (W9 (by omega) (by omega)) (by omega);omega
   have hok:Hl (DZ neg l)=false:=by cases neg <;> simp[Hl,DZ] <;> omega
   simp[h',Ua,hok]
theorem q02_intZ (z:Int)(H:Aa)(h:LB z):Sh.fv (big z) H=some (.ret (.tup [.i6 (Ua z),.bool (Hl z)]),H):=by
 rw[QA,q02_int _ _ _ _ h (Bz _),Lr]
def HH (neg:Bool)(l:List Nat):Bool:=Gg l && !(neg&&l.isEmpty)
theorem UY (neg:Bool)(l:List Nat)(tk:Tok)(H:Aa)(hl:l.length<=549755813888):Sh.f3a (.agg [.bool neg,.sl (enL cU l) tk]) H=some (.ret (.bool (HH neg l)),H):=by
 unfold Sh.f3a HH;have hq:=λH=>q01_right l tk H (by omega);cases hr:Gg l with
 | false=>simp[Cp,hq,hr]
 | true=>
  cases neg with
  | false=>simp[Cp,hq,hr]
  | true=>cases l <;> simp[Cp,hq,hr] <;> omega
theorem bigC_ok {n:Bool}{l:List Nat}(h:HH n l=true)(hx:Lim l):[Ab.bool n,.sl (enL cU l) .no]=A2 (DZ n l):=by
 simp only[HH,Wc,WU]at h;obtain⟨h1,h2⟩:=h;have hn:Nrm l:=(NT hx).1 h1;unfold A2;rw[Pt,<-Mp hn]
 congr 2
 unfold DZ;cases n with
 | false=>simp
 | true=>
  have hl:l≠[]:=λe=>by subst e;simp at h2
  have:val l≠0:=λe=>hl (hn.zero e);simp;omega
theorem LB_zero:LB 0:=by unfold LB;simp[EH]
structure Cl where
 x:Int
 y:Int
 s:UInt8
deriving DecidableEq
def cCl (c:Cl):List Ab:=[.bool (decide (c.x<0)),.sl (enL cU (AA c.x.natAbs)) .no,.bool (decide (c.y<0)),.sl (enL cU (AA c.y.natAbs)) .no,.int .u8 (c.s.toNat:Int)]
instance:Sz cCl 5:=⟨λ_=>rfl⟩
instance:Pl cCl:=⟨λ_=>rfl⟩
def cBig (z:Int):List Ab:=A2 z
instance:Sz cBig 2:=⟨λ_=>rfl⟩
instance:Pl cBig:=⟨λ_=>rfl⟩
def SB (k:Nat)(z:Int):Prop:=z.natAbs<4294967296^k
theorem SB.lb {k:Nat}{z:Int}(h:SB k z)(hk:k<=549755813888):LB z:=LB.of h hk
theorem SB.mono {k m:Nat}{z:Int}(h:SB k z)(hm:k<=m):SB m z:=WP h (JU hm)
theorem SB.add {k:Nat}{a b:Int}(ha:SB k a)(hb:SB k b):SB (k+1) (a+b):=by
 unfold SB at *;have:4294967296^(k+1)=4294967296^k*4294967296:=Nat.pow_succ _ _;omega
theorem SB_powk {m k:Nat}(h:m<32*k):SB k (2^m):=by
 have e:((2:Int)^m).natAbs=2^m:=by rw[YD];rfl
 unfold SB;rw[e];exact pow32_lt h
theorem SB_pow {m:Nat}(h:m<=10000):SB 313 (2^m):=SB_powk (WI h (by decide))
def Cl.ok (c:Cl):Prop:=SB 100 c.x/\SB 100 c.y
def JD (a b:Cl):Int:=if FH a.y b.y=0 then FH a.x b.x else FH a.y b.y
theorem boxCl (c:Cl)(H:Aa):BD true 5 (.agg (cCl c)) H=some (.ptr H.length 0 0,H++[.cel 0 (cCl c)]):=Cp rfl rfl
theorem Ny (c:Cl):(Ab.agg (cCl c)).acells=some (cCl c):=BV rfl
section
variable {H G:Aa}{p:Nat}{c:Cl}{z:Int}
theorem Jw (hg:H[p]? = some (.cel 0 (cCl c))):Ac true 2 (.ptr p 0 0) H=some (big c.x):=by
 simp only[Ac,Aw hg,zXa,if_true];rfl
theorem Jv (hg:H[p]? = some (.cel 0 (cCl c))):Ac true 2 (.ptr p 0 2) H=some (big c.y):=by
 simp only[Ac,Aw hg,zXa,if_true];rfl
theorem AY (hg:H[p]? = some (.cel 0 (A2 z))):Ac true 2 (.ptr p 0 0) H=some (big z):=by
 simp only[Ac,Aw hg,zXa,if_true];rfl
theorem BK {cs:List Ab}(hg:H[p]? = some (.cel 0 cs))(hl:cs.length=2):Af 2 (.ptr p 0 0) (big z) H=some (H.set p (.cel 0 (A2 z))):=by
 simp only[Af,Aw hg,zXa,TM,Bt hg,Dq hl];rw[if_pos ⟨rfl,by omega⟩]
theorem RG:Ac true 2 (.cptr (cCl c) 0) H=some (big c.x):=(rfl)
theorem RF:Ac true 2 (.cptr (cCl c) 2) H=some (big c.y):=(rfl)
theorem load_sC:Ac false 1 (.cptr (cCl c) 4) H=some (.int .u8 (c.s.toNat:Int)):=(rfl)
theorem OC:Ac true 5 (.cptr (cCl c) 0) H=some (.agg (cCl c)):=(rfl)
theorem Pr (c:Cl):AS 5 [.agg (cCl c)]=some (.sl (enL cCl [c]) .ti):=by
 simp[AS,Dd,Ny];simp[cCl,L9,BI,enL]
theorem CD (H:Aa):Az (some [.bool false,.sl [] .ti]) H=some (.ptr H.length 0 0,H++[.cel 0 [.bool false,.sl [] .ti]]):=alloc_eq rfl
theorem A0 {i:Nat}{x:Blk}(h:H[i]? = some x):(H++G)[i]? = some x:=by
 have:=(VP.1 h).1;rw[VR this];exact h

end
theorem q07_order (a b:Cl)(H:Aa)(ha:a.ok)(hb:b.ok):Sh.f3b (.agg (cCl a)) (.agg (cCl b)) H=some (.ret (.i6 (JD a b)),H):=by
 have e1:(H++[Blk.cel 0 (cCl a)]++[Blk.cel 0 (cCl b)])[H.length]? = some (.cel 0 (cCl a)):=by simp
 have e2:(H++[Blk.cel 0 (cCl a)]++[Blk.cel 0 (cCl b)])[(H++[Blk.cel 0 (cCl a)]).length]? = some (.cel 0 (cCl b)):=Al;unfold Sh.f3b;have hy:=λH=>EX a.y b.y H (ha.2.lb (by decide)) (hb.2.lb (by decide));have hx:=λH=>EX a.x b.x H (ha.1.lb (by decide)) (hb.1.lb (by decide));simp only[GMw,boxCl,Ah,VU,Nat.add_zero,Jv e1,Jv e2,hy];have fin:∀q:Int,rP H (.i6 q) (H++[Blk.cel 0 (cCl a)]++[Blk.cel 0 (cCl b)])=some (.ret (.i6 q),H):=λq=>by simp only[VZ];exact Ij
 unfold JD;by_cases h:FH a.y b.y=0
 ·simp only[GMw,h,Jw e1,Jw e2,hx,fin]
 ·simp only[GMw,h,fin]
def inZ (v:Nat)(z:Int):Bool:=decide (-(2^(v-1))<=z)&&decide (z<2^(v-1))
def DP (v:Nat)(c:Cl):Bool:=inZ v c.x&&inZ v c.y
theorem Gb (a b:Int):decide (FH a b>=0)=decide (b<=a):=by
 unfold FH;rw[Wo];split
 ·simp;omega
 ·split
  ·simp;omega
  ·simp;omega
theorem Ga (a b:Int):decide (FH a b<0)=decide (a<b):=by
 unfold FH;rw[Wo];split
 ·simp;omega
 ·split
  ·simp;omega
  ·simp;omega
theorem q07_within (c:Cl)(v:Nat)(H:Aa)(hc:c.ok)(h1:1<=v)(h2:v<=10000):Sh.f63 (.agg (cCl c)) (.i6 (v:Int)) H=some (.ret (.bool (DP v c)),H):=by
 have hw:IntKind.i64.wrap ((v:Int)-1)=((v-1:Nat):Int):=Hp (by omega) (by omega);have hp:=SB_pow (show v-1<=10000 by omega);have bG:=hp.lb (by decide);unfold Sh.f63;have bX:=λH=>Iv (v-1) H (by omega);have gP:=λH=>IP (2^(v-1)) H bG;have hx:=λH b (hb:LB b)=>EX c.x b H (hc.1.lb (by decide)) hb;have hy:=λH b (hb:LB b)=>EX c.y b H (hc.2.lb (by decide)) hb;have s1:∀B:Aa,Af 2 (.ptr B.length 0 0) (big (2^(v-1))) (B++[.cel 0 [.bool false,.sl [] .ti]])=some (B++[.cel 0 (A2 (2^(v-1)))]):=λB=>by rw[BK (Al (B:=B)) rfl,Be]
 have s2:∀B:Aa,Af 2 (.ptr B.length 0 0) (big (-(2^(v-1)))) (B++[.cel 0 [.bool false,.sl [] .ti]])=some (B++[.cel 0 (A2 (-(2^(v-1))))]):=λB=>by rw[BK (Al (B:=B)) rfl,Be]
 simp only[GMw,boxCl,hw,bX,CD,s1,AY Al,gP,s2];generalize hB:H++[Blk.cel 0 (cCl c)]=B;have e1:(B++[Blk.cel 0 (A2 (2^(v-1)))]++[Blk.cel 0 (A2 (-(2^(v-1))))])[H.length]? = some (.cel 0 (cCl c)):=by rw[<-hB];simp
 have e2:(B++[Blk.cel 0 (A2 (2^(v-1)))]++[Blk.cel 0 (A2 (-(2^(v-1))))])[B.length]? = some (.cel 0 (A2 (2^(v-1)))):=by simp
 have e3:(B++[Blk.cel 0 (A2 (2^(v-1)))]++[Blk.cel 0 (A2 (-(2^(v-1))))])[(B++[Blk.cel 0 (A2 (2^(v-1)))]).length]? = some (.cel 0 (A2 (-(2^(v-1))))):=Al;have fin:∀q:Bool,rP H (.bool q) (B++[Blk.cel 0 (A2 (2^(v-1)))]++[Blk.cel 0 (A2 (-(2^(v-1))))])=some (.ret (.bool q),H):=λq=>by rw[<-hB];simp only[VZ];exact Fw
 unfold DP inZ;simp only[GMw,Ah,VU,Nat.add_zero,Jw e1,Jv e1,AY e2,AY e3,hx _ _ bG,hx _ _ bG.neg,hy _ _ bG,hy _ _ bG.neg,Gb,Ga];cases decide (-(2^(v-1))<=c.x)with
 | false=>simp only[GMw,fin]
 | true=>
  simp only[GMw,Ah,VU,Nat.add_zero,Jw e1,Jv e1,AY e2,AY e3,hx _ _ bG,hx _ _ bG.neg,hy _ _ bG,hy _ _ bG.neg,Gb,Ga];cases decide (c.x<2^(v-1))with
  | false=>simp only[GMw,fin]
  | true=>
   simp only[GMw,Ah,VU,Nat.add_zero,Jw e1,Jv e1,AY e2,AY e3,hx _ _ bG,hx _ _ bG.neg,hy _ _ bG,hy _ _ bG.neg,Gb,Ga];cases decide (-(2^(v-1))<=c.y)with
   | false=>simp only[GMw,fin]
   | true=>
    simp only[GMw,Ah,VU,Nat.add_zero,Jw e1,Jv e1,AY e2,AY e3,hx _ _ bG,hx _ _ bG.neg,hy _ _ bG,hy _ _ bG.neg,Gb,Ga,fin]
def EY (c:Cl)(out:List Cl):Nat:=(out.takeWhile λd=>decide (JD d c<0)).length
def Ma (c:Cl)(out:List Cl):Bool:=match out[EY c out]? with | some d=>decide (JD d c=0) | none=>false
def JT (c:Cl)(out:List Cl):List Cl:=if Ma c out then (out.drop (EY c out)).drop 1 else out.drop (EY c out)
def Ch (out:List Cl)(c:Cl):List Cl:=out.take (EY c out)++[c]++JT c out
def CO (l:List Cl):List Cl:=l.foldl Ch []
def Bb (l:List Cl):List Cl:=(CO l).filter λc=>decide (c.s≠0)
theorem NE {α:Type}(p:α->Bool):∀(l:List α) (n:Nat),n<=l.length->(∀(j:Nat) (a:α),j<n->l[j]? = some a->p a=true)->(∀a,l[n]? = some a->p a=false)->(l.takeWhile p).length=n
 | [],n,h,_,_=>by simp at h;simp[h]
 | a::l,0,_,_,h=>by
  have:=h a rfl;simp[XP,this]
 | a::l,n+1,h,h1,h2=>by
  have h3:=h1 0 a (by omega) rfl;have:=NE p l n (by simpa using h) (λj b hj hb=>h1 (j+1) b (by omega) (by simpa using hb)) (λb hb=>h2 b (by simpa using hb));simp[XP,h3,this]
theorem posC_le (c:Cl)(out:List Cl):EY c out<=out.length:=by
 unfold EY;exact (Y3 _).length_le
theorem lastStep_len (out:List Cl)(c:Cl):(Ch out c).length<=out.length+1:=by
 have:=posC_le c out;unfold Ch JT;split <;> simp <;> omega
theorem lastStep_mem {out:List Cl}{c d:Cl}(h:d∈Ch out c):d=c\/d∈out:=by
 unfold Ch JT at h;simp only[Wn,Wm]at h;rcases h with (h | h) | h
 ·exact .inr (WZ h)
 ·exact .inl h
 ·right;split at h
  ·exact X9 (X9 h)
  ·exact X9 h
theorem OG {l:List Cl}{i:Nat}(hi:i<l.length):CO (l.take (i+1))=Ch (CO (l.take i)) l[i]:=by
 unfold CO;rw[Wb hi,XM];rfl
theorem Gx {l:List Cl}:∀i,i<=l.length->(CO (l.take i)).length<=i/\∀d∈CO (l.take i),d∈l
 | 0,_=>by simp[CO]
 | i+1,h=>by
  obtain⟨h1,h2⟩:=Gx i (by omega:i<=l.length);rw[OG h];refine⟨Wu (lastStep_len _ _) (by omega),λd hd=>?_⟩;rcases lastStep_mem hd with rfl | hd
  ·exact We h
  ·exact h2 d hd
theorem slice_cap {α:Type}{f:α->List Ab}{l:List α}{tk:Tok}{sz h:Nat}{K:IntKind}[hf:Sz f sz](hh:h<=l.length) :
  Bw sz (.sl (enL f l) tk) none (some (.int K (h:Int))) (some (.int K (h:Int)))=some (.sl (enL f (l.take h)) .ti):=by
 simp[Bw,By,enL,hf.len,hh,List.map_take,FM]
theorem Pb {α:Type}{f:α->List Ab}{l:List α}{tk:Tok}{sz:Nat}{H:Aa}[hf:Sz f sz]:Cj sz (.sl (enL f l) tk) H=some (enL f l):=by
 simp[Cj,all_enL]
theorem q07_last (l:List Cl)(tk0:Tok)(H:Aa)(hl:l.length<549755813888)(hok:∀c∈l,c.ok):Sh.f62 (.sl (enL cCl l) tk0) H=some (.ret (.sl (enL cCl (Bb l)) .no),H):=by
 unfold Sh.f62;have loop:=GG (G:=λrec1 vs H1=>Sh.f61 H rec1 (ag vs 0) (ag vs 1) (ag vs 2) H1) l.length (λi vs Hc=>∃tk G,vs=[.sl (enL cCl l) tk0,.sl (enL cCl (CO (l.take i))) tk,.i6 (i:Int)]/\Hc=H++G) (by omega) (λi vs Hc hi hI=>?_)
  (vs:=[.sl (enL cCl l) tk0,.sl [] .ti,.i6 0]) (H:=H) ⟨.ti,[],rfl,by simp⟩
 ·obtain⟨vs',Hc,⟨tk,G,rfl,rfl⟩,rec,aB⟩:=loop;rw[aB];unfold Sh.f61;rw[Wd (VV _)];simp only[GMw,Ax,WL];generalize hB:H++G=B;have hlen:(CO l).length<=l.length:=by have:=(Gx (l:=l) l.length (VV _)).1;rwa [Wd (VV _)]at this
  unfold Bb;generalize CO l=o at hlen;refine Cm (G:=λeC vs H1=>Sh.f60 H eC (ag vs 0) (ag vs 1) (ag vs 2) H1) o.length (λi=>[.sl (enL cCl o) tk,DJ cCl B ((o.take i).filter λc=>decide (c.s≠0)),.i6 (i:Int)]) (λi=>DI cCl AG 5 B ((o.take i).filter λc=>decide (c.s≠0))) _ (by omega) (λrec i hi=>?_) (λrec=>?_)
  ·have aD:(i:Int)<(o.length:Int):=by omega
   have aN:=Au (show i<9223372036854775807 by omega);unfold Sh.f60;rw[Wb hi,WE];have eK:((o.take i).filter λc=>decide (c.s≠0)).length<=i:=Wu (Xf _ _) (by simp;omega);generalize ((o.take i).filter λc=>decide (c.s≠0))=fo at eK;have hs:decide ((o[i].s.toNat:Int)=0)=decide (o[i].s=0):=by
    rw[Wo];simp only[zXe];constructor
    ·intro h;exact Xp.1 (by simpa using h)
    ·intro h;rw[h];rfl
   simp only[GMw,Ax,aD,A1 hi,Ar,VU,load_sC,hs,aN,Sh.f5z];by_cases h0:o[i].s=0
   ·have:[o[i]].filter (λc=>decide (c.s≠0))=[]:=by simp[h0]
    rw[this,Wx];simp only[GMw,h0,decide_true,Sh.f5z,aN]
   ·have:[o[i]].filter (λc=>decide (c.s≠0))=[o[i]]:=by simp[h0]
    rw[this];have ha:=E5 (f:=cCl) (ty:=AG) (bytes:=72) (tk:=.ti) (B:=B) (l:=fo) (m:=[o[i]]) (by simp) (by simp;omega) (by simp;omega);simp only[GMw,h0,decide_false,OC,Pr,ha,Sh.f5z,aN]
  ·obtain⟨G',hG'⟩:=GF (f:=cCl) (ty:=AG) (sz:=5) B (o.filter λc=>decide (c.s≠0));unfold Sh.f60;rw[Wd (VV _)];simp only[GMw,Ax,WL,Fy,hG'];rw[<-hB,VZ];simp only[Cw,I4,zXb]
 ·obtain⟨tk,G,rfl,rfl⟩:=hI;obtain⟨m1,m2⟩:=Gx (l:=l) i (by omega);have aD:(i:Int)<(l.length:Int):=by omega
  have aN:=Au (show i<9223372036854775807 by omega);have oC:l[i].ok:=hok _ (We hi);have xB:∀d∈CO (l.take i),d.ok:=λd hd=>hok d (m2 d hd);rw[OG hi];generalize CO (l.take i)=o at m1 m2 xB;generalize hB:H++G=B;have hp:=posC_le l[i] o;obtain⟨tkr,Gr,dX⟩:∃tkr Gr,AW AG 5 72 (.sl (enL cCl []) .ti) (.sl (enL cCl (o.drop (EY l[i] o))) (FM tk (EY l[i] o) o.length o.length false)) B=some (.sl (enL cCl (o.drop (EY l[i] o))) tkr,B++Gr):=by
   by_cases he:o.drop (EY l[i] o)=[]
   ·rw[he];exact⟨.ti,[],by simp[Ea,Pb,HM];exact Ea (by simp[Cj])⟩
   ·have:=CR (f:=cCl) (l:=[]) (m:=o.drop (EY l[i] o)) (ty:=AG) (bytes:=72) (tk:=FM tk (EY l[i] o) o.length o.length false) (H:=B) he (by simp;omega) (by simp;omega);exact⟨_,_,this⟩
  obtain⟨tks,hres⟩:∃tks,(if Ma l[i] o then Bw 5 (.sl (enL cCl (o.drop (EY l[i] o))) tkr) (some (.i6 1)) none none else some (.sl (enL cCl (o.drop (EY l[i] o))) tkr))=some (.sl (enL cCl (JT l[i] o)) tks):=by
   unfold JT;cases hs:Ma l[i] o with
   | false=>exact⟨_,rfl⟩
   | true=>
    have hlt:EY l[i] o<o.length:=by
     unfold Ma at hs;cases hg:o[EY l[i] o]? with
     | none=>rw[hg]at hs;cases hs
     | some d=>exact (VP.1 hg).1
    have:=NR (f:=cCl) (l:=o.drop (EY l[i] o)) (tk:=tkr) (K:=.i64) (b:=1) (by simp;omega);exact⟨_,this⟩
  have yF:=CR (f:=cCl) (l:=o.take (EY l[i] o)) (m:=[l[i]]) (ty:=AG) (bytes:=72) (tk:=.ti) (H:=B++Gr) (by simp) (by simp;omega) (by simp;omega);obtain⟨tkf,Gf,yE⟩:∃tkf Gf,AW AG 5 72 (.sl (enL cCl (o.take (EY l[i] o)++[l[i]])) (.own (B++Gr).length)) (.sl (enL cCl (JT l[i] o)) tks) (B++Gr++[Blk.tok ((o.take (EY l[i] o)).length+[l[i]].length) AG 5])=some (.sl (enL cCl (Ch o l[i])) tkf,B++Gf):=by
   by_cases he:JT l[i] o=[]
   ·unfold Ch;rw[he,Wx];exact⟨_,Gr++[Blk.tok ((o.take (EY l[i] o)).length+[l[i]].length) AG 5],by rw[HM,Ea (by simp[Pb]),VZ]⟩
   ·have nD:(JT l[i] o).length<=o.length:=by unfold JT;split <;> simp <;> omega
    have:=Fr (f:=cCl) (l:=o.take (EY l[i] o)++[l[i]]) (m:=JT l[i] o) (ty:=AG) (bytes:=72) (tk:=tks) (H:=B++Gr++[Blk.tok ((o.take (EY l[i] o)).length+[l[i]].length) AG 5]) (t:=(B++Gr).length) he (by simp) (by simp;omega) (by simp;omega);exact⟨.own (B++Gr).length,Gr++[Blk.tok ((o.take (EY l[i] o)++[l[i]]).length+(JT l[i] o).length) AG 5],by rw[this];unfold Ch;rw[W5 _ _ (VV _),WB,List.set_cons_zero,VZ,VZ]⟩
  refine⟨_,_,⟨tkf,G++Gf,rfl,rfl⟩,λrec=>?_⟩;unfold Sh.f61;simp only[GMw,Ax,aD,Am,Aj];refine Bq (G:=λaA vs H1=>Sh.f7k H rec aA (ag vs 0) (ag vs 1) (ag vs 2) (ag vs 3) H1) (σ:=Nat) (λk=>k<=o.length/\∀(j:Nat) (d:Cl),j<k->o[j]? = some d->decide (JD d l[i]<0)=true) (λk=>[.sl (enL cCl l) tk0,.sl (enL cCl o) tk,.i6 (i:Int),.i6 (k:Int)]) (λ_=>B) (λk=>o.length-k) (λ_=>_) (λk aA hk hrec=>?_) 0 ⟨Wv _,λj d hj=>by omega⟩ (by omega);obtain⟨hk1,hk2⟩:=hk;have eY:=Au (show k<9223372036854775807 by omega);unfold Sh.f7k;have stop:(∀d,o[k]? = some d->decide (JD d l[i]<0)=false)->k=EY l[i] o:=λh=>(NE _ o k hk1 hk2 h).symm;have xV:AS 5 []=some (.sl (enL cCl []) .ti):=rfl;have tail:∀s:Bool,k=EY l[i] o->s=Ma l[i] o->(AK (λj3=>Ak (.bool s) ((Bw 5 (.sl (enL cCl (o.drop (EY l[i] o))) tkr) (some (.i6 1)) none none).bind λx61=>j3 [.sl (enL cCl l) tk0,.sl (enL cCl o) tk,.i6 (i:Int),.i6 (k:Int),x61] (B++Gr)) (j3 [.sl (enL cCl l) tk0,.sl (enL cCl o) tk,.i6 (i:Int),.i6 (k:Int),.sl (enL cCl (o.drop (EY l[i] o))) tkr] (B++Gr))) (λvs H1=>Sh.f5y H rec (ag vs 0) (ag vs 1) (ag vs 2) (ag vs 3) (ag vs 4) H1))=rec [.sl (enL cCl l) tk0,.sl (enL cCl (Ch o l[i])) tkf,.i6 ((i+1:Nat):Int)] (H++(G++Gf)):=by
   intro s cO hs;have fin:Sh.f5y H rec (.sl (enL cCl l) tk0) (.sl (enL cCl o) tk) (.i6 (i:Int)) (.i6 (k:Int)) (.sl (enL cCl (JT l[i] o)) tks) (B++Gr)=rec [.sl (enL cCl l) tk0,.sl (enL cCl (Ch o l[i])) tkf,.i6 ((i+1:Nat):Int)] (H++(G++Gf)):=by
    unfold Sh.f5y;rw[cO];simp only[GMw,slice_cap hp,A1 hi,OC,Pr,yF,yE,aN];rw[<-hB,VZ]
   subst hs;cases eD:Ma l[i] o with
   | false=>
    rw[eD]at hres;simp only[VY,if_false,Wa]at hres;simp only[GMw,hres];exact fin
   | true=>
    rw[eD]at hres;simp only[if_true]at hres;simp only[GMw,hres];exact fin
  by_cases h:k<o.length
  ·have cP:(k:Int)<(o.length:Int):=by omega
   have nJ:=λH=>q07_order o[k] l[i] H (xB _ (We h)) oC;simp only[GMw,Ax,cP,A1 h,A1 hi,OC,nJ,eY];by_cases hlt:JD o[k] l[i]<0
   ·have:=hrec (k+1) ⟨h,λj d hj hd=>by
     by_cases e:j=k
     ·subst e;rw[VO h]at hd;injection hd with hd;rw[<-hd];exact zXc hlt
     ·exact hk2 j d (by omega) hd⟩ (by omega)
    simp only[hlt,GMw];exact this
   ·have cO:=stop (λd hd=>by rw[VO h]at hd;injection hd with hd;rw[<-hd];exact zXd hlt);have eD:decide (JD o[k] l[i]=0)=Ma l[i] o:=by
     unfold Ma;rw[<-cO,VO h]
    simp only[hlt,GMw,xV];have jF:=NR (f:=cCl) (l:=o) (tk:=tk) (K:=.i64) (b:=EY l[i] o) hp;rw[<-cO]at jF dX;simp only[GMw,jF,dX];have ht:=tail _ cO eD;rw[<-cO]at ht;simp only[GMw]at ht;exact ht
  ·have hk:k=o.length:=by omega
   have cP:¬(k:Int)<(o.length:Int):=by omega
   have cO:=stop (λd hd=>by rw[zYb (by omega)]at hd;cases hd);have eD:false=Ma l[i] o:=by
    unfold Ma;rw[<-cO,zYb (by omega)]
   have jF:=NR (f:=cCl) (l:=o) (tk:=tk) (K:=.i64) (b:=EY l[i] o) hp;rw[<-cO]at jF dX;simp only[GMw,Ax,cP,xV,jF,dX];have ht:=tail _ cO eD;rw[<-cO]at ht;simp only[GMw]at ht;exact ht
def ltC (a b:Cl):Bool:=decide (JD a b<0)
theorem KS (a b:Int):(a<b/\FH a b<0)\/(a=b/\FH a b=0)\/(b<a/\0<FH a b):=by
 unfold FH;rcases Int.lt_trichotomy a b with h | h | h
 ·exact .inl ⟨h,by rw[if_pos h];decide⟩
 ·exact .inr (.inl ⟨h,by rw[if_neg (by omega),if_pos h]⟩)
 ·exact .inr (.inr ⟨h,by rw[if_neg (by omega),if_neg (by omega)];decide⟩)
theorem Ng {a b:Cl}:ltC a b=true↔a.y<b.y\/(a.y=b.y/\a.x<b.x):=by
 unfold ltC JD;rw[zXe];rcases KS a.y b.y with ⟨h1,h2⟩ | ⟨h1,h2⟩ | ⟨h1,h2⟩
 ·rw[if_neg (by omega)];omega
 ·rw[if_pos h2];rcases KS a.x b.x with ⟨h3,h4⟩ | ⟨h3,h4⟩ | ⟨h3,h4⟩ <;> omega
 ·rw[if_neg (by omega)];omega
theorem ltC_no {a b:Cl}:ltC a b=false↔¬(a.y<b.y\/(a.y=b.y/\a.x<b.x)):=by
 rw[<-Ng,Bool.not_eq_true]
theorem J9:SW ltC:=⟨λa b h=>by rw[Ng]at h;rw[ltC_no];omega,λa b c h k=>by rw[ltC_no]at h k ⊢;omega⟩
theorem Ic {a b:Cl}:BC ltC a b=true↔a.x=b.x/\a.y=b.y:=by
 rw[FZ,ltC_no,ltC_no];omega
theorem Vc {a b:Cl}:decide (JD a b=0)=BC ltC a b:=by
 rw[Wo,Ic,zXe];unfold JD;rcases KS a.y b.y with ⟨h1,h2⟩ | ⟨h1,h2⟩ | ⟨h1,h2⟩
 ·rw[if_neg (by omega)];omega
 ·rw[if_pos h2];rcases KS a.x b.x with ⟨h3,h4⟩ | ⟨h3,h4⟩ | ⟨h3,h4⟩ <;> omega
 ·rw[if_neg (by omega)];omega
def Rz (l:List Cl):Prop:=l.Pairwise λa b=>ltC a b=true
theorem mem_tw {p:Cl->Bool}:∀ {l:List Cl} {a:Cl},a∈l.takeWhile p->p a=true
 | [],a,h=>by cases h
 | c::l,a,h=>by
  rw[XP]at h;split at h
  ·rename_i hc;rcases WG.1 h with e | e
   ·rw[e];exact hc
   ·exact mem_tw e
  ·cases h
theorem lastStep_dec {out:List Cl}(c:Cl)(h:Rz out):∃T D R,out=T++(D++R)/\Ch out c=T++(c::R)/\(∀a∈T,ltC a c=true)/\(∀a∈R,ltC c a=true)/\∀a∈D,BC ltC a c=true:=by
 obtain⟨T,hT⟩:∃T,T=out.takeWhile λd=>decide (JD d c<0):=⟨_,rfl⟩;obtain⟨D,hD⟩:∃D,D=out.dropWhile λd=>decide (JD d c<0):=⟨_,rfl⟩;have hTD:out=T++D:=by rw[hT,hD,List.takeWhile_append_dropWhile]
 have hp:EY c out=T.length:=by unfold EY;rw[hT]
 have h1:out.take (EY c out)=T:=by rw[hp,hTD,Yc]
 have h2:out.drop (EY c out)=D:=by rw[hp,hTD,Ye]
 have hlt:∀a∈T,ltC a c=true:=λa ha=>by
  rw[hT]at ha;exact mem_tw (p:=λd=>decide (JD d c<0)) ha
 have hst:=h;unfold Rz at hst;rw[hTD]at hst;have kV:=(Xe.1 hst).2.1;have hg:out[EY c out]? = D.head? := by
  rw[<-List.head?_drop,h2]
 unfold Ch JT Ma;rw[h1,h2,hg];cases hDc:D with
 | nil=>
  refine⟨T,[],[],by rw[hTD,hDc];simp,by simp,hlt,λa (ha:a∈[])=>(by cases ha),λa (ha:a∈[])=>(by cases ha)⟩
 | cons d D'=>
  rw[hDc]at kV;rw[XI]at kV;have hd:ltC d c=false:=by
   have:=List.head?_dropWhile_not (λd=>decide (JD d c<0)) out;rw[<-hD,hDc]at this;exact this
  have vT:decide (JD d c=0)=BC ltC d c:=Vc;simp only[List.head?_cons,vT];by_cases he:BC ltC d c=true
  ·rw[if_pos he];refine⟨T,[d],D',by rw[hTD,hDc];simp,by simp,hlt,λa ha=>?_,λa ha=>by rw[Wm]at ha;rw[ha];exact he⟩;have:=kV.1 a ha;rw[Ic]at he;rw[Ng]at this ⊢;omega
  ·rw[if_neg he];refine⟨T,[],d::D',by rw[hTD,hDc];simp,by simp,hlt,λa ha=>?_,λa (ha:a∈[])=>(by cases ha)⟩;have vW:ltC c d=true:=by
    cases e:ltC c d with
    | true=>rfl
    | false=>exact absurd (FZ.2 ⟨hd,e⟩) he
   rcases WG.1 ha with e | e
   ·rw[e];exact vW
   ·have:=kV.1 a e;rw[Ng]at this vW ⊢;omega
theorem lastStep_str {out:List Cl}(c:Cl)(h:Rz out):Rz (Ch out c)/\∀z,(if BC ltC z c=true then ((Ch out c).filter (BC ltC z)).head? = some c else (Ch out c).filter (BC ltC z)=out.filter (BC ltC z)):=by
 obtain⟨T,D,R,e1,e2,hT,hR,hD⟩:=lastStep_dec c h;have h':=h;unfold Rz at h' ⊢;rw[e1]at h';rw[Xe]at h';obtain⟨p1,p2,p3⟩:=h';rw[Xe]at p2;rw[e2];refine⟨Xe.2 ⟨p1,XI.2 ⟨hR,p2.2.1⟩,λa ha b hb=>?_⟩,λz=>?_⟩
 ·rcases WG.1 hb with e | e
  ·rw[e];exact hT a ha
  ·exact p3 a ha b (by simp[e])
 ·by_cases hz:BC ltC z c=true
  ·rw[if_pos hz,WE];have:T.filter (BC ltC z)=[]:=Ib λa ha=>by
    cases e:BC ltC z a with
    | false=>rfl
    | true=>
     have:=hT a ha;rw[Ic]at e hz;rw[Ng]at this;omega
   rw[this,List.nil_append,WN,if_pos hz];rfl
  ·rw[if_neg hz,e1,WE,WE,WE,WN,if_neg hz];have:D.filter (BC ltC z)=[]:=Ib λa ha=>by
    cases e:BC ltC z a with
    | false=>rfl
    | true=>
     have:=hD a ha;rw[Ic]at e this;exact absurd (Ic.2 (by omega)) hz
   rw[this,List.nil_append]
theorem Se {l:List Cl}(h:Rz l)(z:Cl):z∈l↔(l.filter (BC ltC z)).head? = some z:=by
 constructor
 ·intro hz;obtain⟨A,B,rfl⟩:=List.append_of_mem hz;unfold Rz at h;rw[Xe]at h;have:A.filter (BC ltC z)=[]:=Ib λa ha=>by
   cases e:BC ltC z a with
   | false=>rfl
   | true=>
    have:=h.2.2 a ha z (by simp);rw[Ic]at e;rw[Ng]at this;omega
  rw[WE,this,List.nil_append,WN,if_pos (Mv J9 z)];rfl
 ·intro hz;exact (WO.1 (List.mem_of_mem_head? hz)).1
theorem Gw:∀(l out:List Cl),Rz out->Rz (l.foldl Ch out)/\∀z,z∈l.foldl Ch out↔((l.reverse++out).filter (BC ltC z)).head? = some z
 | [],out,h=>⟨h,λz=>Se h z⟩
 | c::l,out,h=>by
  obtain⟨s1,s2⟩:=lastStep_str c h;obtain⟨i1,i2⟩:=Gw l (Ch out c) s1;refine⟨i1,λz=>?_⟩;rw[List.foldl_cons,i2 z,Yw,VZ,WE,WE];have hz:=s2 z;have key:((Ch out c).filter (BC ltC z)).head? = (([c]++out).filter (BC ltC z)).head? := by
   by_cases hc:BC ltC z c=true
   ·rw[if_pos hc]at hz;rw[hz,List.singleton_append,WN,if_pos hc];rfl
   ·rw[if_neg hc]at hz;rw[hz,List.singleton_append,WN,if_neg hc]
  rw[List.head?_append,List.head?_append,key]
theorem cp_last {l S:List Cl}(h:E6 ltC S)(hst:F9 ltC l.reverse S):cpL ltC S=CO l:=by
 obtain⟨c1,c2⟩:=cpL_ok J9 h;obtain⟨f1,f2⟩:=Gw l [] List.Pairwise.nil;refine NQ J9 _ _ c1 f1 λz=>?_;rw[c2 z,<-hst z];show _↔z∈l.foldl Ch [];rw[f2 z,Wx]
end Go.Gm
