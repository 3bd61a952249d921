/- Texts of this proof, joined. -/
import Derived.Test.YtagddbecnkbcdaaGreatJ1
import Derived.Orders
import Derived.Laws.StructEq
import Derived.ChangeKeysEq
import Derived.WideKeyRuns
import Derived.KernelRfl
set_option linter.all false
namespace Go.Gm
structure N0 (C:Cfg):Prop where
 eq:VpR C
 map:Vo6 C
 orc:Hl C.P C.G C.orc
section
variable {C:Cfg}{E:Env}{H:Aa}{w:World}
theorem Vj1 {ρ:Operand->Value}{o:Oper}{c:Call}{f:Operand}{g:FuncId}{vs:Array Value}(ho:o.op=.call c)(hc:c.callee=.value f)(hf:ρ f=.func (.func g) #[] vs):execOp ρ o=callFunc g (c.args.map ρ++vs):=by
 unfold execOp;rw[ho];simp only[resolve,hc,Deferred.ofValue,hf,pure_bind,invoke]
 congr 1
 simp
theorem VgU {ρ:Operand->Value}{o:Oper}{c:Call}{f:Operand}{g:FuncId}{vs:Array Value}(ho:o.op=.call c)(hc:c.callee=.value f)(hf:ρ f=.func (.func g) vs #[]):execOp ρ o=callFunc g (vs++c.args.map ρ):=by
 unfold execOp;rw[ho];simp only[resolve,hc,Deferred.ofValue,hf,pure_bind,invoke]
 congr 1
theorem SV (hC:N0 C)(hG:DY C.G E)(hs:Sim E H w){a:Act}{r:Operand->Ab}(hr:∀x,Az E (r x) (a.eval x)){o:Oper}{res:Res}{H':Aa}(h:FX C o.op r H=some (res,H')){next:Act->World->Prop}{Q:Exit->Act->World->Prop}
  (hn:∀E' w' v x,res=.ret x->Az E' x v->Sim E' H' w'->BS E H w E' H' w'->next (a.put o.dst v) w')
  (hp:∀E' w' v x,res=.pan x->Az E' x v->Sim E' H' w'->BS E H w E' H' w'->Q (.panic [{ v,recovered:=false}]) a w'):o.wp C.P a w next Q:=by
 unfold Oper.wp;have skip:∀w',(execOp a.eval o).run C.P w=.ok .skip w'->res=.ret .undef->Sim E H' w'->BS E H w E H' w'->o.upon C.P a next Q ((execOp a.eval o).run C.P w):=by intro w' aC hres h1 h2;rw[aC,Oper.upon_skip];exact hn E w' undef .undef hres (.undef _) h1 h2
 have value:∀v w' E' x,(execOp a.eval o).run C.P w=.ok (.value v) w'->res=.ret x->Az E' x v->Sim E' H' w'->BS E H w E' H' w'->o.upon C.P a next Q ((execOp a.eval o).run C.P w):=by intro v w' E' x aC hres hv h1 h2;rw[aC,Oper.upon_value];exact hn E' w' v x hres hv h1 h2
 cases aF:o.op with
 |store t x v=>
  simp only[aF,FX]at h;split at h
  cases h
  ·rename_i hk;obtain⟨_,hz,_⟩:=CF (P:=C.P) (t:=t) (by simpa using hk);cases hst:Ai (As C.P t) (r x) (r v) H with
   |none=>simp[hst,AA]at h
   |some H1=>simp only[hst,AA,zXb,WE,WY]at h;obtain⟨rfl,rfl⟩:=h;obtain⟨w',h1,h2,h3⟩:=Vh3 hs hz (hr x) (hr v) hst;exact skip w' (by simp[execOp,aF,zXf,h1,Result.andThen]) rfl h2 h3
 |mapUpdate t m k x=>
  simp only[aF,FX]at h;split at h
  ·rename_i kt e hu;split at h
   ·rename_i hk;cases hst:Eu (BM C.P kt) (As C.P kt) (r m) (r k) (r x) H with
    |none=>simp[hst,AA]at h
    |some H1=>simp only[hst,AA,zXb,WE,WY]at h;obtain⟨rfl,rfl⟩:=h;obtain⟨w',h1,h2,h3⟩:=hC.map.upd t kt e E H _ w _ _ _ _ _ _ hu hk hs (hr m) (hr k) (hr x) hst;exact skip w' (by simp[execOp,aF,zXf,h1,Result.andThen]) rfl h2 h3
   cases h
  cases h
 |insert t m k x=>
  simp only[aF,FX]at h;split at h
  ·rename_i kt e hu;split at h
   ·rename_i hk;cases hst:Eu (BM C.P kt) (As C.P kt) (r m) (r k) (r x) H with
    |none=>simp[hst,AA]at h
    |some H1=>simp only[hst,AA,zXb,WE,WY]at h;obtain⟨rfl,rfl⟩:=h;obtain⟨w',h1,h2,h3⟩:=hC.map.upd t kt e E H _ w _ _ _ _ _ _ hu hk hs (hr m) (hr k) (hr x) hst;exact skip w' (by simp[execOp,aF,zXf,h1,Result.andThen]) rfl h2 h3
   cases h
  cases h
 |range t x=>
  simp only[aF,FX]at h;split at h
  ·rename_i hu;cases hst:O9 (r x) H with
   |none=>simp[hst,Cd]at h
   |some p=>obtain⟨z,H1⟩:=p;simp only[hst,Cd,zXb,WE,WY]at h;obtain⟨rfl,rfl⟩:=h;obtain⟨u,w',E',h1,h2,h3,h4⟩:=VhP hs hu (hr x) hst;exact value u w' E' z (by simp[execOp,aF,zXf,h1,Result.andThen]) rfl h2 h3 h4
  cases h
 |next x isStr=>
  simp only[aF,FX]at h;split at h
  ·rename_i lF;cases hst:Pm (r x) H with
   |none=>simp[hst,Cd]at h
   |some p=>obtain⟨z,H1⟩:=p;simp only[hst,Cd,zXb,WE,WY]at h;obtain⟨rfl,rfl⟩:=h;obtain⟨u,w',h1,h2,h3,h4⟩:=Vlu (ty:=o.type) (C:=C) hs (hr x) hst;exact value u w' E z (by simp[execOp,aF,zXf,lF,h1,Result.andThen]) rfl h2 h3 h4
  cases h
 |panic x=>
  simp only[aF,FX]at h;split at h
  rename_i t y hx;simp only[WE,WY]at h;obtain⟨rfl,rfl⟩:=h;have hx':=hr x;rw[hx]at hx';obtain⟨u,hu,hv⟩:=hx'.iface_inv;have aC:(execOp a.eval o).run C.P w=.halt (.panic (.iface t u)) w:=(by have h0:(Instr.panic (.iface t u)).run C.P w=.halt (.panic (.iface t u)) w:=rfl;simp[execOp,aF,hu,zXf,h0,Result.andThen]);rw[aC,Oper.upon_panic];exact hp E w _ _ rfl (.iface hv) hs (.refl _ _ _);cases h
 |call c=>
  simp only[aF,FX]at h;split at h
  ·rename_i hb;split at h
   ·rename_i x y t ty ha ht;have kP:=Vqb ha;have dZ:=Vqb ht;split at h
    ·rename_i e e' hu jF;split at h
     cases h
     ·rename_i hk;have hk1:okT C.P e=true:=(by cases hq:okT C.P e<;>simp_all);have hk2:t=ty:=(by by_cases hq:t=ty;exact hq;exact absurd (.inr hq) hk);subst hk2;by_cases pG:C.mu=true
      ·rw[if_pos pG]at h;cases hst:Gw e (As C.P e) (FW C.P e) (r x) (r y) H with
       |none=>simp[hst,Cd]at h
       |some p=>obtain⟨z,H1⟩:=p;simp only[hst,Cd,zXb,WE,WY]at h;obtain⟨rfl,rfl⟩:=h;have cV:∀s,r y≠.str s:=λs h2=>(by simp[Gw,h2,Cu]at hst);obtain⟨q,w',E',h1,h2,h3,h4⟩:=U3 (ty:=o.type) (u2:=t) hs hu hk1 (hr x) (hr y) (.inl ⟨rfl,cV⟩) (Vhi cV hst);refine value q w' E' z ?_ rfl h2 h3 h4;rw[DU aF hb,kP,dZ,show(#[x,y]:Array Operand).map a.eval = #[a.eval x,a.eval y] from by simp];exact KG h1
      ·rw[if_neg pG]at h;cases hst:AW e (As C.P e) (FW C.P e) (r x) (r y) H with
       |none=>simp[hst,Cd]at h
       |some p=>obtain⟨z,H1⟩:=p;simp only[hst,Cd,zXb,WE,WY]at h;obtain⟨rfl,rfl⟩:=h;have cV:∀q s,Cu (As C.P e) q H≠none->q≠.str s:=λq s h1 h2=>(by subst h2;exact h1 rfl);have hx1:Cu (As C.P e) (r y) H≠none:=λhq=>(by simp[AW,hq]at hst);have hx2:Cu (As C.P e) (r x) H≠none:=λhq=>(by unfold AW at hst;rw[hq]at hst;cases jO:Cu (As C.P e) (r y) H<;>simp[jO]at hst);obtain⟨q,w',E',h1,h2,h3,h4⟩:=Vhh (ty:=o.type) hs hu hk1 (hr x) (hr y) (λs=>cV _ s hx2) (λs=>cV _ s hx1) hst;refine value q w' E' z ?_ rfl h2 h3 h4;rw[DU aF hb,kP,dZ,show(#[x,y]:Array Operand).map a.eval = #[a.eval x,a.eval y] from by simp];exact KG h1
    ·rename_i e hu jF;split at h
     cases h
     ·rename_i hk;have hk1:okT C.P e=true:=(by cases hq:okT C.P e<;>simp_all);cases hst:Vb9 e (As C.P e) (FW C.P e) (r x) (r y) H with
      |none=>simp[hst,Cd]at h
      |some p=>obtain⟨z,H1⟩:=p;simp only[hst,Cd,zXb,WE,WY]at h;obtain⟨rfl,rfl⟩:=h;obtain⟨s,mJ,nH⟩:=Vb8 hst;obtain⟨q,w',E',h1,h2,h3,h4⟩:=U3 (ty:=o.type) (u2:=ty) hs hu hk1 (hr x) (hr y) (.inr ⟨jF,s,mJ⟩) nH;refine value q w' E' z ?_ rfl h2 h3 h4;rw[DU aF hb,kP,dZ,show(#[x,y]:Array Operand).map a.eval = #[a.eval x,a.eval y] from by simp];exact KG h1
    cases h
   cases h
  ·rename_i hb;split at h
   ·rename_i x t ha ht;have kP:=VmX ha;have dZ:=VmX ht;split at h
    ·rename_i e hu;split at h
     cases h
     ·rename_i hk;cases hst:Lo (As C.P e) (Hr C.P e) (r x) H with
      |none=>simp[hst,AA]at h
      |some H1=>simp only[hst,AA,zXb,WE,WY]at h;obtain⟨rfl,rfl⟩:=h;obtain⟨w',h1,h2,h3⟩:=Vjy (ty:=o.type) hs hu (by simpa using hk) (hr x) hst;refine value (.tuple #[]) w' E .undef ?_ rfl (.undef _) h2 h3;rw[DU aF hb,kP,dZ,show(#[x]:Array Operand).map a.eval = #[a.eval x] from by simp];exact KG h1
    cases h
   cases h
  ·rename_i f hf;split at h
   ·rename_i g caps hg;have jB:=hr f;rw[hg]at jB;generalize oH:a.eval f=fv at jB;cases jB with
    |fn pE aP=>
     rename_i vs;have aC:=Vj1 (ρ:=a.eval) aF hf (g:=g) (vs:=vs) oH;have eD:A4 E (c.args.toList.map r++caps) (c.args.map a.eval++vs).toList:=(by rw[Yx,YK];exact A4.append (A4.map _ _ _ λx _=>hr x) ⟨by simpa using pE,λi c v h1 h2=>aP i c v h1 (by simpa using h2)⟩);rw[aC];rcases hC.orc g _ H res H' h E w _ hG hs eD with ⟨h1,h2⟩ | ⟨v,w',h1,E',h2,h3,h4⟩
     ·rw[h1,Oper.upon_enter];refine h2.mono λe w' hh=>?_;obtain⟨E',h3,h4,h5⟩:=hh;cases e with
      |returned v=>cases res with|ret x=>exact hn E' w' v x rfl h3 h4 h5|pan x=>exact h3.elim
      |panicked chain=>
       cases res with
       |ret x=>exact h3.elim
       |pan x=>obtain⟨v,rfl,hv⟩:=h3;exact hp E' w' v x rfl hv h4 h5
      |outgrown=>cases res<;>exact h3.elim
     rw[h1,Oper.upon_value];cases res with|ret x=>exact hn E' w' v x rfl h2 h3 h4|pan x=>exact h2.elim
   ·rename_i g first hg
    have jB:=hr f;rw[hg]at jB;generalize oH:a.eval f=fv at jB;cases jB with
    |bfn pE aP=>
     rename_i vs;have aC:=VgU (ρ:=a.eval) aF hf (g:=g) (vs:=vs) oH;have eD:A4 E (first++c.args.toList.map r) (vs++c.args.map a.eval).toList:=by rw[Yx,YK];exact A4.append ⟨by simpa using pE,λi c v h1 h2=>aP i c v h1 (by simpa using h2)⟩ (A4.map _ _ _ λx _=>hr x)
     rw[aC];rcases hC.orc g _ H res H' h E w _ hG hs eD with ⟨h1,h2⟩ | ⟨v,w',h1,E',h2,h3,h4⟩
     ·rw[h1,Oper.upon_enter];refine h2.mono λe w' hh=>?_;obtain⟨E',h3,h4,h5⟩:=hh;cases e with
      |returned v=>cases res with|ret x=>exact hn E' w' v x rfl h3 h4 h5|pan x=>exact h3.elim
      |panicked chain=>
       cases res with
       |ret x=>exact h3.elim
       |pan x=>obtain⟨v,rfl,hv⟩:=h3;exact hp E' w' v x rfl hv h4 h5
      |outgrown=>cases res<;>exact h3.elim
     rw[h1,Oper.upon_value];cases res with|ret x=>exact hn E' w' v x rfl h2 h3 h4|pan x=>exact h2.elim
   cases h
  cases h
 |_=>simp[aF,FX]at h

end
structure I0 (n:Nat)(E:Env)(H:Aa)(tm:List Ab)(a:Act)(w:World):Prop where
 rel:A4 E tm a.tmps.toList
 len:tm.length=n
 defers:a.defers=[]
 sim:Sim E H w
section
variable {C:Cfg}{E:Env}{H:Aa}{w:World}
theorem Kx {tm:List Ab}{ts:Array Value}(h:A4 E tm ts.toList)(t:Nat):Az E (tm.getD t .undef) (ts.getD t undef):=by
 rw[W6];cases ht:tm[t]? with
 |none=>exact .undef _
 |some x=>
  obtain⟨v,h1,h2⟩:=h.get ht;have:ts.getD t undef=v:=by have eQ:ts[t]? = some v:=(by simpa using h1);simp[WL,eQ]
  rw[this];exact h2
theorem N7 (hG:DY C.G E){tm:List Ab}{a:Act}(h:A4 E tm a.tmps.toList)(x:Operand):Az E (rho C.G tm x) (a.eval x):=by
 cases x with
 |tmp t=>exact Kx h t
 |const v=>exact Vdm E v
 |global g=>simp only[rho,Act.eval];cases hg:C.G g with|none=>exact .undef _|some cs=>exact hG g cs hg
 |func f=>exact .fn rfl λi c v h=>by simp at h
theorem Vle {tm:List Ab}{a:Act}(h:A4 E tm a.tmps.toList){x:Ab}{v:Value}(hv:Az E x v)(d:Option Tmp):A4 E (Ho tm d x) (a.put d v).tmps.toList:=by cases d with|none=>exact h|some d=>simp only[Ho,Act.put,Array.toList_setIfInBounds];exact h.set d hv
theorem OB (a:Act)(d:Option Tmp)(v:Value):(a.put d v).defers=a.defers:=by cases d<;>rfl
theorem I0.put {tm:List Ab}{a:Act}{n:Nat}(h:I0 n E H tm a w){E':Env}{H':Aa}{w':World}(hle:E.le E')(hs:Sim E' H' w'){x:Ab}{v:Value}(hv:Az E' x v)(d:Option Tmp):I0 n E' H' (Ho tm d x) (a.put d v) w':=
 ⟨Vle (h.rel.mono hle) hv d,by cases d<;>simp[Ho,h.len],by rw[OB];exact h.defers,hs⟩
theorem Pb:Az E Cw undef:=.tup (by simp) λi c v h=>by simp at h
theorem OV {tm:List Ab}{a:Act}(h:A4 E tm a.tmps.toList){ops:Array Oper}{o:Oper}{b:Bool}(hw:I3 ops o tm=some b):Region.wanted o (yielded ops a.tmps)=b:=by
 unfold I3 at hw;unfold Region.wanted;cases hg:o.guard with
 |none=>simp[hg]at hw;simp[hw]
 |some p=>
  obtain⟨j,want⟩:=p;simp only[hg]at hw;split at hw
  ·rename_i b' hb';injection hw with hw;subst hw;cases hd:(ops[j]?).bind (·.dst)with
   |none=>simp[hd]at hb'
   |some d=>simp only[hd,zXb,WE]at hb';have hr:=Kx h d;rw[hb']at hr;have hv:=hr.bool_inv;have hlt:d<a.tmps.size:=(by rcases Xj d a.tmps.size with hlt | hge;exact hlt;rw[WL,Zj hge]at hv;cases hv);have bB:a.tmps[d]? = some (.bool b'):=(by rw[WL,Ys hlt]at hv;rw[Ys hlt];simpa using hv);simp only[yielded,hd,zXa,bB];cases b'<;>cases want<;>rfl
  ·rename_i hb';injection hw with hw;subst hw;cases hd:(ops[j]?).bind (·.dst)with
   |none=>simp[hd]at hb'
   |some d=>simp only[hd,zXb,WE]at hb';have hr:=Kx h d;rw[hb']at hr;obtain⟨vs,hv,_⟩:=hr.tup_cells;have hy:yielded ops a.tmps j=none:=(by unfold yielded;rw[hd];simp only[zXa];cases bB:a.tmps[d]? with|none=>rfl|some u=>have:u=.tuple vs:=(by rw[WL,bB]at hv;simpa using hv);subst this;rfl);simp only[hy];rfl
  cases hw
def KOk (C:Cfg)(n:Nat)(E0:Env)(H0:Aa)(w0:World)(out:Res×Aa)(k:List Ab->Aa->Out)(Q:Act->World->Prop):Prop:=
 ∀E tm H a w,DY C.G E->BS E0 H0 w0 E H w->I0 n E H tm a w->k tm H=some out->Q a w
def VmB (C:Cfg)(n:Nat)(E0:Env)(H0:Aa)(w0:World)(out:Res×Aa)(k:Ab->List Ab->Aa->Out)(Q:Exit->Act->World->Prop):Prop:=
 ∀E tm H a w x v,DY C.G E->BS E0 H0 w0 E H w->I0 n E H tm a w->Az E x v->k x tm H=some out->Q (.panic [{ v,recovered:=false}]) a w
theorem VcL (hC:N0 C){n:Nat}{E0:Env}{H0:Aa}{w0:World}{out:Res×Aa}{ops:Array Oper}{k:List Ab->Aa->Out}{kp:Ab->List Ab->Aa->Out}{Q:Exit->Act->World->Prop}
  (hk:KOk C n E0 H0 w0 out k (Q .normal))(cX:VmB C n E0 H0 w0 out kp Q):∀(os:List Oper)(i:Nat)(E:Env)(tm:List Ab)(H:Aa)(a:Act)(w:World),(∀j,j<os.length->ops[i+j]? = os[j]?)->DY C.G E->BS E0 H0 w0 E H w->I0 n E H tm a w->PF C ops os k kp tm H=some out ->
   wpOps C.P ops Q (List.range' i os.length) a w
 |[],i,E,tm,H,a,w,_,hG,st,hf,h=>hk E tm H a w hG st hf h
 |o::os,i,E,tm,H,a,w,ho,hG,st,hf,h=>by
  rw[zXj,List.range'_succ,wpOps_cons];have hi:ops[i]? = some o:=by have:=ho 0 (by simp);simpa using this
  have dK:∀j,j<os.length->ops[i+1+j]? = os[j]? := λj hj=>by have:=ho (j+1) (by simp;omega);rw[show i+1+j=i+(j+1) from by omega,this];rfl
  have ih:=VcL (ops:=ops) hC hk cX os (i+1);unfold wpOp;simp only[hi];simp only[PF]at h;cases hw:I3 ops o tm with
  |none=>simp[hw]at h
  |some b=>
   simp only[hw,zXa]at h;rw[OV hf.rel hw];have hr:=N7 (C:=C) hG hf.rel;cases b with
   |false=>simp only[WB,if_false];have dR:=hf.put (.refl E) hf.sim (x:=Cw) (v:=undef) Pb o.dst;cases hc:cls o.op<;>simp only[hc,gR,gA,gE,WB,if_false,zXa,Ap,Iy]at h<;>exact ih E _ H _ w dK hG st dR h
   |true=>
    simp only[if_true];refine .inl ?_;cases hc:cls o.op with
    |r=>
     simp only[hc,gR,if_true]at h;cases hst:BK C o.op (rho C.G tm) H with
     |none=>simp[hst]at h
     |some z=>simp only[hst,zXa]at h;obtain⟨v,w',E',h1,h2,h3,h4⟩:=VbO hC.eq hC.map hf.sim hr (λ_=>rfl) hst;unfold Oper.wp;rw[h1,Oper.upon_value];exact ih E' _ H _ w' dK (hG.mono h4.le) (st.trans h4) (hf.put h4.le h3 h2 o.dst) h
    |a=>
     simp only[hc,gA,if_true]at h;cases hst:CW C o.op (rho C.G tm) H with
     |none=>simp[hst,Ap]at h
     |some p=>obtain⟨z,H'⟩:=p;simp only[hst,Ap,zXa]at h;obtain⟨B,v,ob,f,rfl,hz,_,h1,h2,h3⟩:=(VbP hf.sim hr hst).ex;obtain⟨l1,l2⟩:=hf.sim.laid ob;obtain⟨t1,t2⟩:=h2.take l1 l2 (W7 _);have g2:=h3 (E.setφ H.length 0 w.heap.size) H.length (by simp[Env.setφ]);rw[<-hz]at g2;unfold Oper.wp;rw[h1,Oper.upon_value];exact ih _ _ _ _ _ dK (hG.mono t2.le) (st.trans t2) (hf.put t2.le t1 g2 o.dst) h
    |e=>
     simp only[hc,gE,if_true]at h;cases hst:FX C o.op (rho C.G tm) H with
     |none=>simp[hst,Iy]at h
     |some p=>obtain⟨res,H'⟩:=p;simp only[hst,Iy,zXa]at h;refine SV hC hG hf.sim hr hst (λE' w' v x hres hv h1 h2=>?_) (λE' w' v x hres hv h1 h2=>?_);subst hres;exact ih E' _ H' _ w' dK (hG.mono h2.le) (st.trans h2) (hf.put h2.le h1 hv o.dst) h;subst hres;exact cX E' tm H' a w' x v (hG.mono h2.le) (st.trans h2) ⟨hf.rel.mono h2.le,hf.len,hf.defers,h1⟩ hv h

end
def Vqc (E:Env):Vhs->Exit->Prop
 |.normal,.normal=>True
 |.exit i,.exit j=>i=j
 |.ret,.ret=>True
 |.pan x,.panic chain=>∃v,chain=[{ v,recovered:=false}]/\Az E x v
 |_,_=>False
def UA (C:Cfg)(n:Nat)(E0:Env)(H0:Aa)(w0:World)(out:Res×Aa)(K:Sm)(e:Exit)(a:Act)(w:World):Prop:=
 ∃E H tm x,DY C.G E/\BS E0 H0 w0 E H w/\I0 n E H tm a w/\Vqc E x e/\K x tm H=some out
section
variable {C:Cfg}{n:Nat}{E0:Env}{H0:Aa}{w0:World}{out:Res×Aa}
theorem UA.mk {K:Sm}{E:Env}{H:Aa}{tm:List Ab}{a:Act}{w:World}{x:Vhs}{e:Exit}(hG:DY C.G E)(st:BS E0 H0 w0 E H w)(hf:I0 n E H tm a w)(hx:Vqc E x e)(h:K x tm H=some out):UA C n E0 H0 w0 out K e a w:=
 ⟨E,H,tm,x,hG,st,hf,hx,h⟩
theorem Vfp (L:zAb)(tm:List Ab)(n i:Nat):(Pd n L (Jd L tm)).getD i .undef=.undef\/(Pd n L (Jd L tm)).getD i .undef=tm.getD i .undef:=by
 unfold Pd Jd;rw[W6,WW];by_cases hi:i<n;rw[Xv hi];simp only[zXb,Option.getD_some];cases hL:L.idxOf? i with|none=>exact .inl rfl|some j=>right;simp only[];have hj:L[j]? = some i:=(by have:=List.idxOf?_eq_some_iff.1 hL;obtain⟨h1,h2,_⟩:=this;rw[W4 h1];simpa using h2);rw[W6,WW,hj];simp
 rw[zYb (by simp;omega)];exact .inl rfl
theorem VkP {E:Env}{tm:List Ab}{ts:List Value}(h:A4 E tm ts)(L:zAb)(n:Nat)(hn:tm.length=n):A4 E (Pd n L (Jd L tm)) ts:=by
 have hl:(Pd n L (Jd L tm)).length=n:=by simp[Pd]
 refine⟨by rw[hl,<-hn];exact h.1,λi c v h1 h2=>?_⟩;have hc:c=(Pd n L (Jd L tm)).getD i .undef:=by rw[W6,h1];rfl
 rcases Vfp L tm n i with h3 | h3;rw[hc,h3];exact .undef _
 ·rw[hc,h3];have hi:i<tm.length:=by have:=(W5.1 h1).1;omega
  rw[W6,W4 hi];exact h.2 i _ v (W4 hi) h2
def Vdq (C:Cfg):Prop:=
 ∀(pb:Bool)(n:Nat)(E0:Env)(H0:Aa)(w0:World)(out:Res×Aa)(ops:Array Oper)(perm:zAb)(k:List Ab->Aa->Out)(kp:Ab->List Ab->Aa->Out)(Q:Exit->Act->World->Prop)(id:Nat)(E:Env)(tm:List Ab)(H:Aa)(a:Act)(w:World),
  KOk C n E0 H0 w0 out k (Q .normal)->VmB C n E0 H0 w0 out kp Q->KS ops perm=true->DY C.G E->BS E0 H0 w0 E H w->I0 n E H tm a w ->
  GW C pb ops (λi j=>((Region.before ops).getD j 0).testBit i) k kp perm [] H H tm=some out->(Code.region id ops true).wp C.P Q a w
theorem Vat (hC:N0 C){ops:Array Oper}{k:List Ab->Aa->Out}{kp:Ab->List Ab->Aa->Out}{Q:Exit->Act->World->Prop}{id:Nat}{E:Env}{tm:List Ab}{H:Aa}{a:Act}{w:World}
  (hk:KOk C n E0 H0 w0 out k (Q .normal))(cX:VmB C n E0 H0 w0 out kp Q)(hG:DY C.G E)(st:BS E0 H0 w0 E H w)(hf:I0 n E H tm a w)(h:PF C ops ops.toList k kp tm H=some out):(Code.region id ops false).wp C.P Q a w:=by
 refine wp_region ?_;have:=VcL (Q:=Q) hC hk cX ops.toList 0 E tm H a w (λj hj=>by simp) hG st hf h;rw[List.range_eq_range'];simpa using this
theorem Vaa {c:Code}{P:Program}{Q:Exit->Act->World->Prop}(J:Nat->Act->World->Prop)(h0:∀a w,¬J 0 a w)(step:∀n a w,J (n+1) a w->c.wp P (Exit.then (J n) Q) a w):∀(m:Nat)(a:Act)(w:World),J m a w->(Code.loop c).wp P Q a w:=by
 intro m a w hJ b k cs;have key:∀n a w,J n a w->∃e a' w',Q e a' w'/\Arrives P (lone (b.at a (.code c::.inLoop c::k)) cs w) b k cs e a' w':=by
  intro n
  induction n with
  |zero=>intro a w h;exact absurd h (h0 a w)
  |succ n ih=>
   intro a w h;obtain⟨e,a₁,w₁,hq,gM⟩:=step n a w h b (.inLoop c::k) cs;cases e with
   |normal=>obtain⟨e₂,a₂,w₂,Z8,sS⟩:=ih a₁ w₁ hq;exact⟨e₂,a₂,w₂,Z8,.of_steps (Steps.trans gM (.one step_inLoop)) sS⟩
   |exit id=>exact⟨_,a₁,w₁,hq,.pass (x:=.inLoop c) rfl (λ_ _=>.inl (by simp)) gM⟩
   |goto l=>exact⟨_,a₁,w₁,hq,.pass (x:=.inLoop c) rfl (λ_ _=>.inl (by simp)) gM⟩
   |ret=>exact⟨_,a₁,w₁,hq,.pass (x:=.inLoop c) rfl (λ_ _=>.inl (by simp)) gM⟩
   |panic ch=>exact⟨_,a₁,w₁,hq,.pass (x:=.inLoop c) rfl (λ_ _=>.inl (by simp)) gM⟩
   |outgrown=>exact⟨_,a₁,w₁,hq,.pass (x:=.inLoop c) rfl (λ_ _=>.inl (by simp)) gM⟩
 obtain⟨e,a',w',hq,gM⟩:=key m a w hJ;exact⟨e,a',w',hq,.of_steps (.one step_loop) gM⟩
theorem QF {k:List Ab->Aa->Out}{K:Sm}{N:Act->World->Prop}(hN:∀E H tm a w,DY C.G E->BS E0 H0 w0 E H w->I0 n E H tm a w->k tm H=some out->N a w):∀e a w,UA C n E0 H0 w0 out (Vkk k K) e a w->Exit.then N (UA C n E0 H0 w0 out K) e a w:=by
 rintro e a w ⟨E,H,tm,x,hG,st,hf,hx,h⟩;cases x<;>cases e<;>first | exact hx.elim | skip
 exact hN E H tm a w hG st hf h;exact⟨E,H,tm,_,hG,st,hf,hx,h⟩;exact⟨E,H,tm,_,hG,st,hf,hx,h⟩;exact⟨E,H,tm,_,hG,st,hf,hx,h⟩
theorem VbY {E:Env}{H:Aa}{tm:List Ab}{a:Act}{w:World}(hf:I0 n E H tm a w)(L:zAb):I0 n E H (Pd n L (Jd L tm)) a w:=
 ⟨VkP hf.rel L n hf.len,by simp[Pd],hf.defers,hf.sim⟩
theorem Ub (hC:N0 C)(hD:Vdq C):∀(c:Code)(ann:Ann)(K:Sm)(E:Env)(tm:List Ab)(H:Aa)(a:Act)(w:World),DY C.G E->BS E0 H0 w0 E H w->I0 n E H tm a w ->
  evC C n c ann K tm H=some out->c.wp C.P (UA C n E0 H0 w0 out K) a w:=by
 intro c
 induction c with
 |skip=>intro ann K E tm H a w hG st hf h;exact wp_skip (.mk hG st hf (x:=.normal) trivial (by simpa only[evC]using h))
 |label l=>intro ann K E tm H a w hG st hf h;exact wp_label (.mk hG st hf (x:=.normal) trivial (by simpa only[evC]using h))
 |ret=>intro ann K E tm H a w hG st hf h;exact wp_ret (.mk hG st hf (x:=.ret) trivial (by simpa only[evC]using h))
 |exit id=>intro ann K E tm H a w hG st hf h;exact wp_exit (.mk hG st hf (x:=.exit id) rfl (by simpa only[evC]using h))
 |region id ops draw=>
  intro ann K E tm H a w hG st hf h;have hk:KOk C n E0 H0 w0 out (λtm H=>K .normal tm H) (UA C n E0 H0 w0 out K .normal):=λE tm H a w hG st hf h=>.mk hG st hf (x:=.normal) trivial h;have cX:VmB C n E0 H0 w0 out (λv tm H=>K (.pan v) tm H) (UA C n E0 H0 w0 out K):=λE tm H a w x v hG st hf hv h=>.mk hG st hf (x:=.pan x) ⟨v,rfl,hv⟩ h;cases draw with
  |false=>exact Vat hC hk cX hG st hf (by simpa only[evC]using h)
  |true=>
   cases ann with
   |reg perm=>
    simp only[evC]at h;split at h
    rename_i hok;exact hD _ n E0 H0 w0 out ops perm _ _ _ id E tm H a w hk cX hok hG st hf h;cases h
   |regp perm=>
    simp only[evC]at h;split at h
    rename_i hok;exact hD _ n E0 H0 w0 out ops perm _ _ _ id E tm H a w hk cX hok hG st hf h;cases h
   |_=>simp[evC]at h
 |seq x y ihx ihy=>intro ann K E tm H a w hG st hf h;cases ann with|tw p q=>simp only[evC]at h;refine wp_seq (wp_mono (ihx p _ E tm H a w hG st hf h) (QF λE H tm a w hG st hf h=>ihy q K E tm H a w hG st hf h))|join L p q=>simp only[evC,AJ]at h;refine wp_seq (wp_mono (ihx p _ E tm H a w hG st hf h) (QF λE H tm a w hG st hf h=>ihy q K E _ H a w hG st (VbY hf L) h))|_=>simp[evC]at h
 |cond c x y ihx ihy=>
  intro ann K E tm H a w hG st hf h;cases ann with
  |tw p q=>
   simp only[evC]at h;unfold Ak at h;split at h
   rename_i t ht;have hr:=N7 (C:=C) hG hf.rel c;rw[ht]at hr;have hc:=hr.bool_inv;cases t with|true=>exact wp_cond hc (ihx p K E tm H a w hG st hf (by simpa using h))|false=>exact wp_cond hc (ihy q K E tm H a w hG st hf (by simpa using h))
   ·rename_i ht;have hr:=N7 (C:=C) hG hf.rel c;rw[ht]at hr;obtain⟨t,hc⟩:∃t,a.eval c=.bool t:=(by generalize a.eval c=u at hr;cases hr;exact⟨_,rfl⟩);split at h
    rename_i heq;cases t with|true=>exact wp_cond hc (ihx p K E tm H a w hG st hf h)|false=>exact wp_cond hc (ihy q K E tm H a w hG st hf (by rw[<-heq];exact h))
    cases h
   cases h
  |_=>simp[evC]at h
 |block id x ih=>
  intro ann K E tm H a w hG st hf h;cases ann with
  |one p=>
   simp only[evC]at h;refine wp_block (wp_mono (ih p _ E tm H a w hG st hf h) ?_);rintro e a w ⟨E,H,tm,x,hG,st,hf,hx,h⟩;cases x<;>cases e<;>first | exact hx.elim | skip
   exact⟨E,H,tm,.normal,hG,st,hf,trivial,h⟩;rename_i i j;have hx':i=j:=hx;subst hx';simp only[VfT]at h;simp only[Exit.inBlock];split;rename_i hid;rw[if_pos hid]at h;exact⟨E,H,tm,.normal,hG,st,hf,trivial,h⟩;rename_i hid;rw[if_neg hid]at h;exact⟨E,H,tm,.exit i,hG,st,hf,rfl,h⟩;exact⟨E,H,tm,.ret,hG,st,hf,trivial,h⟩;exact⟨E,H,tm,_,hG,st,hf,hx,h⟩
  |_=>simp[evC]at h
 |loop x ih=>
  intro ann K E tm H a w hG st hf h;cases ann with
  |loop L p=>
   simp only[evC]at h
   let G:=λ(rec:List Ab->Aa->Out) (vs:List Ab) (H:Aa)=>evC C n x p (Vkk (λtm H=>rec (Jd L tm) H) K) (Pd n L vs) H
   refine Vaa (λm a w=>∃E tm H,DY C.G E/\BS E0 H0 w0 E H w/\I0 n E H tm a w/\Al G m (Jd L tm) H=some out) ?_ ?_ AU a w ⟨E,tm,H,hG,st,hf,h⟩;rintro a w ⟨E,tm,H,_,_,_,h⟩;simp[Al]at h;rintro m a w ⟨E,tm,H,hG,st,hf,h⟩;simp only[Al,G]at h;exact wp_mono (ih p _ E _ H a w hG st (VbY hf L) h) (QF λE H tm a w hG st hf h=>⟨E,tm,H,hG,st,hf,h⟩)
  |_=>simp[evC]at h
 |_=>intro ann K E tm H a w hG st hf h;cases ann<;>simp[evC]at h

end
inductive RL (n:Nat):Ab->Prop
 |undef:RL n .undef
 |bool (b:Bool):RL n (.bool b)
 |ubool:RL n .ubool
 |int (k:IntKind) (i:Int):RL n (.int k i)
 |str (s:zAa):RL n (.str s)
 |nilp:RL n .nilp
 |ptr {id g off:Nat} (h:id<n):RL n (.ptr id g off)
 |cptr {cells:List Ab} {off:Nat} (h:∀(i:Nat)(c:Ab),cells[i]? = some c->RL n c):RL n (.cptr cells off)
 |sl {es:List (List Ab)} {tk:Tok} (ht:∀t,tk=.own t->t<n) (h:∀(i:Nat)(e:List Ab)(j:Nat)(c:Ab),es[i]? = some e->e[j]? = some c->RL n c):RL n (.sl es tk)
 |ms {id g off len cap sz:Nat} {ex:Bool} (h:id<n):RL n (.ms id g off len cap sz ex)
 |fn {f:FuncId} {caps:List Ab} (h:∀(i:Nat)(c:Ab),caps[i]? = some c->RL n c):RL n (.fn f caps)
 |bfn {f:FuncId} {first:List Ab} (h:∀(i:Nat)(c:Ab),first[i]? = some c->RL n c):RL n (.bfn f first)
 |nilfn:RL n .nilfn
 |mp {id:Nat} (h:id<n):RL n (.mp id)
 |nilmap:RL n .nilmap
 |iface {t:TypeId} {x:Ab} (h:RL n x):RL n (.iface t x)
 |nilif:RL n .nilif
 |agg {cs:List Ab} (h:∀(i:Nat)(c:Ab),cs[i]? = some c->RL n c):RL n (.agg cs)
 |tup {cs:List Ab} (h:∀(i:Nat)(c:Ab),cs[i]? = some c->RL n c):RL n (.tup cs)
theorem Hk {α β:Type}{xs:List α}{vs:Array β}(h:xs.length=vs.size){i:Nat}{c:α}(hc:xs[i]? = some c):∃v,vs[i]? = some v:=by have:i<xs.length:=(W5.1 hc).1;exact⟨vs[i]'(by omega),by simp[show i<vs.size from by omega]⟩
theorem Az.rl {E:Env}{n:Nat}(hd:∀id g b,E.φ id g=some b->id<n){x:Ab}{v:Value}(h:Az E x v):RL n x:=by
 induction h with
 |undef v=>exact .undef
 |bool b=>exact .bool b
 |ubool b=>exact .ubool
 |int k i=>exact .int k i
 |str s=>exact .str s
 |nilp=>exact .nilp
 |ptr h=>exact .ptr (hd _ _ _ h)
 |cptr f hI hm hv ih=>exact .cptr ih
 |sl0 ht ha=>refine .sl (λt e=>?_) (λi e j c h=>by simp at h);subst e;obtain⟨b,h1,_⟩:=ht;exact hd _ _ _ h1
 |sl f hl hI hm hv hc ht ih=>refine .sl (λt e=>?_) ih;subst e;obtain⟨b,h1,_⟩:=ht;exact hd _ _ _ h1
 |ms h _ _ _ _=>exact .ms (hd _ _ _ h)
 |fn hn hv ih=>exact .fn λi c hc=>by obtain⟨v,aP⟩:=Hk hn hc;exact ih i c v hc aP
 |bfn hn hv ih=>exact .bfn λi c hc=>by obtain⟨v,aP⟩:=Hk hn hc;exact ih i c v hc aP
 |nilfn=>exact .nilfn
 |mp h=>exact .mp (hd _ _ _ h)
 |nilmap=>exact .nilmap
 |iface _ ih=>exact .iface ih
 |nilif=>exact .nilif
 |agg hn hv ih=>exact .agg λi c hc=>by obtain⟨v,aP⟩:=Hk hn hc;exact ih i c v hc aP
 |tup hn hv ih=>exact .tup λi c hc=>by obtain⟨v,aP⟩:=Hk hn hc;exact ih i c v hc aP
theorem Az.cut {E E':Env}{n:Nat}(hφ:∀id g b,id<n->E.φ id g=some b->E'.φ id g=some b)(hκ:∀id g b,id<n->E.κ id g=some b->E'.κ id g=some b)(hI:∀b o v,E.I b o=some v->E'.I b o=some v)
  {x:Ab}{v:Value}(h:Az E x v):RL n x->Az E' x v:=by
 induction h with
 |undef v=>exact λ_=>.undef v
 |bool b=>exact λ_=>.bool b
 |ubool b=>exact λ_=>.ubool b
 |int k i=>exact λ_=>.int k i
 |str s=>exact λ_=>.str s
 |nilp=>exact λ_=>.nilp
 |ptr h=>intro r;cases r with | ptr hl=>exact .ptr (hφ _ _ _ hl h)
 |cptr f hI' hm hv ih=>intro r;cases r with | cptr hl=>exact .cptr f (λi hi=>hI _ _ _ (hI' i hi)) hm (λi c hc=>ih i c hc (hl i c hc))
 |sl0 ht ha=>
  intro r;rename_i tk a cap;cases r with
  |sl hl _=>
   refine .sl0 ?_ ha;cases tk with
   |no=>trivial
   |ti=>exact ht
   |own t=>obtain⟨b,h1,h2,h3⟩:=ht;exact⟨b,hφ _ _ _ (hl t rfl) h1,hκ _ _ _ (hl t rfl) h2,h3⟩
 |sl f hl hI' hm hv hc ht ih=>
  intro r;rename_i es tk b o s cap;cases r with
  |sl hlt hr=>
   refine .sl f hl (λi j hi hj=>hI _ _ _ (hI' i j hi hj)) hm (λi e j c h1 h2=>ih i e j c h1 h2 (hr i e j c h1 h2)) hc ?_;cases tk with
   |no=>trivial
   |ti=>exact ht
   |own t=>obtain⟨b,h1,h2,h3⟩:=ht;exact⟨b,hφ _ _ _ (hlt t rfl) h1,hκ _ _ _ (hlt t rfl) h2,h3⟩
 |ms h hc hl he ho hk=>intro r;cases r with | ms dQ=>exact .ms (hφ _ _ _ dQ h) hc hl he ho (λa b=>⟨hκ _ _ _ dQ (hk a b).1,(hk a b).2⟩)
 |fn hn hv ih=>intro r;cases r with | fn hl=>exact .fn hn λi c v h1 h2=>ih i c v h1 h2 (hl i c h1)
 |bfn hn hv ih=>intro r;cases r with | bfn hl=>exact .bfn hn λi c v h1 h2=>ih i c v h1 h2 (hl i c h1)
 |nilfn=>exact λ_=>.nilfn
 |mp h=>intro r;cases r with | mp hl=>exact .mp (hφ _ _ _ hl h)
 |nilmap=>exact λ_=>.nilmap
 |iface _ ih=>intro r;cases r with | iface hl=>exact .iface (ih hl)
 |nilif=>exact λ_=>.nilif
 |agg hn hv ih=>intro r;cases r with | agg hl=>exact .agg hn λi c v h1 h2=>ih i c v h1 h2 (hl i c h1)
 |tup hn hv ih=>intro r;cases r with | tup hl=>exact .tup hn λi c v h1 h2=>ih i c v h1 h2 (hl i c h1)
section
variable {C:Cfg}
open Classical in
noncomputable def Env.cut (E:Env)(H:Aa)(w:World)(n:Nat):Env where
 φ:=λi g=>if i<n then E.φ i g else none
 κ:=λi g=>if i<n then E.κ i g else none
 I:=λb o=>match E.I b o with
  |some v=>some v
  |none=>if ∃id,n<=id/\loc E H id=some b then w.cell? ⟨b,o,none⟩else none
theorem Sim.cut {E0 E:Env}{H0 H:Aa}{w0 w:World}(hs0:Sim E0 H0 w0)(hs:Sim E H w)(st:BS E0 H0 w0 E H w)(ht:H.take H0.length=H0):Sim (E.cut H w H0.length) H0 w/\BS E0 H0 w0 (E.cut H w H0.length) H0 w:=by
 have bB:∀i,i<H0.length->H[i]? = H0[i]? := λi hi=>by rw[<-ht,Xx hi]
 have hI:∀b o v,E.I b o=some v->(E.cut H w H0.length).I b o=some v:=λb o v h=>by simp[Env.cut,h]
 have hφ:∀id g b,id<H0.length->E.φ id g=some b->(E.cut H w H0.length).φ id g=some b:=λid g b h1 h2=>by simp[Env.cut,h1,h2]
 have hκ:∀id g b,id<H0.length->E.κ id g=some b->(E.cut H w H0.length).κ id g=some b:=λid g b h1 h2=>by simp[Env.cut,h1,h2]
 have hφ':∀id g b,(E.cut H w H0.length).φ id g=some b->id<H0.length/\E.φ id g=some b:=λid g b h=>by
  simp only[Env.cut]at h;split at h
  rename_i h1;exact⟨h1,h⟩;cases h
 have hκ':∀id g b,(E.cut H w H0.length).κ id g=some b->id<H0.length/\E.κ id g=some b:=λid g b h=>by
  simp only[Env.cut]at h;split at h
  rename_i h1;exact⟨h1,h⟩;cases h
 have hle:E0.le (E.cut H w H0.length):=⟨λid g b h=>hφ id g b (hs0.dom _ _ _ h) (st.le.φ _ _ _ h),λid g b h=>hκ id g b (hs0.domk _ _ _ h) (st.le.κ _ _ _ h),λb o v h=>hI _ _ _ (st.le.I _ _ _ h)⟩;have hIkeep:∀i b,i<H0.length->loc E H i=some b->∀o,(E.cut H w H0.length).I b o=E.I b o:=by intro i b hi hl o;simp only[Env.cut];cases hx:E.I b o with|some v=>rfl|none=>simp only[];rw[if_neg];rintro⟨id,h1,h2⟩;have:=hs.inj i id b hl h2;omega
 have locB':∀i B,i<H0.length->C9 (E.cut H w H0.length) i B=C9 E i B:=by intro i B hi;cases B<;>simp[C9,Env.cut,hi]
 have loc':∀i b,loc (E.cut H w H0.length) H0 i=some b->i<H0.length/\loc E H i=some b:=by intro i b hl;unfold loc at hl⊢;cases hH:H0[i]? with|none=>simp[hH]at hl|some B=>have hi:i<H0.length:=(W5.1 hH).1;rw[hH]at hl;refine⟨hi,?_⟩;rw[bB i hi,hH];simp only[zXa]at hl⊢;rw[<-locB' i B hi];exact hl
 constructor
 ·refine⟨λi B hB=>?_,λi g b h=>(hφ' i g b h).1,λi g b h=>(hκ' i g b h).1,λi B n hB hn g hg=>?_,λi i' b h1 h2=>hs.inj i i' b (loc' i b h1).2 (loc' i' b h2).2,λb o v hv=>?_,λb cs hf=>⟨(hs.fix b cs hf).1,(hs.fix b cs hf).2.1.imp λv hv=>hI _ _ _ hv,λi hi=>(hs.fix b cs hf).2.2 i (loc' i b hi).2⟩⟩
  ·have hi:i<H0.length:=(W5.1 hB).1;have hB0:=hs0.blk i B hB;have hB1:=hs.blk i B (by rw[bB i hi];exact hB);have cM:∀b,C9 E i B=some b->loc E H i=some b:=λb hb=>(by unfold loc;rw[bB i hi,hB];exact hb);cases B with
   |dead=>trivial
   |cel g cells=>obtain⟨b,cs,t,h1,h2,h3,h4⟩:=hB1;obtain⟨b0,cs0,t0,k1,k2,k3,k4⟩:=hB0;refine⟨b,cs,t,hφ _ _ _ hi h1,h2,⟨h3.1,λj c v hc hv=>?_⟩,λo=>by rw[hIkeep i b hi (cM b h1)];exact h4 o⟩;obtain⟨v0,_,hv0⟩:=k3.get hc;exact(h3.2 j c v hc hv).cut hφ hκ hI (hv0.rl hs0.dom)
   |typ t cells=>obtain⟨b,cs,h1,h2,h3,h4⟩:=hB1;obtain⟨b0,cs0,k1,k2,k3,k4⟩:=hB0;refine⟨b,cs,hφ _ _ _ hi h1,h2,⟨h3.1,λj c v hc hv=>?_⟩,λo=>by rw[hIkeep i b hi (cM b h1)];exact h4 o⟩;obtain⟨v0,_,hv0⟩:=k3.get hc;exact(h3.2 j c v hc hv).cut hφ hκ hI (hv0.rl hs0.dom)
   |tok n e sz=>obtain⟨b,cap,cs,h1,h2,h3,h4,h5,h6,h7⟩:=hB1;exact⟨b,cap,cs,hφ _ _ _ hi h1,hκ _ _ _ hi h2,h3,h4,h5,h6,λo ho=>by rw[hIkeep i b hi (cM b h1)];exact h7 o ho⟩
   |buf g cells e sz=>obtain⟨b,cap,cs,h1,h2,h3,h4,h5,h6,h7,h8⟩:=hB1;obtain⟨b0,cap0,cs0,k1,k2,k3,k4,k5,k6,k7,k8⟩:=hB0;refine⟨b,cap,cs,hφ _ _ _ hi h1,hκ _ _ _ hi h2,h3,h4,h5,h6,⟨h7.1,λj c v hc hv=>?_⟩,λo=>by rw[hIkeep i b hi (cM b h1)];exact h8 o⟩;obtain⟨v0,_,hv0⟩:=k7.get hc;exact(h7.2 j c v hc hv).cut hφ hκ hI (hv0.rl hs0.dom)
   |map es=>obtain⟨b,en,ck,h1,h2,h3,h4⟩:=hB1;obtain⟨b0,en0,ck0,k1,k2,k3,k4⟩:=hB0;refine⟨b,en,ck,hφ _ _ _ hi h1,h2,h3,λj k v hj=>?_⟩;obtain⟨e,q1,q2,q3⟩:=h4 j k v hj;obtain⟨e0,r1,r2,r3⟩:=k4 j k v hj;exact⟨e,q1,q2.cut hφ hκ hI (r2.rl hs0.dom),q3.cut hφ hκ hI (r3.rl hs0.dom)⟩
   |iter s pos=>obtain⟨b,h1,h2⟩:=hB1;exact⟨b,hφ _ _ _ hi h1,h2⟩
  have hi:i<H0.length:=(W5.1 hB).1;obtain⟨h1,h2⟩:=hs.late i B n (by rw[bB i hi];exact hB) hn g hg;exact⟨by simp[Env.cut,h1],by simp[Env.cut,h2]⟩
  ·simp only[Env.cut]at hv;cases hx:E.I b o with
   |some u=>rw[hx]at hv;simp only[WE]at hv;subst hv;exact hs.imm _ _ _ hx
   |none=>
    rw[hx]at hv;simp only[]at hv;split at hv
    exact hv;cases hv
 ·refine⟨hle,st.os,st.tape,st.output,st.size,st.frame,λb ⟨i,hi⟩=>st.own b ⟨i,(loc' i b hi).2⟩,λb o hb ho=>?_⟩;rw[<-st.imm b o hb ho];simp only[Env.cut];cases hx:E.I b o with
  |some v=>rfl
  |none=>simp only[];rw[if_neg];rintro⟨id,h1,h2⟩;rcases st.own b ⟨id,h2⟩with h3 | h3;exact ho h3;omega
theorem VcC {E:Env}{n:Nat}{x:Ab}{v:Value}(h:Az E x v):BN x=true->RL n x:=by
 induction h with
 |undef v=>intro h;simp[BN]at h
 |bool b=>exact λ_=>.bool b
 |ubool b=>intro h;simp[BN]at h
 |int k i=>exact λ_=>.int k i
 |str s=>exact λ_=>.str s
 |nilp=>exact λ_=>.nilp
 |ptr h=>intro h;simp[BN]at h
 |cptr f hI hm hv ih=>exact λ_=>.cptr λi c hc=>ih i c hc (hm i c hc)
 |sl0 ht ha=>rename_i tk a cap;intro h;exact .sl (λt e=>by subst e;simp[BN]at h) (λi e j c h=>by simp at h)
 |sl f hl hI hm hv hc ht ih=>rename_i es tk b o s cap;intro h;exact .sl (λt e=>by subst e;simp[BN]at h) (λi e j c h1 h2=>ih i e j c h1 h2 (hm i e j c h1 h2))
 |ms _ _ _ _ _=>intro h;simp[BN]at h
 |fn _ _ _=>intro h;simp[BN]at h
 |bfn _ _ _=>intro h;simp[BN]at h
 |nilfn=>exact λ_=>.nilfn
 |mp _=>intro h;simp[BN]at h
 |nilmap=>exact λ_=>.nilmap
 |iface _ _=>intro h;simp[BN]at h
 |nilif=>exact λ_=>.nilif
 |agg _ _ _=>intro h;simp[BN]at h
 |tup _ _ _=>intro h;simp[BN]at h
theorem Vm5 {p:Ab->Bool}{l:List Ab}(h:l.all p=true){c:Ab}(hc:c∈l):p c=true:=WO.1 h c hc
theorem Vko {E:Env}{H:Aa}{w:World}{n:Nat}(hs:Sim E H w):∀d,(∀x x' v,frz H n d x=some x'->Az E x v->Az (E.cut H w n) x' v)/\(∀xs xs' vs,G3 H n d xs=some xs'->A4 E xs vs->A4 (E.cut H w n) xs' vs):=by
 have hI:∀b o v,E.I b o=some v->(E.cut H w n).I b o=some v:=λb o v h=>by simp[Env.cut,h]
 have hφ:∀id g b,id<n->E.φ id g=some b->(E.cut H w n).φ id g=some b:=λid g b h1 h2=>by simp[Env.cut,h1,h2]
 have hκ:∀id g b,id<n->E.κ id g=some b->(E.cut H w n).κ id g=some b:=λid g b h1 h2=>by simp[Env.cut,h1,h2]
 intro d
 induction d with
 |zero=>exact⟨λx x' v h=>by simp[frz]at h,λx x' v h=>by simp[G3]at h⟩
 |succ d ih=>
  obtain⟨ih1,ih2⟩:=ih;constructor
  ·intro x x' v h hx;have plain:RL n x->x'=x->Az (E.cut H w n) x' v:=λh1 h2=>(by rw[h2];exact hx.cut hφ hκ hI h1);cases x with
   |undef=>simp[frz]at h
   |ptr id g off=>
    simp only[frz]at h;split at h
    rename_i hid;injection h with h;exact plain (.ptr hid) h.symm;cases h
   |mp id=>
    simp only[frz]at h;split at h
    rename_i hid;injection h with h;exact plain (.mp hid) h.symm;cases h
   |ms id g off len cap sz ex=>
    simp only[frz]at h;split at h
    rename_i hid;injection h with h;exact plain (.ms hid) h.symm
    ·rename_i hid;cases hg:AC H id g with
     |none=>simp[hg]at h
     |some cs=>
      simp only[hg,zXa]at h;split at h
      ·rename_i hle;cases hf:G3 H n d ((cs.drop off).take (len*sz))with
       |none=>simp[hf]at h
       |some cs'=>
        simp only[hf,zXa]at h;split at h
        ·rename_i gY;injection h with h;subst h;obtain⟨⟨B0,hH,hlB,_⟩,b,vs,t,q1,q2,q3,Z9,q4⟩:=GU hs hg;have hrel:=ih2 _ _ (((vs.toList.take cs.length).drop off).take (len*sz)) hf ((q3.drop off).take (len*sz));have dQ:cs'.length=len*sz:=(by rw[hrel.1,<-((q3.drop off).take (len*sz)).1,WN,WS];omega);obtain⟨k1,k2⟩:=Lp sz len cs' dQ;have k3:=Rm sz len cs';cases hx with
         |ms p1 p2 p3 p4 p5 p6=>
          rename_i off' cap' b';rw[q1]at p1;cases p1;have kT:LL (E.cut H w n) (if (ex&&decide (cap=len))=true then .ti else .no) (some ⟨b,off',none⟩) len cap':=by
           split;rename_i hc;simp only[WG,zXe]at hc;show cap'=len;rw[p4 hc.1];exact hc.2
           ·trivial
          have dU:loc E H id=some b:=(by unfold loc;rw[hH];simp only[zXa];rw[hlB];exact q1);have hIc:∀o u,w.cell? ⟨b,o,none⟩=some u->(E.cut H w n).I b o=some u:=(by intro o u hu;simp only[Env.cut,q4 o];rw[if_pos ⟨id,by omega,dU⟩];exact hu);have sB:(if ex=true/\cap=len then Tok.ti else Tok.no)=(if (ex&&decide (cap=len))=true then .ti else .no):=(by simp);rw[sB];by_cases hz:len=0;subst hz;have:GY sz 0 cs'=[]:=rfl;rw[this];exact .sl0 kT (λh=>by cases h)
          ·have key:∀(i j:Nat)(e:List Ab)(c:Ab),(GY sz len cs')[i]? = some e->e[j]? = some c->∃u,(E.cut H w n).I b (off'+(i*sz+j))=some u/\Az (E.cut H w n) c u/\BN c=true:=(by intro i j e c h1 h2;have h3:=Fu _ i j e c k2 h1 h2;rw[k1]at h3;obtain⟨u,h4,h5⟩:=hrel.get h3;refine⟨u,hIc _ _ ?_,h5,Vm5 gY (Xa h3)⟩;rw[Bm q2,p5 (by omega)];have:=Kk h4;rw[Xh]at this;have:=IV this;simpa using this);have:=Az.sl (E:=E.cut H w n) (es:=GY sz len cs') (b:=b) (o:=off') (s:=sz) (cap:=cap') (λi j=>((E.cut H w n).I b (off'+(i*sz+j))).getD undef) (λi e h=>k2 e (Xa h)) (λi j hi hj=>?_)
            (λi e j c h1 h2=>(key i j e c h1 h2).elim λ_ h=>h.2.2) (λi e j c h1 h2=>?_) (by rw[k3];omega) (by rw[k3];exact kT)
           rw[k3]at this;exact this;have iG:=k2 _ (WI hi);obtain⟨u,h1,_⟩:=key i j _ _ (W4 hi) (W4 (show j<((GY sz len cs')[i]).length by omega));rw[h1];rfl
           obtain⟨u,h3,h4,_⟩:=key i j e c h1 h2;rw[h3];exact h4
        cases h
      cases h
   |sl es tk=>
    cases tk with
    |own t=>
     simp only[frz]at h;have gY:BN (.sl es .no)=true:=rfl;have cV:Az E (.sl es .no) v:=(by cases hx with|sl0 ht ha=>exact .sl0 trivial ha|sl f hl hI' hm hv hc ht=>exact .sl f hl hI' hm hv hc trivial);have kU:RL n (.sl es .no):=VcC cV gY;split at h
     ·rename_i ht;injection h with h;refine plain ?_ h.symm;cases kU with
      |sl _ hr=>exact .sl (λt' e=>by cases e;exact ht) hr
     injection h with h;subst h;exact cV.cut hφ hκ hI kU
    |no=>simp only[frz,WE]at h;exact plain (VcC hx rfl) h.symm
    |ti=>simp only[frz,WE]at h;exact plain (VcC hx rfl) h.symm
   |fn f caps=>
    simp only[frz]at h;cases hf:G3 H n d caps with
    |none=>simp[hf]at h
    |some caps'=>
     simp only[hf,zXb,WE]at h;subst h;cases hx with
     |fn hn hv=>rename_i vs;have:=ih2 _ _ vs.toList hf ⟨by simpa using hn,λi c v h1 h2=>hv i c v h1 (by simpa using h2)⟩;exact .fn (by simpa using this.1) λi c v h1 h2=>this.2 i c v h1 (by simpa using h2)
   |bfn f first=>simp only[frz]at h;cases h
   |ubool=>simp only[frz]at h;cases h
   |iface t y=>
    simp only[frz]at h;cases hf:frz H n d y with
    |none=>simp[hf]at h
    |some y'=>simp only[hf,zXb,WE]at h;subst h;obtain⟨u,rfl,hu⟩:=hx.iface_inv;exact .iface (ih1 _ _ _ hf hu)
   |agg cs=>
    simp only[frz]at h;cases hf:G3 H n d cs with
    |none=>simp[hf]at h
    |some cs'=>simp only[hf,zXb,WE]at h;subst h;obtain⟨vs,rfl,hv⟩:=hx.agg_cells;exact .agg_of (ih2 _ _ _ hf hv)
   |tup cs=>
    simp only[frz]at h;cases hf:G3 H n d cs with
    |none=>simp[hf]at h
    |some cs'=>simp only[hf,zXb,WE]at h;subst h;obtain⟨vs,rfl,hv⟩:=hx.tup_cells;exact .tup_of (ih2 _ _ _ hf hv)
   |_=>simp only[frz,WE]at h;exact plain (VcC hx rfl) h.symm
  ·intro xs
   induction xs with
   |nil=>intro xs' vs h hv;simp only[G3,WE]at h;subst h;have:vs=[]:=WM (by rw[<-hv.1];rfl);subst this;exact .nil _
   |cons x xs ihx=>
    intro xs' vs h hv;cases vs with
    |nil=>have:=hv.1;simp at this
    |cons v vs=>
     simp only[G3]at h;cases hf:frz H n d x with
     |none=>simp[hf]at h
     |some x'=>simp only[hf,zXa]at h;cases hr:G3 H n (d+1) xs with|none=>simp[hr]at h|some r'=>simp only[hr,zXb,WE]at h;subst h;exact .cons (ih1 _ _ _ hf hv.head) (ihx _ _ hr hv.tail)

end
section
variable {C:Cfg}{E:Env}{H:Aa}{w:World}
theorem VeP {n:Nat}{tm:List Ab}{a:Act}(hf:I0 n E H tm a w){rv:ResultVar}{x:Ab}(h:I8 C tm H rv=some x):∃v,((match rv with
   |.tmp t=>pure (a.tmps.getD t undef)
   |.cell ad t=>do loadVar t (<-asAddr (a.tmps.getD ad undef))):Sem Value).run C.P w=.ok v w/\Az E x v:=by
 cases rv with
 |tmp t=>simp only[I8,WE]at h;subst h;exact⟨_,rfl,Kx hf.rel t⟩
 |cell ad t=>
  simp only[I8]at h;split at h
  cases h
  ·rename_i hk;obtain⟨⟨d,hd⟩,_⟩:=CF (P:=C.P) (t:=t) (by simpa using hk);have hr:=Kx hf.rel ad;obtain⟨v,h1,h2⟩:=VfJ hd hf.sim hr h;have hp:∃p,a.tmps.getD ad undef=.pointer (some p):=by
    unfold Ad at h;split at h
    rename_i id g o he;rw[he]at hr;obtain⟨b,_,h3⟩:=hr.ptr_inv;exact⟨_,h3⟩;rename_i cs o he;rw[he]at hr;obtain⟨b,o',h3⟩:=hr.cptr_inv;exact⟨_,h3⟩;cases h
   obtain⟨p,hp⟩:=hp;refine⟨v,?_,h2⟩;rw[hp]at h1;show(do loadVar t (<-asAddr (a.tmps.getD ad undef)):Sem Value).run C.P w=_;rw[hp];simpa[Instr.loadAt,Instr.sureAddr,asAddr]using h1
theorem M6 {n:Nat}{tm:List Ab}{a:Act}(hf:I0 n E H tm a w):∀(rs:List ResultVar)(xs:List Ab),Fh C tm H rs=some xs ->
  ∃vs:List Value,(rs.mapM (fun | .tmp t=>pure (a.tmps.getD t undef) | .cell ad t=>do loadVar t (<-asAddr (a.tmps.getD ad undef)):ResultVar->Sem Value)).run C.P w=.ok vs w/\A4 E xs vs
 |[],xs,h=>by simp only[Fh,WE]at h;subst h;exact⟨[],by simp,.nil E⟩
 |r::rs,xs,h=>by
  simp only[Fh]at h;cases h1:I8 C tm H r with
  |none=>simp[h1]at h
  |some x=>
   simp only[h1,zXa]at h;cases h2:Fh C tm H rs with
   |none=>simp[h2]at h
   |some xs'=>simp only[h2,zXb,WE]at h;subst h;obtain⟨v,g1,g2⟩:=VeP hf h1;obtain⟨vs,g3,g4⟩:=M6 hf rs xs' h2;refine⟨v::vs,?_,.cons g2 g4⟩;rw[Zr];simp only[zXf,g1,zXg,g3,Sem.run_pure]
theorem Tj {n:Nat}{fn:Func}{tm:List Ab}{a:Act}(hf:I0 n E H tm a w){x:Ab}(h:Gc C fn.results.toList tm H=some x):∃v,(results fn a.tmps).run C.P w=.ok v w/\Az E x v:=by
 have aC:∀vs:List Value,(fn.results.toList.mapM (fun | .tmp t=>pure (a.tmps.getD t undef) | .cell ad t=>do loadVar t (<-asAddr (a.tmps.getD ad undef)):ResultVar->Sem Value)).run C.P w=.ok vs w ->
   (results fn a.tmps).run C.P w=.ok (if h:vs.toArray.size=1 then vs.toArray[0]else .tuple vs.toArray) w:=by
  intro vs oX;unfold results;rw[Array.mapM_eq_mapM_toList];simp only[map_eq_pure_bind,zXf,Sem.run_pure];erw[oX]
  rfl
 unfold Gc at h;split at h
 ·rename_i r hr;obtain⟨vs,g1,g2⟩:=M6 (C:=C) hf [r] [x] (by simp[Fh,h]);rw[<-hr]at g1;refine⟨_,aC vs g1,?_⟩;have hl:vs.length=1:=by rw[<-g2.1];rfl
  obtain⟨v,rfl⟩:=Y0.1 hl;simpa using g2.head
 ·rename_i hne;cases hx:Fh C tm H fn.results.toList with
  |none=>simp[hx]at h
  |some xs=>
   simp only[hx,zXb,WE]at h;subst h;obtain⟨vs,g1,g2⟩:=M6 hf _ _ hx;refine⟨_,aC vs g1,?_⟩;have hl:¬(vs.toArray.size=1):=by
    have h1:xs.length=fn.results.toList.length:=by
     clear g1 g2 aC hne;generalize fn.results.toList=rs at hx
     induction rs generalizing xs with
     |nil=>simp only[Fh,WE]at hx;subst hx;rfl
     |cons r rs ih=>
      simp only[Fh]at hx;cases h1:I8 C tm H r with
      |none=>simp[h1]at hx
      |some y=>simp only[h1,zXa]at hx;cases h2:Fh C tm H rs with|none=>simp[h2]at hx|some ys=>simp only[h2,zXb,WE]at hx;subst hx;simp[ih _ h2]
    intro hs;have h2:fn.results.toList.length=1:=(by rw[<-h1,g2.1];simpa using hs);obtain⟨r,hr⟩:=Y0.1 h2;exact hne r hr
   rw[dif_neg hl];exact .tup_of (by simpa using g2)
theorem S8 {E0:Env}{H0:Aa}{w0:World}{m:F7}(hm:m=.keep\/m=.pure)(hs0:Sim E0 H0 w0)(st:BS E0 H0 w0 E H w)(hs:Sim E H w){r:Res}{e:Ending}(hr:J2 E r e){out:Res×Aa}(h:fin m H0 r H=some out):∃E',J2 E' out.1 e/\Sim E' out.2 w/\BS E0 H0 w0 E' out.2 w:=by
 cases m with
 |keepN=>rcases hm with hm | hm<;>cases hm
 |pureN=>rcases hm with hm | hm<;>cases hm
 |keep=>simp only[fin,WE]at h;subst h;exact⟨E,hr,hs,st⟩
 |pure=>
  simp only[fin,chk]at h;split at h
  ·rename_i ht;obtain⟨k1,k2⟩:=hs0.cut hs st ht;cases r with
   |ret v=>
    simp only[]at h;cases hf:frz H H0.length 8 v with
    |none=>simp[hf]at h
    |some v'=>simp only[hf,zXb,WE]at h;subst h;refine⟨_,?_,k1,k2⟩;cases e with|returned u=>exact(Vko hs 8).1 v v' u hf hr|panicked c=>exact hr.elim|outgrown=>exact hr.elim
   |pan v=>
    simp only[]at h;cases hf:frz H H0.length 8 v with
    |none=>simp[hf]at h
    |some v'=>
     simp only[hf,zXb,WE]at h;subst h;refine⟨_,?_,k1,k2⟩;cases e with
     |returned u=>exact hr.elim
     |panicked c=>obtain⟨u,h1,h2⟩:=hr;exact⟨u,h1,(Vko hs 8).1 v v' u hf h2⟩
     |outgrown=>exact hr.elim
  cases h
theorem Vkq {x:Ab}{v:Value}(h:Az E x v):Az E (fgt x) v:=by
 cases h with
 |sl0 ht ha=>exact .sl0 trivial ha
 |sl f hl hI hm hv hc ht=>exact .sl f hl hI hm hv hc trivial
 |_=>first | (constructor<;>assumption) | constructor
theorem Vgy {x:Ab}{v:Value}(h:Az E x v):Az E (ED x) v:=by
 unfold ED;split;rename_i cs;obtain⟨vs,rfl,h1⟩:=h.agg_cells;refine .agg_of ⟨by simp[h1.1],λi c u h2 h3=>?_⟩;rw[WW]at h2;cases hc:cs[i]? with|none=>simp[hc]at h2|some d=>simp[hc]at h2;subst h2;exact Vkq (h1.2 i d u hc h3)
 exact Vkq h
theorem Vgp {x:Ab}{v:Value}(h:Az E x v):Az E (forget x) v:=by
 unfold forget;split;rename_i cs;obtain⟨vs,rfl,h1⟩:=h.tup_cells;refine .tup_of ⟨by simp[h1.1],λi c u h2 h3=>?_⟩;rw[WW]at h2;cases hc:cs[i]? with|none=>simp[hc]at h2|some d=>simp[hc]at h2;subst h2;exact Vgy (h1.2 i d u hc h3)
 exact Vgy h
theorem O3 {r:Res}{e:Ending}(h:J2 E r e):J2 E r.forget e:=by
 cases r with
 |ret v=>cases e with|returned u=>exact Vgp (v:=u) h|panicked c=>exact h.elim|outgrown=>exact h.elim
 |pan v=>exact h
theorem Vgx (H0:Aa)(r:Res)(H:Aa):fin .keepN H0 r H=(fin .keep H0 r H).map λo=>(o.1.forget,o.2):=rfl
theorem Vgv (H0:Aa)(r:Res)(H:Aa):fin .pureN H0 r H=(fin .pure H0 r H).map λo=>(o.1.forget,o.2):=by
 simp only[fin,chk];split;cases r<;>simp[YQ,Function.comp_def,Res.forget]
 ·rfl
theorem Vgw {E0:Env}{H0:Aa}{w0:World}{m:F7}(hs0:Sim E0 H0 w0)(st:BS E0 H0 w0 E H w)(hs:Sim E H w){r:Res}{e:Ending}(hr:J2 E r e){out:Res×Aa}(h:fin m H0 r H=some out):∃E',J2 E' out.1 e/\Sim E' out.2 w/\BS E0 H0 w0 E' out.2 w:=by
 cases m with
 |keep=>exact S8 (.inl rfl) hs0 st hs hr h
 |pure=>exact S8 (.inr rfl) hs0 st hs hr h
 |keepN=>
  rw[Vgx]at h;cases hx:fin .keep H0 r H with
  |none=>simp[hx]at h
  |some o=>simp only[hx,zXb,WE]at h;subst h;obtain⟨E',h1,h2,h3⟩:=S8 (.inl rfl) hs0 st hs hr hx;exact⟨E',O3 h1,h2,h3⟩
 |pureN=>
  rw[Vgv]at h;cases hx:fin .pure H0 r H with
  |none=>simp[hx]at h
  |some o=>simp only[hx,zXb,WE]at h;subst h;obtain⟨E',h1,h2,h3⟩:=S8 (.inr rfl) hs0 st hs hr hx;exact⟨E',O3 h1,h2,h3⟩
theorem Vp6 (hC:N0 C)(hD:Vdq C){f:FuncId}{fn:Func}{body:Code}{ann:Ann}{m:F7}(hf:C.P.funcs[f]? = some fn)(hb:fn.body=some body)(hc:∀(vs:Array Value)(w:World),(callFunc f vs).run C.P w=.ok (.enter f vs) w)
  {args:List Ab}{H:Aa}{res:Res}{H':Aa}(h:fnA C fn body ann m args H=some (res,H'))(hn:args.length<=fn.ntmps):Vhr C.P C.G f args H res H':=by
 intro E w vs hG hs hv;refine .inl ⟨hc vs w,calls_of_wp hf hb ?_⟩;unfold fnA at h;have hlen:args.length=vs.size:=by simpa using hv.1
 have hfr:I0 fn.ntmps E H (args++List.replicate (fn.ntmps-args.length) .undef) { tmps:=vs++Array.replicate (fn.ntmps-vs.size) undef,defers:=[]} w:=by
  refine⟨?_,by simp;omega,rfl,hs⟩;rw[Yx];refine hv.append ⟨by simp[hlen],λi c v h1 h2=>?_⟩;rw[YB]at h1;split at h1
  simp at h1;subst h1;exact .undef _;cases h1
 refine wp_mono (Ub hC hD body ann _ E _ H _ w hG (.refl E H w) hfr h) ?_;rintro e a w' ⟨E',H1,tm,x,hG',st,jB,hx,hk⟩;have ret:∀y,Gc C fn.results.toList tm H1=some y->fin m H (.ret y) H1=some (res,H')->a.defers=[]/\∃v,(results fn a.tmps).run C.P w'=.ok v w'/\∃E2,J2 E2 res (.returned v)/\Sim E2 H' w'/\BS E H w E2 H' w':=by intro y hy hfin;obtain⟨v,h1,h2⟩:=Tj jB hy;obtain⟨E2,g1,g2,g3⟩:=Vgw (r:=.ret y) (e:=.returned v) hs st jB.sim h2 hfin;exact⟨jB.defers,v,h1,E2,g1,g2,g3⟩
 cases x<;>cases e<;>first | exact hx.elim | skip
 simp only[]at hk;cases hy:Gc C fn.results.toList tm H1 with|none=>simp[hy]at hk|some y=>simp only[hy,zXa]at hk;exact ret y hy hk
 cases hk;simp only[]at hk;cases hy:Gc C fn.results.toList tm H1 with|none=>simp[hy]at hk|some y=>simp only[hy,zXa]at hk;exact ret y hy hk
 simp only[]at hk;obtain⟨v,rfl,aP⟩:=hx;obtain⟨E2,g1,g2,g3⟩:=Vgw (r:=.pan _) (e:=.panicked [{ v,recovered:=false}]) hs st jB.sim ⟨v,rfl,aP⟩ hk;exact⟨jB.defers,E2,g1,g2,g3⟩

end
theorem TO (acc:Array Nat)(i:Nat):∀(es:List Edge)(s:Nat),(es.foldl (λs e=>if Region.binds .any e then s ||| 2^e.on ||| acc.getD e.on 0 else s) s).testBit i=true ->
  s.testBit i=true\/∃e∈es,Region.binds .any e=true/\(i=e.on\/(acc.getD e.on 0).testBit i=true)
 |[],s,h=>.inl h
 |e::es,s,h=>by
  simp only[List.foldl_cons]at h;rcases TO acc i es _ h with h1 | ⟨e',h1,h2⟩
  ·split at h1
   rename_i hb;rw[Nat.testBit_or,Nat.testBit_or,X0,X0]at h1;rcases h1 with (h1 | h1) | h1;exact .inl h1;refine .inr ⟨e,by simp,hb,.inl ?_⟩;rw[Nat.testBit_two_pow]at h1;exact(of_decide_eq_true h1).symm;exact .inr ⟨e,by simp,hb,.inr h1⟩;exact .inl h1
  exact .inr ⟨e',by simp[h1],h2⟩
theorem Vb5:∀(l:List Oper),let acc:=l.foldl (λ(acc:Array Nat) o=>acc.push (o.after.foldl (λs e=>if Region.binds .any e then s ||| 2^e.on ||| acc.getD e.on 0 else s) 0)) #[]
  acc.size=l.length/\∀j i,(acc.getD j 0).testBit i=true->∃o,l[j]? = some o/\∃e∈o.after,Region.binds .any e=true/\(i=e.on\/(e.on<j/\(acc.getD e.on 0).testBit i=true)):=by
 suffices nL:∀(l:List Oper),let acc:=l.reverse.foldl (λ(acc:Array Nat) o=>acc.push (o.after.foldl (λs e=>if Region.binds .any e then s ||| 2^e.on ||| acc.getD e.on 0 else s) 0)) #[]
   acc.size=l.reverse.length/\∀j i,(acc.getD j 0).testBit i=true->∃o,l.reverse[j]? = some o/\∃e∈o.after,Region.binds .any e=true/\(i=e.on\/(e.on<j/\(acc.getD e.on 0).testBit i=true))by
  intro l;have:=nL l.reverse
  rwa [List.reverse_reverse]at this
 intro l
 induction l with
 |nil=>exact⟨rfl,λj i h=>by simp at h⟩
 |cons o l' ih=>
  rw[YX];generalize l'.reverse=l at ih⊢;simp only[Yd,List.foldl_cons,List.foldl_nil]at ih⊢;generalize l.foldl (λ(acc:Array Nat) o=>acc.push (o.after.foldl (λs e=>if Region.binds .any e then s ||| 2^e.on ||| acc.getD e.on 0 else s) 0)) #[]=acc at ih⊢;obtain⟨ih1,ih2⟩:=ih;have bB:∀(v j:Nat),j<acc.size->(acc.push v).getD j 0=acc.getD j 0:=λv j hj=>by rw[WL,WL,XS,if_neg (by omega)]
  refine⟨by simp[ih1],λj i h=>?_⟩;rcases Nat.lt_trichotomy j acc.size with hj | hj | hj;rw[bB _ j hj]at h;obtain⟨o',h1,e,h2,h3,h4⟩:=ih2 j i h;refine⟨o',by rw[W8 (by omega)];exact h1,e,h2,h3,?_⟩;rcases h4 with h4 | ⟨h4,h5⟩;exact .inl h4;exact .inr ⟨h4,by rw[bB _ e.on (by omega)];exact h5⟩
  ·subst hj;refine⟨o,by rw[ih1,WX (W7 _)];simp,?_⟩;rw[WL,XS,if_pos rfl,Option.getD_some,<-Zv]at h;rcases TO acc i _ 0 h with h1 | ⟨e,h1,h2,h3⟩;simp at h1;refine⟨e,by simpa using h1,h2,?_⟩;rcases h3 with h3 | h3;exact .inl h3;have hlt:e.on<acc.size:=(by rcases Xj e.on acc.size with hlt | hge;exact hlt;rw[WL,Zj hge]at h3;simp at h3);exact .inr ⟨hlt,by rw[bB _ _ hlt];exact h3⟩
  rw[WL,XS,if_neg (by omega),Zj (by omega)]at h;simp at h
theorem Vb4 {ops:Array Oper}{i j:Nat}(h:((Region.before ops).getD j 0).testBit i=true):∃o,ops[j]? = some o/\∃e∈o.after,Region.binds .any e=true/\(i=e.on\/(e.on<j/\((Region.before ops).getD e.on 0).testBit i=true)):=by
 unfold Region.before at h⊢;rw[<-Zv]at h⊢;obtain⟨o,h1,h2⟩:=(Vb5 ops.toList).2 j i h;exact⟨o,by simpa using h1,h2⟩
theorem JR {ops:Array Oper}{S:Nat->Prop}(hS:∀j o,S j->ops[j]? = some o->∀e∈o.after,Region.binds .any e=true->S e.on):∀(j i:Nat),(∀o,ops[j]? = some o->∀e∈o.after,Region.binds .any e=true->S e.on)->((Region.before ops).getD j 0).testBit i=true->S i:=by
 intro j
 induction j using Nat.strongRecOn with
 |_ j ih=>intro i hj h;obtain⟨o,h1,e,h2,h3,h4⟩:=Vb4 h;have hs:=hj o h1 e h2 h3;rcases h4 with rfl | ⟨h4,h5⟩;exact hs;exact ih e.on h4 i (λo' dK e' dE hb'=>hS e.on o' hs dK e' dE hb') h5

section
variable {C:Cfg}{H:Aa}{r r':Operand->Ab}
theorem KR {place:Nat->Option (Nat×Nat)}:∀(ps:List (Nat×Operand)),(∀p∈ps,r p.2=r' p.2)->JX place r ps=JX place r' ps
 |[],_=>rfl
 |p::ps,h=>by simp only[JX];rw[h p (by simp),KR ps λq hq=>h q (by simp[hq])]
theorem EQ {α β:Type}{f g:α->β}{l:List α}(h:∀x∈l,f x=g x):l.map f=l.map g:=Y6 h
theorem R7 {op:Op}(h:∀x∈op.operands,r x=r' x):BK C op r H=BK C op r' H:=by
 cases op with
 |build t parts=>
  have hp:∀p∈parts.toList,r p.2=r' p.2:=λp hp=>h p.2 (by simp[Op.operands];exact⟨p.1,by simpa using hp⟩);simp only[BK,Ty];split;rename_i fs _;cases hx:fs.toList.mapM (λf=>(C.P.info? f.type).map λi=>(f.offset,i.size))with|none=>rfl|some places=>simp only[zXa];rw[KR _ hp]
  rename_i n e _;cases hx:C.P.info? e with|none=>rfl|some i=>simp only[zXa];rw[KR _ hp]
  ·rfl
 |buildSlice t len parts=>have hp:∀p∈parts.toList,r p.2=r' p.2:=λp hp=>h p.2 (by simp[Op.operands];exact⟨p.1,by simpa using hp⟩);simp only[BK];rw[EQ (f:=λp:Nat×Operand=>r p.2) hp]
 |makeFunc fn first caps=>
  have hp:∀p∈caps.toList,r p=r' p:=λp hp=>h p (by simp[Op.operands];exact .inr (by simpa using hp));have hq:∀p∈first.toList,r p=r' p:=λp hp=>h p (by simp[Op.operands];exact .inl (by simpa using hp))
  simp only[BK];rw[EQ hp,EQ hq]
 |slice t x lo hi mx=>
  have hx:=h x (by simp[Op.operands]);have hl:lo.map r=lo.map r':=by cases lo with | none=>rfl | some y=>simp[h y (by simp[Op.operands])]
  have hh:hi.map r=hi.map r':=by cases hi with | none=>rfl | some y=>simp[h y (by simp[Op.operands])]
  have hm:mx.map r=mx.map r':=by cases mx with | none=>rfl | some y=>simp[h y (by simp[Op.operands])]
  simp only[BK,hx,hl,hh,hm]
 |call c=>
  have hp:∀p∈c.args.toList,r p=r' p:=λp hp=>h p (by simp[Op.operands,Call.operands];exact .inr (by simpa using hp));simp only[BK];generalize c.args.toList=args at hp;split<;>first | rfl | skip
  rw[hp _ (by simp)];rw[hp _ (by simp)];rename_i tl x xs hq;rw[hp x (by simp),EQ (l:=xs) (f:=r) (g:=r') λy hy=>hp y (by simp[hy])];rename_i tl x xs hq;rw[hp x (by simp),EQ (l:=xs) (f:=r) (g:=r') λy hy=>hp y (by simp[hy])]
 |_=>simp[Op.operands]at h;simp[BK,h]
theorem VaB {op:Op}(h:∀x∈op.operands,r x=r' x):CW C op r H=CW C op r' H:=by
 cases op with
 |makeMap t x=>
  cases x with
  |none=>rfl
  |some y=>have hy:=h y (by simp[Op.operands]);cases hu:C.P.underlying t with|none=>simp[CW,hu]|some d=>cases d<;>simp[CW,hu,hy]
 |_=>simp[Op.operands]at h;simp[CW,h]
theorem R8 {op:Op}(h:∀x∈op.operands,r x=r' x):FX C op r H=FX C op r' H:=by
 cases op with
 |call c=>
  have hp:∀p∈c.args.toList,r p=r' p:=λp hp=>h p (by simp[Op.operands,Call.operands];exact .inr (by simpa using hp));simp only[FX];split
  ·generalize c.args.toList=args at hp;split<;>first | rfl | skip
   rename_i x y t ty _;rw[hp x (by simp),hp y (by simp)]
  ·generalize c.args.toList=args at hp;split<;>first | rfl | skip
   rename_i x t _;rw[hp x (by simp)]
  rename_i f hf;rw[h f (by simp[Op.operands,Call.operands,hf]),EQ hp]
  ·rfl
 |_=>simp[Op.operands]at h;simp[FX,h]
theorem VaA {op:Op}(h:JU op=false)(H':Aa):BK C op r H=BK C op r H':=by cases op<;>first | rfl | simp[JU]at h
theorem O1 {id g:Nat}{cs:List Ab}(p:Aa)(h:AC H id g=some cs):AC (H++p) id g=some cs:=by unfold AC at h⊢;cases hx:H[id]? with|none=>simp[hx]at h|some B=>rw[W8 (W5.1 hx).1,hx];rw[hx]at h;exact h
theorem VdH {a:Bool}{sz:Nat}{x z:Ab}(p:Aa)(h:Ad a sz x H=some z):Ad a sz x (H++p)=some z:=by
 cases x<;>first | exact h | skip
 rename_i id g o;simp only[Ad]at h⊢;cases hg:AC H id g with|none=>simp[hg]at h|some cs=>rw[O1 p hg];rw[hg]at h;exact h
theorem Um {x z:Ab}(p:Aa)(h:CT x H=some z):CT x (H++p)=some z:=by
 cases x<;>first | exact h | skip
 rename_i id g off len cap sz ex;simp only[CT]at h⊢;split at h
 rename_i hz;rw[if_pos hz];cases hg:AC H id g with|none=>simp[hg]at h|some cs=>rw[O1 p hg];rw[hg]at h;exact h
 cases h
theorem Vaj {a:Bool}{n:Nat}{zz:Option Ab}{ok:Bool}{m k z:Ab}(p:Aa)(h:FD a n zz ok m k H=some z):FD a n zz ok m k (H++p)=some z:=by
 unfold FD at h⊢;cases zz with
 |none=>simp at h
 |some z0=>
  simp only[zXa]at h⊢;cases hc:Ei a n k with
  |none=>simp[hc]at h
  |some kc=>
   simp only[hc,zXa]at h⊢;cases m<;>first | exact h | skip
   rename_i id;simp only[]at h⊢;cases hH:H[id]? with|none=>simp[hH]at h|some B=>rw[W8 (W5.1 hH).1,hH];rw[hH]at h;exact h
theorem Vdu {op:Op}{z:Ab}(p:Aa)(h:BK C op r H=some z):BK C op r (H++p)=some z:=by
 cases op with
 |load t x=>simp only[BK]at h⊢;split;rename_i hk;rw[if_pos hk]at h;cases h;rename_i hk;rw[if_neg hk]at h;exact VdH p h
 |convert src dst x=>
  simp only[BK,Vjv]at h⊢;split at h<;>first | exact h | skip
  split at h
  rename_i hk;rw[if_pos hk];exact Um p h;cases h
 |lookup t m k ok=>
  simp only[BK]at h⊢;split at h
  ·split at h
   rename_i kt e hu hk;rw[if_pos hk];exact Vaj p h;cases h
  cases h
 |_=>exact h

end
structure Tr where
 T:Nat->List Ab
 hE:Nat->Aa
 cur:Nat->Aa
 hist:Nat->List (Nat×Aa)
 V:Nat->Ab
 B:Nat->Bool
section
variable {C:Cfg}{pb:Bool}{ops:Array Oper}{bf:Nat->Nat->Bool}{out:Res×Aa}{k:List Ab->Aa->Out}{kp:Ab->List Ab->Aa->Out}
def U9 (C:Cfg)(ops:Array Oper)(bf:Nat->Nat->Bool)(perm:zAb)(t:Tr)(j:Nat):Prop:=
 ∃i o,perm[j]? = some i/\ops[i]? = some o/\I3 ops o (t.T j)=some (t.B j)/\t.T (j+1)=Ho (t.T j) o.dst (t.V j) /\
  ((cls o.op=.r/\gR (t.B j) (BK C o.op (rho C.G (t.T j)) (t.hE j))=some (t.V j)/\(JU o.op=true->VkC (λe=>bf e i) (λh=>gR (t.B j) (BK C o.op (rho C.G (t.T j)) h)) (t.V j) (t.hist j)) /\
    t.hE (j+1)=t.hE j/\t.cur (j+1)=t.cur j/\t.hist (j+1)=t.hist j) \/
   (cls o.op=.a/\gA (t.B j) (t.cur j) (CW C o.op (rho C.G (t.T j)) (t.cur j))=some (t.V j,t.cur (j+1))/\t.hE (j+1)=t.hE j/\t.hist (j+1)=t.hist j) \/
   (cls o.op=.e/\gE (t.B j) (t.cur j) (FX C o.op (rho C.G (t.T j)) (t.cur j))=some (.ret (t.V j),t.cur (j+1))/\t.hE (j+1)=t.cur (j+1)/\t.hist (j+1)=(i,t.hE j)::t.hist j))
def Qi (C:Cfg)(ops:Array Oper)(bf:Nat->Nat->Bool)(perm:zAb)(kp:Ab->List Ab->Aa->Out)(out:Res×Aa)(t:Tr)(m:Nat):Prop:=
 m+1<=perm.length/\∃i o x H',perm[m]? = some i/\ops[i]? = some o/\cls o.op=.e/\I3 ops o (t.T m)=some true/\FX C o.op (rho C.G (t.T m)) (t.cur m)=some (.pan x,H')/\kp x ((t.T m).map λ_=>.undef) H'=some out/\∀j y,m<j->perm[j]? = some y->bf i y=true
def Tr.cons (T0:List Ab)(hE0 cur0:Aa)(aU:List (Nat×Aa))(v:Ab)(b:Bool)(t:Tr):Tr where
 T:=λj=>match j with | 0=>T0 | j+1=>t.T j
 hE:=λj=>match j with | 0=>hE0 | j+1=>t.hE j
 cur:=λj=>match j with | 0=>cur0 | j+1=>t.cur j
 hist:=λj=>match j with | 0=>aU | j+1=>t.hist j
 V:=λj=>match j with | 0=>v | j+1=>t.V j
 B:=λj=>match j with | 0=>b | j+1=>t.B j
theorem OX:∀(perm:zAb)(aU:List (Nat×Aa)) (hE0 cur0:Aa) (tm0:List Ab),GW C pb ops bf k kp perm aU hE0 cur0 tm0=some out ->
  ∃(t:Tr)(m:Nat),t.T 0=tm0/\t.hE 0=hE0/\t.cur 0=cur0/\t.hist 0=aU/\m<=perm.length/\(∀j,j<m->U9 C ops bf perm t j) /\
   ((m=perm.length/\k (t.T m) (t.cur m)=some out)\/Qi C ops bf perm kp out t m)
 |[],aU,hE0,cur0,tm0,h=>by simp only[GW]at h;exact⟨⟨λ_=>tm0,λ_=>hE0,λ_=>cur0,λ_=>aU,λ_=>.undef,λ_=>true⟩,0,rfl,rfl,rfl,rfl,W7 _,λj hj=>by omega,.inl ⟨rfl,h⟩⟩
 |i::rest,aU,hE0,cur0,tm0,h=>by
  simp only[GW]at h;cases ho:ops[i]? with
  |none=>simp[ho]at h
  |some o=>
   simp only[ho]at h;cases hw:I3 ops o tm0 with
   |none=>simp[hw]at h
   |some b=>
    simp only[hw,zXa]at h;have shift:∀(t:Tr)(m:Nat)(v:Ab),t.T 0=Ho tm0 o.dst v->m<=rest.length->(∀j,j<m->U9 C ops bf rest t j)->((m=rest.length/\k (t.T m) (t.cur m)=some out)\/Qi C ops bf rest kp out t m) ->
      U9 C ops bf (i::rest) (Tr.cons tm0 hE0 cur0 aU v b t) 0 ->
      ∃(t:Tr)(m:Nat),t.T 0=tm0/\t.hE 0=hE0/\t.cur 0=cur0/\t.hist 0=aU/\m<=(i::rest).length/\(∀j,j<m->U9 C ops bf (i::rest) t j) /\
       ((m=(i::rest).length/\k (t.T m) (t.cur m)=some out)\/Qi C ops bf (i::rest) kp out t m):=by
     intro t m v h0 hm hst hfin jY;refine⟨Tr.cons tm0 hE0 cur0 aU v b t,m+1,rfl,rfl,rfl,rfl,by simp;omega,λj hj=>?_,?_⟩;cases j with|zero=>exact jY|succ j=>exact hst j (by omega)
     rcases hfin with ⟨h1,h2⟩ | ⟨h1,i2,o2,x2,H2,p1,p2,p3,p4,p5,p6,p7⟩;exact .inl ⟨by simp[h1],h2⟩;refine .inr ⟨by simp;omega,i2,o2,x2,H2,p1,p2,p3,p4,p5,p6,λj y hj hy=>?_⟩;cases j with|zero=>omega|succ j=>exact p7 j y (by omega) (by simpa using hy)
    cases hc:cls o.op with
    |r=>
     simp only[hc]at h;cases hg:gR b (BK C o.op (rho C.G tm0) hE0)with
     |none=>simp[hg]at h
     |some v=>
      simp only[hg,zXa]at h;have key:(JU o.op=true->VkC (λe=>bf e i) (λh=>gR b (BK C o.op (rho C.G tm0) h)) v aU)/\GW C pb ops bf k kp rest aU hE0 cur0 (Ho tm0 o.dst v)=some out:=by
       split at h
       ·rename_i hr;unfold chk at h;split at h
        rename_i hs;exact⟨λ_=>hs,h⟩;cases h
       rename_i hr;exact⟨λh=>absurd h hr,h⟩
      obtain⟨t,m,q1,q2,q3,q4,q5,q6,q7⟩:=OX rest _ _ _ _ key.2;exact shift t m v q1 q5 q6 q7 ⟨i,o,rfl,ho,hw,q1,.inl ⟨hc,hg,key.1,q2,q3,q4⟩⟩
    |a=>
     simp only[hc,Ap]at h;cases hg:gA b cur0 (CW C o.op (rho C.G tm0) cur0)with
     |none=>simp[hg]at h
     |some p=>obtain⟨v,H1⟩:=p;simp only[hg,zXa]at h;obtain⟨t,m,q1,q2,q3,q4,q5,q6,q7⟩:=OX rest _ _ _ _ h;exact shift t m v q1 q5 q6 q7 ⟨i,o,rfl,ho,hw,q1,.inr (.inl ⟨hc,by rw[show(Tr.cons tm0 hE0 cur0 aU v b t).cur (0+1)=H1 from q3];exact hg,q2,q4⟩)⟩
    |e=>
     simp only[hc,Iy]at h;cases hg:gE b cur0 (FX C o.op (rho C.G tm0) cur0)with
     |none=>simp[hg]at h
     |some p=>
      obtain⟨res,H1⟩:=p;simp only[hg,zXa]at h;cases res with
      |ret v=>obtain⟨t,m,q1,q2,q3,q4,q5,q6,q7⟩:=OX rest _ _ _ _ h;exact shift t m v q1 q5 q6 q7 ⟨i,o,rfl,ho,hw,q1,.inr (.inr ⟨hc,by rw[show(Tr.cons tm0 hE0 cur0 aU v b t).cur (0+1)=H1 from q3];exact hg,q2.trans q3.symm,q4⟩)⟩
      |pan x=>
       simp only[]at h;cases hra:rest.all (λj=>pb&&bf i j)with
       |true=>rw[hra]at h;simp only[]at h;have hb:b=true:=(by cases b with|true=>rfl|false=>simp[gE]at hg);subst hb;refine⟨⟨λ_=>tm0,λ_=>hE0,λ_=>cur0,λ_=>aU,λ_=>.undef,λ_=>true⟩,0,rfl,rfl,rfl,rfl,WZ _,λj hj=>by omega,.inr ⟨by simp,i,o,x,H1,rfl,ho,hc,hw,by simpa[gE]using hg,h,λj y hj hy=>?_⟩⟩;cases j with|zero=>omega|succ j=>exact(Bool.and_eq_true_iff.1 (WO.1 hra y (Xa (by simpa using hy)))).2
       |false=>rw[hra]at h;cases h
theorem RE {pre:zAb}:∀(rest done:zAb),KS.okFrom ops bf pre done rest=true ->
  (∀(a:Nat)(j:Nat),rest[a]? = some j->∃oj,ops[j]? = some oj/\(∀e∈oj.after,Region.binds .any e=true->e.on∈done\/∃b,b<a/\rest[b]? = some e.on) /\
   ∀i,(i∈done\/∃b,b<a/\rest[b]? = some i)->∃oi,ops[i]? = some oi/\i≠j/\(bf i j=true\/i∈pre\/(isE oj=false/\oi.apart ops oj=true/\oj.apart ops oi=true)) /\
    (isA oi=true->isE oj=false->(∀d,oi.dst=some d->d ∉ oj.looksAt ops)\/∀i',(i'∈done\/∃b,b<a/\rest[b]? = some i')->bf i' j=true\/i'∈pre))
 |[],done,_=>λa j h=>by simp at h
 |x::rest,done,h=>by
  simp only[KS.okFrom,WG]at h;obtain⟨h1,h2⟩:=h;have ih:=RE rest (x::done) h2;intro a j tU;cases a with
  |zero=>
   simp at tU;subst tU;cases ho:ops[x]? with
   |none=>simp[ho]at h1
   |some oj=>
    simp only[ho,WG]at h1;obtain⟨h3,h4⟩:=h1;refine⟨oj,rfl,λe he hb=>?_,λi hi=>?_⟩;have:=Z3.1 h3 e he;simp only[hb,Xo,zXo]at this;exact .inl (by simpa using this)
    ·have aE:i∈done:=hi.resolve_right (λ⟨b,hb,_⟩=>by omega);have:=WO.1 h4 i aE;cases xY:ops[i]? with
     |none=>simp[xY]at this
     |some oi=>simp only[xY,WG,bne_iff_ne,X0,X7]at this;obtain⟨⟨q1,q2⟩,q3⟩:=this;refine⟨oi,rfl,q1,?_,λha he=>?_⟩;rcases q2 with (q2 | q2) | ⟨⟨q2,q4⟩,q5⟩;exact .inl q2;exact .inr (.inl (by simpa using q2));exact .inr (.inr ⟨q2,q4,q5⟩);rcases q3 with ((q3 | q3) | q3) | q3;rw[ha]at q3;cases q3;rw[he]at q3;cases q3;refine .inr λi' aE=>?_;have:=WO.1 q3 i' (aE.resolve_right (λ⟨b,hb,_⟩=>by omega));simpa using this;exact .inl λd hd=>by simpa[hd]using q3
  |succ a=>
   simp at tU;obtain⟨oj,q1,q2,q3⟩:=ih a j tU;have conv:∀i,(i∈done\/∃b,b<a+1/\(x::rest)[b]? = some i)->(i∈x::done\/∃b,b<a/\rest[b]? = some i):=by intro i hi;rcases hi with hi | ⟨b,gQ,gP⟩;exact .inl (by simp[hi]);cases b with|zero=>simp at gP;exact .inl (by simp[gP])|succ b=>exact .inr ⟨b,by omega,by simpa using gP⟩
   refine⟨oj,q1,λe he hb=>?_,λi hi=>?_⟩;rcases q2 e he hb with q | ⟨b,gQ,gP⟩;rcases Xs.1 q with q | q;exact .inr ⟨0,by omega,by simp[q]⟩;exact .inl q;exact .inr ⟨b+1,by omega,by simpa using gP⟩
   ·obtain⟨oi,p1,p2,p3,p4⟩:=q3 i (conv i hi);exact⟨oi,p1,p2,p3,λha he=>(p4 ha he).imp id λh i' aE=>h i' (conv i' aE)⟩

end
section
variable {C:Cfg}{ops:Array Oper}
def PO (ops:Array Oper)(i:Nat):Option Tmp:=(ops[i]?).bind (·.dst)
def Dt (ops:Array Oper)(S:Nat->Bool)(cv:Nat->Value)(l:zAb)(a:Act):Act:=l.foldl (λa i=>if S i then a.put (PO ops i) (cv i)else a) a
theorem D8 (S:Nat->Bool)(cv:Nat->Value)(x:Nat)(l:zAb)(a:Act):Dt ops S cv (x::l) a=Dt ops S cv l (if S x then a.put (PO ops x) (cv x)else a):=rfl
theorem PB (S:Nat->Bool)(cv:Nat->Value)(l l':zAb)(a:Act):Dt ops S cv (l++l') a=Dt ops S cv l' (Dt ops S cv l a):=by simp[Dt,Yd]
theorem OJ (S:Nat->Bool)(cv:Nat->Value)(d:Option Tmp)(v:Value):∀(l:zAb)(a:Act),(∀j∈l,S j=true->∀x,d=some x->PO ops j≠some x)->Dt ops S cv l (a.put d v)=(Dt ops S cv l a).put d v
 |[],a,_=>rfl
 |x::l,a,h=>by rw[D8,D8];by_cases hx:S x=true;simp only[hx,if_true];rw[Act.put_comm a v (cv x) (h x (by simp) hx)];exact OJ S cv d v l _ λj hj=>h j (by simp[hj]);simp only[hx,WB,if_false];exact OJ S cv d v l _ λj hj=>h j (by simp[hj])
theorem OI {S S':Nat->Bool}{cv cv':Nat->Value}:∀(l:zAb)(a:Act),(∀j∈l,S' j=S j/\(S j=true->cv' j=cv j))->Dt ops S' cv' l a=Dt ops S cv l a
 |[],a,_=>rfl
 |x::l,a,h=>by rw[D8,D8];obtain⟨h1,h2⟩:=h x (by simp);rw[h1];by_cases hx:S x=true;simp only[hx,if_true];rw[h2 hx];exact OI l _ λj hj=>h j (by simp[hj]);simp only[hx,WB,if_false];exact OI l _ λj hj=>h j (by simp[hj])
theorem Rb {S:Nat->Bool}{cv:Nat->Value}{i:Nat}{v:Value}(hi:S i=false):∀(l:zAb)(a:Act)(p:Nat),l[p]? = some i->(∀(q r:Nat)(x:Nat),l[q]? = some x->l[r]? = some x->q=r) ->
  (∀(q:Nat)(j:Nat),p<q->l[q]? = some j->S j=true->∀x,PO ops i=some x->PO ops j≠some x) ->
  Dt ops (λj=>if j=i then true else S j) (λj=>if j=i then v else cv j) l a=(Dt ops S cv l a).put (PO ops i) v
 |[],a,p,h,_,_=>by simp at h
 |x::l,a,p,h,hu,hc=>by
  rw[D8,D8];cases p with
  |zero=>simp at h;subst h;simp only[if_true,hi,WB,if_false];have qY:∀j∈l,j≠x:=λj hj e=>(by subst e;obtain⟨q,hq,vZ⟩:=Xf hj;have:=hu (q+1) 0 j (by simp[W4 hq,vZ]) (by simp);omega);rw[OI (S:=S) (cv:=cv) l _ λj hj=>⟨by simp[qY j hj],λ_=>by simp[qY j hj]⟩];exact OJ S cv _ v l a λj hj hs=>by obtain⟨q,hq,vZ⟩:=Xf hj;exact hc (q+1) j (by omega) (by simp[W4 hq,vZ]) hs
  |succ p=>simp at h;have hne:x≠i:=λe=>(by have:=hu (p+1) 0 i (by simpa using h) (by simp[e]);omega);simp only[if_neg hne];exact Rb hi l _ p h (λq r y h1 h2=>by have:=hu (q+1) (r+1) y (by simpa using h1) (by simpa using h2);omega) (λq j hq hj=>hc (q+1) j (by omega) (by simpa using hj))
theorem Vcd (a:Act)(d:Option Tmp)(v:Value):(a.put d v).tmps.size=a.tmps.size:=by cases d<;>simp[Act.put]
theorem Le (S:Nat->Bool)(cv:Nat->Value):∀(l:zAb)(a:Act),(Dt ops S cv l a).tmps.size=a.tmps.size
 |[],a=>rfl
 |x::l,a=>by rw[D8,Le S cv l];split<;>simp[Vcd]
theorem Lf (S:Nat->Bool)(cv:Nat->Value):∀(l:zAb)(a:Act),(Dt ops S cv l a).defers=a.defers
 |[],a=>rfl
 |x::l,a=>by rw[D8,Lf S cv l];split<;>simp[OB]
theorem VG (a:Act)(d:Option Tmp)(v:Value)(t:Nat)(h:d≠some t):(a.put d v).tmps.getD t undef=a.tmps.getD t undef:=by cases d with|none=>rfl|some d=>have:d≠t:=λe=>h (by rw[e]);simp[Act.put,WL,X8 this]
theorem TT (S:Nat->Bool)(cv:Nat->Value)(t:Nat):∀(l:zAb)(a:Act),(∀j∈l,S j=true->PO ops j≠some t)->(Dt ops S cv l a).tmps.getD t undef=a.tmps.getD t undef
 |[],a,_=>rfl
 |x::l,a,h=>by
  rw[D8,TT S cv t l _ λj hj=>h j (by simp[hj])];split;rename_i hx;exact VG a _ _ t (h x (by simp) hx)
  ·rfl
theorem Vd9 (tm:List Ab)(d:Option Tmp)(v:Ab)(t:Nat)(h:d≠some t):(Ho tm d v).getD t .undef=tm.getD t .undef:=by cases d with|none=>rfl|some d=>have:d≠t:=λe=>h (by rw[e]);simp[Ho,W6,WA this]
theorem Vn4 {E:Env}{tm:List Ab}{a:Act}{x:Ab}{v:Value}(hl:tm.length=a.tmps.size)(hv:Az E x v)(t:Nat):Az E ((Ho tm (some t) x).getD t .undef) ((a.put (some t) v).tmps.getD t undef):=by simp only[Ho,Act.put,W6,WL];by_cases ht:t<tm.length;rw[WJ ht,XC (by omega)];exact hv;rw[zYb (by simp;omega)];exact .undef _

structure Mw (C:Cfg)(ops:Array Oper)(perm:zAb)(t:Tr)(M:Nat):Prop where
 len:perm.length=ops.size
 mem:∀i,i<ops.size->i∈perm
 le:M<=perm.length
 spec:∀(a:Nat)(j:Nat),perm[a]? = some j->∃oj,ops[j]? = some oj/\(∀e∈oj.after,Region.binds .any e=true->∃b,b<a/\perm[b]? = some e.on) /\
   ∀(b i:Nat),b<a->perm[b]? = some i->∃oi,ops[i]? = some oi/\i≠j/\(((Region.before ops).getD j 0).testBit i=true\/i∈perm.take (LZ ops perm)\/(isE oj=false/\oi.apart ops oj=true/\oj.apart ops oi=true))/\(isA oi=true->isE oj=false->(∀d,oi.dst=some d->d ∉ oj.looksAt ops)\/∀(b' i':Nat),b'<a->perm[b']? = some i'->((Region.before ops).getD j 0).testBit i'=true\/i'∈perm.take (LZ ops perm))
 step:∀j,j<M->U9 C ops (λi j=>((Region.before ops).getD j 0).testBit i) perm t j
section
variable {perm:zAb}{t:Tr}{M:Nat}
theorem Mw.inj (R:Mw C ops perm t M){a b i:Nat}(h1:perm[a]? = some i)(h2:perm[b]? = some i):a=b:=by rcases Nat.lt_trichotomy a b with h | h | h;obtain⟨_,_,_,h3⟩:=R.spec b i h2;obtain⟨_,_,h4,_⟩:=h3 a i h h1;exact absurd rfl h4;exact h;obtain⟨_,_,_,h3⟩:=R.spec a i h1;obtain⟨_,_,h4,_⟩:=h3 b i h h2;exact absurd rfl h4
theorem Mw.pos (R:Mw C ops perm t M){i:Nat}(hi:i<ops.size):∃j:Nat,perm[j]? = some i:=by obtain⟨j,hj,he⟩:=Xf (R.mem i hi);exact⟨j,by rw[W4 hj,he]⟩
theorem VbA {x y:Oper}(h:x.apart ops y=true){d:Tmp}(hd:x.dst=some d):d ∉ y.looksAt ops/\y.dst≠some d:=by unfold Oper.apart at h;rw[hd]at h;simp only[WG,X7,bne_iff_ne]at h;exact⟨by simpa using h.1.1,h.1.2⟩
theorem K2 {i:Nat}{o:Oper}(h:ops[i]? = some o):PO ops i=o.dst:=by simp[PO,h]
theorem Mw.tlen (R:Mw C ops perm t M){n:Nat}(h0:(t.T 0).length=n):∀j,j<=M->(t.T j).length=n
 |0,_=>h0
 |j+1,hj=>by obtain⟨i,o,_,_,_,h,_⟩:=R.step j (by omega);rw[h];have:=R.tlen h0 j (by omega);cases o.dst<;>simp[Ho,this]
theorem Mw.read (R:Mw C ops perm t M){E:Env}{a0:Act}{S:Nat->Bool}{cv:Nat->Value}(h0:A4 E (t.T 0) a0.tmps.toList)(x:Nat):∀K,K<=M->(∀(j i:Nat)(o:Oper),j<K->perm[j]? = some i->ops[i]? = some o->o.dst=some x->S i=true/\Az E (t.V j) (cv i)) ->
   Az E ((t.T K).getD x .undef) ((Dt ops S cv (perm.take K) a0).tmps.getD x undef)
 |0,_,_=>by simpa[Dt]using Kx h0 x
 |K+1,hK,h=>by
  obtain⟨i,o,h1,h2,_,h3,_⟩:=R.step K (by omega);have ih:=R.read h0 x K (by omega) λj i o hj=>h j i o (by omega);have aT:perm.take (K+1)=perm.take K++[i]:=by rw[List.take_add_one,h1];rfl
  rw[aT,PB,h3,D8];have hl:(t.T K).length=(Dt ops S cv (perm.take K) a0).tmps.size:=by rw[Le,R.tlen rfl K (by omega)];simpa using h0.1
  rw[K2 h2];by_cases hd:o.dst=some x;obtain⟨h4,h5⟩:=h K i o (by omega) h1 h2 hd;simp only[h4,if_true,hd];exact Vn4 hl h5 x;rw[Vd9 _ _ _ _ hd];split;show Az E _ ((Dt ops S cv [] _).tmps.getD x undef);simp only[Dt,List.foldl_nil];rw[VG _ _ _ _ hd];exact ih;exact ih

end

end
section
variable {C:Cfg}{ops:Array Oper}{perm:zAb}{t:Tr}{M:Nat}
def RX (E0:Env)(w0:World)(t:Tr)(E:Env)(H:Aa)(w:World)(j b:Nat)(v:Value):Prop:=
 ∃(blk:Blk)(f:Nat->Ab),w0.heap.size<=b/\Qj E H w b blk/\t.cur (j+1)=t.cur j++[blk]/\t.V j=f (t.cur j).length/\∀(E':Env)(n:Nat),E'.φ n 0=some b->Az E' (f n) v
structure Inv (C:Cfg)(ops:Array Oper)(perm:zAb)(t:Tr)(M:Nat)(E0:Env)(H0:Aa)(w0:World)(c:Nat)(S:Nat->Bool)(cv:Nat->Value)(bo:Nat->Nat)(E:Env)(w:World):Prop where
 le:c<=M
 pre:∀(j i:Nat),j<c->perm[j]? = some i->S i=true
 noE:∀(j i:Nat)(o:Oper),c<=j->perm[j]? = some i->ops[i]? = some o->S i=true->isE o=false/\j<M
 closed:∀(j:Nat)(o:Oper),S j=true->ops[j]? = some o->∀e∈o.after,Region.binds .any e=true->S e.on=true
 glob:DY C.G E
 step:BS E0 H0 w0 E (t.cur c) w
 sim:Sim E (t.cur c) w
 vals:∀(j i:Nat)(o:Oper),perm[j]? = some i->ops[i]? = some o->S i=true->(j<c\/isA o=false\/t.B j=false)->Az E (t.V j) (cv i)
 early:∀(j i:Nat)(o:Oper),c<=j->perm[j]? = some i->ops[i]? = some o->S i=true->isA o=true->t.B j=true->RX E0 w0 t E (t.cur c) w j (bo i) (cv i)
 inj:∀(j i j' i':Nat)(o o':Oper),c<=j->c<=j'->perm[j]? = some i->perm[j']? = some i'->ops[i]? = some o->ops[i']? = some o'->S i=true->S i'=true->isA o=true->isA o'=true->t.B j=true->t.B j'=true->bo i=bo i'->i=i'
theorem Qj.persist {E E':Env}{H H':Aa}{w w':World}{b:Nat}{blk:Blk}(h:Qj E H w b blk)(st:BS E H w E' H' w'):Qj E' H' w' b blk:=by refine⟨X1 h.lt st.size,λho=>?_,λo=>by rw[st.imm b o h.lt h.free];exact h.imm o,?_⟩;rcases st.own b ho with h1 | h1;exact h.free h1;have:=h.lt;omega;rcases h.rel with ⟨cells,cs,tt,h1,h2,h3⟩ | ⟨h1,ck,h2⟩ | ⟨cells,cs,tt,h1,h2,h3⟩;exact .inl ⟨cells,cs,tt,h1,by rw[st.frame b h.lt h.free];exact h2,h3.mono st.le⟩;exact .inr (.inl ⟨h1,ck,by rw[st.frame b h.lt h.free];exact h2⟩);exact .inr (.inr ⟨cells,cs,tt,h1,by rw[st.frame b h.lt h.free];exact h2,h3.mono st.le⟩)
theorem RX.persist {E0:Env}{w0:World}{E E':Env}{H H':Aa}{w w':World}{j b:Nat}{v:Value}(h:RX E0 w0 t E H w j b v)(st:BS E H w E' H' w'):RX E0 w0 t E' H' w' j b v:=by obtain⟨blk,f,h1,h2,h3⟩:=h;exact⟨blk,f,h1,h2.persist st,h3⟩
theorem VdC {E:Env}{H:Aa}{w:World}{b:Nat}{blk:Blk}(hs:Sim E H w)(h:Qj E H w b blk){x:Nat}(ho:Ny (E.setφ H.length 0 b) (H++[blk]) x):x=b\/Ny E H x:=by
 have st:BS E H {w with heap:=w.heap} E H w:=.refl E H w;obtain⟨i,hi⟩:=ho;unfold loc at hi;rw[Xp]at hi;split at hi
 ·rename_i hlt;right;refine⟨i,?_⟩;unfold loc;rw[W4 hlt]at hi⊢;simp only[zXa]at hi⊢;have cV:∀g y,E.φ H.length g=some y->False:=λg x hx=>by have:=hs.dom _ _ _ hx;omega
  cases hB:H[i]<;>rw[hB]at hi<;>simp only[C9,Env.setφ]at hi⊢ <;> first | exact hi | (rw[if_neg (by omega)]at hi;exact hi)
 ·rename_i hlt;cases hx:i-H.length with
  |succ n=>simp[hx]at hi
  |zero=>have:i=H.length:=(by omega);subst this;rw[hx]at hi;simp only[zXh,zXa]at hi;left;rcases h.rel with ⟨cells,cs,tt,h1,_⟩ | ⟨h1,_⟩ | ⟨cells,cs,tt,h1,_⟩ <;> subst h1<;>simp[C9,Env.setφ]at hi<;>exact hi.symm
theorem RX.take {E0:Env}{w0:World}{E:Env}{H:Aa}{w:World}{j b b':Nat}{v:Value}{blk:Blk}(hs:Sim E H w)(hb:Qj E H w b blk)(h:RX E0 w0 t E H w j b' v)(hne:b'≠b)(hle:E.le (E.setφ H.length 0 b)):RX E0 w0 t (E.setφ H.length 0 b) (H++[blk]) w j b' v:=by
 obtain⟨blk',f,h1,h2,h3⟩:=h;refine⟨blk',f,h1,⟨h2.lt,λho=>?_,h2.imm,?_⟩,h3⟩;rcases VdC hs hb ho with h4 | h4;exact hne h4;exact h2.free h4;rcases h2.rel with ⟨cells,cs,tt,q1,q2,q3⟩ | q | ⟨cells,cs,tt,q1,q2,q3⟩;exact .inl ⟨cells,cs,tt,q1,q2,q3.mono hle⟩;exact .inr (.inl q);exact .inr (.inr ⟨cells,cs,tt,q1,q2,q3.mono hle⟩)
section
variable {E0:Env}{H0:Aa}{w0:World}{S:Nat->Bool}{cv:Nat->Value}{bo:Nat->Nat}
theorem IF {o:Oper}:isE o=true↔cls o.op=.e:=by unfold isE;split<;>simp_all
theorem Pz {o:Oper}:isA o=true↔cls o.op=.a:=by unfold isA;split<;>simp_all
theorem Inv.absorb (R:Mw C ops perm t M){c:Nat}{E:Env}{w:World}(I:Inv C ops perm t M E0 H0 w0 c S cv bo E w)(hc:c<M){i:Nat}(hi:perm[c]? = some i)(hS:S i=true):∃E',Inv C ops perm t M E0 H0 w0 (c+1) S cv bo E' w/\E.le E':=by
 obtain⟨i',o,h1,h2,_,_,hst⟩:=R.step c hc;rw[hi]at h1;cases h1;have lM:=(I.noE c i o (W7 _) hi h2 hS).1;have pre':∀(j x:Nat),j<c+1->perm[j]? = some x->S x=true:=λj x hj hx=>by rcases Nat.lt_succ_iff_lt_or_eq.1 hj with h | h;exact I.pre j x h hx;subst h;rw[hi]at hx;cases hx;exact hS
 have plain:t.cur (c+1)=t.cur c->Az E (t.V c) (cv i)->∃E',Inv C ops perm t M E0 H0 w0 (c+1) S cv bo E' w/\E.le E':=by intro kD hv;refine⟨E,⟨hc,pre',λj x ox hj=>I.noE j x ox (by omega),I.closed,I.glob,by rw[kD];exact I.step,by rw[kD];exact I.sim,λj x ox hx aL hSx hh=>?_,λj x ox hj=>by rw[kD];exact I.early j x ox (by omega),λj x j' x' ox ox' hj hj'=>I.inj j x j' x' ox ox' (by omega) (by omega)⟩,.refl E⟩;by_cases lS:j=c;subst lS;rw[hi]at hx;cases hx;exact hv;exact I.vals j x ox hx aL hSx (hh.imp (λh=>by omega) id)
 rcases hst with ⟨aG,_,_,_,kD,_⟩ | ⟨aG,hg,_⟩ | ⟨aG,_⟩
 ·have nU:isA o=false:=by cases hq:isA o<;>simp_all [Pz]
  exact plain kD (I.vals c i o hi h2 hS (.inr (.inl nU)))
 ·have hA:isA o=true:=Pz.2 aG;cases hB:t.B c with
  |false=>rw[hB]at hg;simp only[gA,WB,if_false,WE,WY]at hg;exact plain hg.2.symm (I.vals c i o hi h2 hS (.inr (.inr hB)))
  |true=>
   obtain⟨blk,f,e1,e2,e3,e4,e5⟩:=I.early c i o (W7 _) hi h2 hS hA hB;obtain⟨k1,k2⟩:=e2.take I.sim I.step e1;have hle:E.le (E.setφ (t.cur c).length 0 (bo i)):=(by refine⟨λx g y hx=>?_,λ_ _ _ h=>h,λ_ _ _ h=>h⟩;have:¬(x=(t.cur c).length/\g=0):=λ⟨q1,q2⟩=>(by have:=I.sim.dom _ _ _ hx;omega);simp[Env.setφ,this,hx]);refine⟨E.setφ (t.cur c).length 0 (bo i),⟨hc,pre',λj x ox hj=>I.noE j x ox (by omega),I.closed,I.glob.mono hle,by rw[e3];exact k2,by rw[e3];exact k1,λj x ox hx aL hSx hh=>?_,λj x ox hj hx aL hSx hAx hBx=>?_,
    λj x j' x' ox ox' hj hj'=>I.inj j x j' x' ox ox' (by omega) (by omega)⟩,hle⟩
   by_cases lS:j=c;subst lS;rw[hi]at hx;cases hx;rw[e4];exact e5 _ _ (by simp[Env.setφ]);exact(I.vals j x ox hx aL hSx (hh.imp (λh=>by omega) id)).mono hle;rw[e3];refine(I.early j x ox (by omega) hx aL hSx hAx hBx).take I.sim e2 (λhb=>?_) hle;have:=I.inj j x c i ox o (by omega) (W7 _) hx hi aL h2 hSx hS hAx hA hBx hB hb;subst this;have:=R.inj hx hi;omega
 rw[IF.2 aG]at lM;cases lM
theorem Inv.absorbTo (R:Mw C ops perm t M)(K:Nat)(hK:K<=M)(hS:∀(j i:Nat),j<K->perm[j]? = some i->S i=true):∀(d c:Nat)(E:Env)(w:World),c+d=K->Inv C ops perm t M E0 H0 w0 c S cv bo E w->∃E',Inv C ops perm t M E0 H0 w0 K S cv bo E' w/\E.le E'
 |0,c,E,w,h,I=>by simp at h;subst h;exact⟨E,I,.refl E⟩
 |d+1,c,E,w,h,I=>by obtain⟨i,o,h1,_⟩:=R.step c (by omega);obtain⟨E',I',l1⟩:=I.absorb R (by omega) h1 (hS c i (by omega) h1);obtain⟨E2,I2,l2⟩:=Inv.absorbTo R K hK hS d (c+1) E' w (by omega) I';exact⟨E2,I2,l1.trans l2⟩

end

end
theorem Re {p q:Nat->Bool}{i:Nat}(hp:p i=true)(hq:q i=false)(h:∀x,q x=true->p x=true):∀l:zAb,(l.filter q).length<=(l.filter p).length/\(i∈l->(l.filter q).length<(l.filter p).length)
 |[]=>⟨W7 _,λh=>by simp at h⟩
 |x::l=>by obtain⟨h1,h2⟩:=Re hp hq h l;by_cases hx:q x=true;rw[Ze hx,Ze (h x hx)];simp only[zXj];refine⟨by omega,λhm=>?_⟩;rcases Xs.1 hm with e | e;rw[<-e,hq]at hx;cases hx;have:=h2 e;omega;rw[List.filter_cons_of_neg hx];by_cases tI:p x=true;rw[Ze tI];simp only[zXj];exact⟨by omega,λ_=>by omega⟩;rw[List.filter_cons_of_neg tI];refine⟨h1,λhm=>?_⟩;rcases Xs.1 hm with e | e;rw[<-e]at tI;exact absurd hp tI;exact h2 e
section
variable {C:Cfg}{ops:Array Oper}{perm:zAb}{t:Tr}{M:Nat}{E0:Env}{H0:Aa}{w0:World}{S:Nat->Bool}{cv:Nat->Value}{bo:Nat->Nat}
theorem Inv.add (R:Mw C ops perm t M){c:Nat}{E:Env}{w:World}(I:Inv C ops perm t M E0 H0 w0 c S cv bo E w){j i:Nat}{o:Oper}(hj:perm[j]? = some i)(ho:ops[i]? = some o)(iB:c<=j)(jU:j<M)(lM:isE o=false)
  (aV:∀e∈o.after,Region.binds .any e=true->S e.on=true){E':Env}{w':World}(hs:Sim E' (t.cur c) w')(st:BS E (t.cur c) w E' (t.cur c) w')(v:Value)(b:Nat)
  (hv:(isA o=false\/t.B j=false)->Az E' (t.V j) v)(hb:isA o=true->t.B j=true->b=w.heap.size/\RX E0 w0 t E' (t.cur c) w' j b v):Inv C ops perm t M E0 H0 w0 c (λx=>if x=i then true else S x) (λx=>if x=i then v else cv x) (λx=>if x=i then b else bo x) E' w':=by
 have hne:∀ {q x:Nat},perm[q]? = some x->x≠i->q≠j:=λh1 h2 h3=>h2 (by subst h3;rw[hj]at h1;exact(Yf h1).symm);refine⟨I.le,λq x hq hx=>?_,λq x ox hq hx aL hS=>?_,λx ox hS aL e he iP=>?_,I.glob.mono st.le,I.step.trans st,hs,λq x ox hx aL hS hh=>?_,λq x ox hq hx aL hS hA hB=>?_,λq x q' x' ox ox' hq iK hx hx' aL iU hS hS' hA hA' hB hB' heq=>?_⟩
 ·show(if x=i then true else S x)=true;split
  ·rfl
  exact I.pre q x hq hx
 by_cases aH:x=i;subst aH;rw[ho]at aL;cases aL;have:=R.inj hx hj;exact⟨lM,by omega⟩;simp only[if_neg aH]at hS;exact I.noE q x ox hq hx aL hS
 ·have hSe:S e.on=true:=by by_cases aH:x=i;subst aH;rw[ho]at aL;cases aL;exact aV e he iP;simp only[if_neg aH]at hS;exact I.closed x ox hS aL e he iP
  show(if e.on=i then true else S e.on)=true;split
  ·rfl
  exact hSe
 by_cases aH:x=i;subst aH;rw[ho]at aL;cases aL;have:=R.inj hx hj;subst this;simp only[if_true];exact hv (hh.resolve_left (by omega));simp only[if_neg aH]at hS⊢;exact(I.vals q x ox hx aL hS hh).mono st.le;by_cases aH:x=i;subst aH;rw[ho]at aL;cases aL;have:=R.inj hx hj;subst this;simp only[if_true];exact(hb hA hB).2;simp only[if_neg aH]at hS⊢;exact(I.early q x ox hq hx aL hS hA hB).persist st
 ·by_cases aH:x=i<;>by_cases gS:x'=i
  rw[aH,gS];exfalso;subst aH;rw[ho]at aL;cases aL;have:=R.inj hx hj;subst this;simp only[if_true,if_neg gS]at heq hS';obtain⟨blk,f,_,h2,_⟩:=I.early q' x' ox' iK hx' iU hS' hA' hB';have:=h2.lt;have:=(hb hA hB).1;omega;exfalso;subst gS;rw[ho]at iU;cases iU;have:=R.inj hx' hj;subst this;simp only[if_true,if_neg aH]at heq hS;obtain⟨blk,f,_,h2,_⟩:=I.early q x ox hq hx aL hS hA hB;have:=h2.lt;have:=(hb hA' hB').1;omega;simp only[if_neg aH,if_neg gS]at heq hS hS';exact I.inj q x q' x' ox ox' hq iK hx hx' aL iU hS hS' hA hA' hB hB' heq
theorem Inv.addE (R:Mw C ops perm t M){c:Nat}{E:Env}{w:World}(I:Inv C ops perm t M E0 H0 w0 c S cv bo E w){i:Nat}{o:Oper}(hj:perm[c]? = some i)(ho:ops[i]? = some o)(hcM:c<M)(hE:isE o=true)
  (aV:∀e∈o.after,Region.binds .any e=true->S e.on=true){E':Env}{w':World}(hs:Sim E' (t.cur (c+1)) w')(st:BS E (t.cur c) w E' (t.cur (c+1)) w')(v:Value)(hv:Az E' (t.V c) v):Inv C ops perm t M E0 H0 w0 (c+1) (λx=>if x=i then true else S x) (λx=>if x=i then v else cv x) bo E' w':=by
 have nU:isA o=false:=by cases hq:isA o with|false=>rfl|true=>rw[IF]at hE;rw[Pz]at hq;rw[hE]at hq;cases hq
 refine⟨hcM,λq x hq hx=>?_,λq x ox hq hx aL hS=>?_,λx ox hS aL e he iP=>?_,I.glob.mono st.le,I.step.trans st,hs,λq x ox hx aL hS hh=>?_,λq x ox hq hx aL hS hA hB=>?_,λq x q' x' ox ox' hq iK hx hx' aL iU hS hS' hA hA' hB hB' heq=>?_⟩
 ·show(if x=i then true else S x)=true;split
  ·rfl
  rename_i aH;refine I.pre q x ?_ hx;have:q≠c:=λe=>aH (by subst e;rw[hj]at hx;exact(Yf hx).symm);omega
 by_cases aH:x=i;subst aH;have:=R.inj hx hj;omega;simp only[if_neg aH]at hS;exact I.noE q x ox (by omega) hx aL hS
 ·have hSe:S e.on=true:=by by_cases aH:x=i;subst aH;rw[ho]at aL;cases aL;exact aV e he iP;simp only[if_neg aH]at hS;exact I.closed x ox hS aL e he iP
  show(if e.on=i then true else S e.on)=true;split
  ·rfl
  exact hSe
 by_cases aH:x=i;subst aH;have:=R.inj hx hj;subst this;simp only[if_true];exact hv;simp only[if_neg aH]at hS⊢;have:q≠c:=λe=>aH (by subst e;rw[hj]at hx;exact(Yf hx).symm);exact(I.vals q x ox hx aL hS (hh.imp (λh=>by omega) id)).mono st.le;by_cases aH:x=i;subst aH;have:=R.inj hx hj;omega;simp only[if_neg aH]at hS⊢;exact(I.early q x ox (by omega) hx aL hS hA hB).persist st;by_cases aH:x=i;subst aH;have:=R.inj hx hj;omega;by_cases gS:x'=i;subst gS;have:=R.inj hx' hj;omega;simp only[if_neg aH,if_neg gS]at heq hS hS';exact I.inj q x q' x' ox ox' (by omega) (by omega) hx hx' aL iU hS hS' hA hA' hB hB' heq

def FQ (n:Nat)(ops:Array Oper)(o:Oper)(tm:List Ab):List Ab:=(List.range n).map λx=>if x∈o.looksAt ops then tm.getD x .undef else .undef
theorem TF {n:Nat}{o:Oper}{tm:List Ab}(hn:tm.length=n){x:Nat}(hx:x∈o.looksAt ops):(FQ n ops o tm).getD x .undef=tm.getD x .undef:=by unfold FQ;rw[W6,WW];by_cases h:x<n;rw[Xv h];simp[hx];rw[zYb (by simp;omega),W6,zYb (by omega)];rfl
theorem Jj {n:Nat}{o:Oper}{tm:List Ab}(hn:tm.length=n){x:Operand}(hx:x∈o.op.operands):rho C.G (FQ n ops o tm) x=rho C.G tm x:=by cases x with|tmp d=>simp only[rho];refine TF hn ?_;unfold Oper.looksAt;refine WT.2 (.inl (List.mem_filterMap.2 ⟨.tmp d,by simpa using hx,rfl⟩))|_=>rfl
theorem MN {n:Nat}{o:Oper}{tm:List Ab}(hn:tm.length=n):I3 ops o (FQ n ops o tm)=I3 ops o tm:=by
 unfold I3;cases hg:o.guard with
 |none=>rfl
 |some p=>obtain⟨g,want⟩:=p;simp only[];cases hd:(ops[g]?).bind (·.dst)with|none=>rfl|some d=>have:d∈o.looksAt ops:=(by unfold Oper.looksAt;rw[hg];refine WT.2 (.inr ?_);simp[hd]);simp only[zXb];rw[TF hn this]
theorem Inv.looks (R:Mw C ops perm t M){n:Nat}{c:Nat}{E:Env}{w:World}(I:Inv C ops perm t M E0 H0 w0 c S cv bo E w){a0:Act}(h0:A4 E (t.T 0) a0.tmps.toList)(hn:(t.T 0).length=n){j i:Nat}{o:Oper}(hj:perm[j]? = some i)(ho:ops[i]? = some o)(jU:j<=M)(hS:S i=false)
  (kM:∀x,((Region.before ops).getD i 0).testBit x=true->S x=true)(hcase:(j=c/\((∀x∈perm.take (LZ ops perm),S x=true)\/∀(q k:Nat),c<=q->perm[q]? = some k->S k=false))\/((∀x∈perm.take (LZ ops perm),S x=true)/\∀(b i':Nat)(o':Oper),b<j->perm[b]? = some i'->ops[i']? = some o'->isA o'=true->∀d,o'.dst=some d->d ∉ o.looksAt ops)):A4 E (FQ n ops o (t.T j)) (Dt ops S cv perm a0).tmps.toList:=by
 have hsz:(Dt ops S cv perm a0).tmps.size=n:=by rw[Le,<-hn];simpa using h0.1.symm
 refine⟨by simp[FQ,hsz],λx y u h1 h2=>?_⟩;have hx:x<n:=by have:=(W5.1 h1).1;simpa[FQ]using this
 have hy:y=if x∈o.looksAt ops then (t.T j).getD x .undef else .undef:=by unfold FQ at h1;rw[WW,Xv hx]at h1;simpa using h1.symm
 have hu:u=(Dt ops S cv perm a0).tmps.getD x undef:=by rw[XV]at h2;simp[WL,h2]
 rw[hy];split
 ·rename_i hl;rw[hu];have gU:Dt ops S cv perm a0=Dt ops S cv (perm.drop j) (Dt ops S cv (perm.take j) a0):=by rw[<-PB,Xk]
  rw[gU,TT];refine R.read h0 x j jU λj' i' o' hj' aE dK hd=>?_;obtain⟨o2,q1,q2,q3⟩:=R.spec j i hj;rw[ho]at q1;cases q1;obtain⟨o3,p1,p2,p3,p4⟩:=q3 j' i' hj' aE;rw[dK]at p1;cases p1;have hSi:S i'=true:=(by rcases p3 with p3 | p3 | ⟨_,p3,_⟩;exact kM _ p3;rcases hcase with ⟨hE,_⟩ | ⟨hE,_⟩;exact I.pre j' i' (by omega) aE;exact hE _ p3;exact absurd hl (VbA p3 hd).1);refine⟨hSi,I.vals j' i' o' aE dK hSi ?_⟩;by_cases lS:j'<c;exact .inl lS;rcases hcase with ⟨hE,_⟩ | ⟨_,hE⟩;omega;cases hA:isA o' with|false=>exact .inr (.inl rfl)|true=>exact absurd hl (hE j' i' o' hj' aE dK hA x hd)
  ·intro k hk hSk hd;obtain⟨q,hq,hkq⟩:=Xf hk;have iK:perm[j+q]? = some k:=(by rw[<-Xh,W4 hq,hkq]);cases q with
   |zero=>rw[Nat.add_zero,hj]at iK;cases iK;rw[hS]at hSk;cases hSk
   |succ q=>obtain⟨ok,q1,q2,q3⟩:=R.spec (j+(q+1)) k iK;obtain⟨o3,p1,p2,p3,p4⟩:=q3 j i (by omega) hj;rw[ho]at p1;cases p1;rw[K2 q1]at hd;rcases p3 with p3 | p3 | ⟨_,_,p3⟩;have:S i=true:=JR (S:=λx=>S x=true) (λx ox hSx aL=>I.closed x ox hSx aL) k i (λox aL=>I.closed k ox hSk aL) p3;rw[hS]at this;cases this;rcases hcase with ⟨hE,h | h⟩ | ⟨h,_⟩;have:=h _ p3;rw[hS]at this;cases this;have:=h (j+(q+1)) k (by omega) iK;rw[hSk]at this;cases this;have:=h _ p3;rw[hS]at this;cases this;exact(VbA p3 hd).1 hl
 exact .undef _

end
section
variable {C:Cfg}{ops:Array Oper}{perm:zAb}{t:Tr}{M:Nat}{E0:Env}{H0:Aa}{w0:World}
theorem Ve1 {bf:Nat->Bool}{f:Aa->Option Ab}{v:Ab}:∀(hist:List (Nat×Aa)) (q:Nat) (e:Nat) (h:Aa),VkC bf f v hist->hist[q]? = some (e,h)->(∀(r:Nat)(e':Nat)(h':Aa),r<=q->hist[r]? = some (e',h')->bf e'=false)->f h=some v
 |[],q,e,h,_,hq,_=>by simp at hq
 |(e1,h1)::r,q,e,h,hst,hq,hb=>by
  have h0:=hb 0 e1 h1 (by omega) rfl;simp only[VkC,h0,WB,if_false]at hst;cases q with
  |zero=>simp at hq;obtain⟨rfl,rfl⟩:=hq;exact hst.1
  |succ q=>exact Ve1 r q e h hst.2 (by simpa using hq) (λr' e' h' eT=>hb (r'+1) e' h' (by omega))
theorem RU {cells:Option (List Ab)}{H H':Aa}{z:Ab}(h:A0 cells H=some (z,H')):∃blk,H'=H++[blk]:=by
 cases cells with
 |none=>cases h
 |some cs=>
  simp only[A0,zXa]at h;split at h
  simp only[WE,WY]at h;exact⟨_,h.2.symm⟩;cases h
theorem VbE {t:TypeId}{cells:Option (List Ab)}{H H':Aa}{z:Ab}(h:J0 t cells H=some (z,H')):∃blk,H'=H++[blk]:=by
 cases cells with
 |none=>cases h
 |some cs=>
  simp only[J0,zXa]at h;split at h
  simp only[WE,WY]at h;exact⟨_,h.2.symm⟩;cases h
theorem VdD {sz bytes:Nat}{z0:Option (List Ab)}{l c:Ab}{H H':Aa}{z:Ab}(h:FM sz bytes z0 l c H=some (z,H')):∃blk,H'=H++[blk]:=by
 cases z0 with
 |none=>cases h
 |some cs=>
  simp only[FM,zXa]at h;split at h
  ·split at h
   simp only[WE,WY]at h;exact⟨_,h.2.symm⟩;cases h
  cases h
theorem Ox {H H':Aa}{z:Ab}(h:EP H=some (z,H')):∃blk,H'=H++[blk]:=by simp only[EP,WE,WY]at h;exact⟨_,h.2.symm⟩
theorem Vdv {op:Op}{r:Operand->Ab}{H H':Aa}{z:Ab}(h:CW C op r H=some (z,H')):∃blk,H'=H++[blk]:=by
 unfold CW at h;split at h
 ·split at h
  cases h
  ·split at h
   exact VbE h;exact RU h
 ·split at h
  ·split at h
   cases h;exact RU h
  cases h
 ·split at h
  ·split at h
   cases h;exact VdD h
  cases h
 ·split at h
  exact Ox h
  ·split at h
   exact Ox h;cases h
  cases h
 cases h
theorem Mw.hists (R:Mw C ops perm t M)(pJ:t.hist 0=[])(cT:t.cur 0=t.hE 0):∀j,j<=M ->
  (∃p,t.cur j=t.hE j++p)/\∀c,c<=j->t.hE c=t.hE j\/∃(q e:Nat)(b:Nat)(o:Oper),(t.hist j)[q]? = some (e,t.hE c)/\c<=b/\b<j/\perm[b]? = some e/\ops[e]? = some o/\isE o=true /\
   ∀(r e':Nat)(h':Aa),r<=q->(t.hist j)[r]? = some (e',h')->∃(b':Nat)(o':Oper),c<=b'/\b'<j/\perm[b']? = some e'/\ops[e']? = some o'/\isE o'=true
 |0,_=>⟨⟨[],by rw[cT];simp⟩,λc hc=>.inl (by rw[Nat.le_zero.1 hc])⟩
 |j+1,hj=>by
  obtain⟨⟨p,hp⟩,ih⟩:=R.hists pJ cT j (by omega);obtain⟨i,o,h1,h2,_,_,hst⟩:=R.step j (by omega);have lift:t.hE (j+1)=t.hE j->t.hist (j+1)=t.hist j->∀c,c<=j+1->t.hE c=t.hE (j+1)\/∃(q e:Nat)(b:Nat)(o:Oper),(t.hist (j+1))[q]? = some (e,t.hE c)/\c<=b/\b<j+1/\perm[b]? = some e/\ops[e]? = some o/\isE o=true /\
    ∀(r e':Nat)(h':Aa),r<=q->(t.hist (j+1))[r]? = some (e',h')->∃(b':Nat)(o':Oper),c<=b'/\b'<j+1/\perm[b']? = some e'/\ops[e']? = some o'/\isE o'=true:=by
   intro e1 e2 c hc;by_cases iB:c=j+1;exact .inl (by rw[iB]);rcases ih c (by omega)with h | ⟨q,e,b,ob,g1,g2,g3,g4,g5,g6,g7⟩;exact .inl (by rw[h,e1]);refine .inr ⟨q,e,b,ob,by rw[e2];exact g1,g2,by omega,g4,g5,g6,λr e' h' hr hh=>?_⟩;rw[e2]at hh;obtain⟨b',o',x1,x2,x3⟩:=g7 r e' h' hr hh;exact⟨b',o',x1,by omega,x3⟩
  rcases hst with ⟨aG,_,_,e1,e2,e3⟩ | ⟨aG,hg,e1,e3⟩ | ⟨aG,hg,e1,e3⟩;exact⟨⟨p,by rw[e2,e1];exact hp⟩,lift e1 e3⟩
  ·refine⟨?_,lift e1 e3⟩;cases hB:t.B j with
   |false=>rw[hB]at hg;simp only[gA,WB,if_false,WE,WY]at hg;exact⟨p,by rw[<-hg.2,e1];exact hp⟩
   |true=>rw[hB]at hg;simp only[gA,if_true]at hg;have qN:=Vdv hg;obtain⟨blk,hb⟩:=qN;exact⟨p++[blk],by rw[hb,e1,hp,WD]⟩
  ·refine⟨⟨[],by rw[e1];simp⟩,λc hc=>?_⟩;by_cases iB:c=j+1;exact .inl (by rw[iB])
   ·have hEo:isE o=true:=IF.2 aG;rcases ih c (by omega)with h | ⟨q,e,b,ob,g1,g2,g3,g4,g5,g6,g7⟩;refine .inr ⟨0,i,j,o,by rw[e3,h];rfl,by omega,by omega,h1,h2,hEo,λr e' h' hr hh=>?_⟩;have:r=0:=(by omega);subst this;rw[e3]at hh;simp at hh;exact⟨j,o,by omega,by omega,by rw[<-hh.1];exact h1,by rw[<-hh.1];exact h2,hEo⟩
    ·refine .inr ⟨q+1,e,b,ob,by rw[e3];simpa using g1,g2,by omega,g4,g5,g6,λr e' h' hr hh=>?_⟩;rw[e3]at hh;cases r with
     |zero=>simp at hh;exact⟨j,o,by omega,by omega,by rw[<-hh.1];exact h1,by rw[<-hh.1];exact h2,hEo⟩
     |succ r=>obtain⟨b',o',x1,x2,x3⟩:=g7 r e' h' (by omega) (by simpa using hh);exact⟨b',o',x1,by omega,x3⟩
theorem RV {cells:Option (List Ab)}{H:Aa}(h:A0 cells H≠none)(H2:Aa):A0 cells H2≠none:=by cases cells with|none=>exact h|some cs=>simp only[A0,zXa]at h⊢;split<;>simp_all
theorem VbF {t:TypeId}{cells:Option (List Ab)}{H:Aa}(h:J0 t cells H≠none)(H2:Aa):J0 t cells H2≠none:=by cases cells with|none=>exact h|some cs=>simp only[J0,zXa]at h⊢;split<;>simp_all
theorem VdE {sz bytes:Nat}{z0:Option (List Ab)}{l c:Ab}{H:Aa}(h:FM sz bytes z0 l c H≠none)(H2:Aa):FM sz bytes z0 l c H2≠none:=by
 cases z0 with
 |none=>exact h
 |some cs=>
  simp only[FM,zXa]at h⊢;split at h
  ·split at h
   rename_i hc;rw[if_pos hc];simp;exact absurd rfl h
  exact absurd rfl h
theorem Vdw {op:Op}{r:Operand->Ab}{H:Aa}(h:CW C op r H≠none)(H2:Aa):CW C op r H2≠none:=by
 cases op with
 |alloc t=>simp only[CW]at h⊢;split;rename_i hk;rw[if_pos hk]at h;exact h;rename_i hk;rw[if_neg hk]at h;split;rename_i oY;rw[oY]at h;exact VbF h H2;rename_i oY;rw[oY]at h;exact RV h H2
 |box t x=>simp only[CW]at h⊢;cases hcs:(r x).acells with|none=>rw[hcs]at h;exact h|some cs=>rw[hcs]at h;simp only[]at h⊢;split;rename_i hk;rw[if_pos hk]at h;exact h;rename_i hk;rw[if_neg hk]at h;exact RV h H2
 |makeSlice t l c=>
  simp only[CW]at h⊢;cases hu:C.P.underlying t with
  |none=>rw[hu]at h;exact h
  |some d=>
   rw[hu]at h;cases d<;>first | exact h | skip
   simp only[]at h⊢;split;rename_i hk;rw[if_pos hk]at h;exact h;rename_i hk;rw[if_neg hk]at h;exact VdE h H2
 |makeMap t x=>
  cases x with
  |none=>simp[CW,EP]
  |some y=>
   simp only[CW]at h⊢;cases hu:C.P.underlying t with
   |none=>rw[hu]at h;exact h
   |some d=>
    rw[hu]at h;cases d<;>first | exact h | skip
    simp only[]at h⊢;cases hy:r y<;>rw[hy]at h<;>first | exact h | simp[EP]
 |_=>exact h
theorem Vjn (hC:N0 C){n:Nat}{out:Res×Aa}{k:List Ab->Aa->Out}{kp:Ab->List Ab->Aa->Out}{Q:Exit->Act->World->Prop}(hk:KOk C n E0 H0 w0 out k (Q .normal))(cX:VmB C n E0 H0 w0 out kp Q)
  (R:Mw C ops perm t M)(pJ:t.hist 0=[])(cT:t.cur 0=t.hE 0)(hfin:(M=perm.length/\k (t.T M) (t.cur M)=some out)\/Qi C ops (λi j=>((Region.before ops).getD j 0).testBit i) perm kp out t M){a0:Act}(hn:(t.T 0).length=n)(pM:a0.defers=[]):∀(fuel:Nat)(listed:Array Bool)(a:Act)(w:World)(c:Nat)(S:Nat->Bool)(cv:Nat->Value)(bo:Nat->Nat)(E:Env),LZ ops perm<=c->listed.size=ops.size->(∀i,S i=listed.getD i false)->((List.range ops.size).filter λi=>!listed.getD i true).length<=fuel ->
   Inv C ops perm t M E0 H0 w0 c S cv bo E w->A4 E (t.T 0) a0.tmps.toList->a=Dt ops S cv perm a0->wpAny C.P .any ops Q fuel listed a w:=by
 have done:∀(listed:Array Bool)(a:Act)(w:World)(c:Nat)(S:Nat->Bool)(cv:Nat->Value)(bo:Nat->Nat)(E:Env),listed.size=ops.size->(∀i,S i=listed.getD i false)->Inv C ops perm t M E0 H0 w0 c S cv bo E w->A4 E (t.T 0) a0.tmps.toList->a=Dt ops S cv perm a0 ->
   Region.ready .any ops listed=[]->Q .normal a w:=by
  intro listed a w c S cv bo E hsz hS I h0 ha hr;have all:∀(j i:Nat),perm[j]? = some i->S i=true:=by
   intro j
   induction j using Nat.strongRecOn with
   |_ j ih=>intro i hj;obtain⟨o,h1,h2,_⟩:=R.spec j i hj;cases hSi:S i with|true=>rfl|false=>exfalso;have hi:i<ops.size:=(Xn.1 h1).1;have hm:i∈Region.ready .any ops listed:=(by rw[mem_ready];refine⟨?_,o,h1,λe he hb=>?_⟩;have:=hS i;rw[hSi]at this;rw[WL,Ys (by omega)]at this⊢;simpa using this.symm;obtain⟨b,gQ,gP⟩:=h2 e he hb;rw[<-hS];exact ih b gQ e.on gP);rw[hr]at hm;simp at hm
  rcases hfin with ⟨hM,hout⟩ | ⟨hM,i,o,x,H',h1,h2,h3,_⟩;obtain⟨E',I',hle⟩:=Inv.absorbTo R M (W7 _) (λj i _ hj=>all j i hj) (M-c) c E w (by have:=I.le;omega) I;have dY:A4 E' (t.T 0) a0.tmps.toList:=h0.mono hle;subst ha;refine hk E' _ _ _ w I'.glob I'.step ⟨?_,R.tlen hn M (W7 _),by rw[Lf];exact pM,I'.sim⟩ hout;have e:(Dt ops S cv perm a0).tmps.toList.length=a0.tmps.toList.length:=(by simp[Le]);refine⟨by rw[e,<-h0.1];exact R.tlen rfl M (W7 _),λx y v hx hv=>?_⟩;have eT:=R.read (S:=S) (cv:=cv) dY x M (W7 _) λj i o hj hi ho _=>⟨all j i hi,I'.vals j i o hi ho (all j i hi) (.inl hj)⟩;rw[hM,Xu,<-hM]at eT;rw[W6,hx,WL]at eT;rw[XV]at hv;rw[hv]at eT;exact eT;have:=(I.noE M i o I.le h1 h2 (all M i h1)).1;rw[IF.2 h3]at this;cases this
 intro fuel
 induction fuel with
 |zero=>
  intro listed a w c S cv bo E hK0 hsz hS cA I h0 ha;have hr:Region.ready .any ops listed=[]:=by
   cases hr:Region.ready .any ops listed with
   |nil=>rfl
   |cons x l=>exfalso;have hm:x∈Region.ready .any ops listed:=(by rw[hr];simp);obtain⟨h1,o,h2,_⟩:=mem_ready.1 hm;have hx:x<ops.size:=(Xn.1 h2).1;have:x∈(List.range ops.size).filter λi=>!listed.getD i true:=(by rw[Xz,Ym];exact⟨hx,by rw[h1];rfl⟩);have:=List.length_pos_of_mem this;omega
  exact⟨hr,done listed a w c S cv bo E hsz hS I h0 ha hr⟩
 |succ fuel ih=>
  intro listed a w c S cv bo E hK0 hsz hS cA I h0 ha;refine⟨done listed a w c S cv bo E hsz hS I h0 ha,λi hi=>?_⟩;obtain⟨h1,o,ho,iA⟩:=mem_ready.1 hi;have aV:∀e∈o.after,Region.binds .any e=true->S e.on=true:=λe he hb=>by rw[hS];exact iA e he hb
  have aM:i<ops.size:=(Xn.1 ho).1;have hSi:S i=false:=by rw[hS];rw[WL,Ys (by omega)]at h1⊢;simpa using h1
  have kM:∀x,((Region.before ops).getD i 0).testBit x=true->S x=true:=λx hx=>JR (S:=λx=>S x=true) (λx ox hSx aL=>I.closed x ox hSx aL) i x (λox aL=>by rw[ho]at aL;cases aL;exact aV) hx;have hpre:∀x∈perm.take (LZ ops perm),S x=true:=λx hx=>by obtain⟨q,hq,xR⟩:=Xf hx;rw[YY]at xR;have iK:q<LZ ops perm/\q<perm.length:=(by simpa[Nat.lt_min]using hq);exact I.pre q x (by omega) (by rw[W4 iK.2,xR])
  obtain⟨j,hj⟩:=R.pos aM;have iB:c<=j:=by rcases Xj j c with h | h;rw[I.pre j i h hj]at hSi;cases hSi;exact h
  have tO:j<perm.length:=(W5.1 hj).1;have jU:j<=M:=by rcases hfin with ⟨h,_⟩ | ⟨_,iM,oM,x,H',g1,g2,g3,_,_,_,g7⟩;omega;rcases Xj M j with h | h;have:=(I.noE M iM oM I.le g1 g2 (kM iM (g7 j i h hj))).1;rw[IF.2 g3]at this;cases this;exact h
  have hS':∀x,(if x=i then true else S x)=(listed.setIfInBounds i true).getD x false:=by intro x;rw[WL];by_cases hx:x=i;subst hx;rw[XC (by omega)];simp;rw[X8 (λh=>hx h.symm),if_neg hx,hS,WL]
  have sM:((List.range ops.size).filter λx=>!(listed.setIfInBounds i true).getD x true).length<=fuel:=by
   have:=(Re (p:=λx=>!listed.getD x true) (q:=λx=>!(listed.setIfInBounds i true).getD x true) (i:=i) (by rw[h1];rfl) (by rw[WL,XC (by omega)];rfl) (λx hx=>by
    by_cases aH:x=i;subst aH;rw[h1];rfl
    ·rw[WL,X8 (λh=>aH h.symm),<-WL]at hx;exact hx) (List.range ops.size)).2 (Ym.2 aM)
   omega
  have dR:∀v,a.put o.dst v=Dt ops (λx=>if x=i then true else S x) (λx=>if x=i then v else cv x) perm a0:=by intro v;rw[Rb (v:=v) hSi perm a0 j hj (λq r x h1 h2=>R.inj h1 h2) (λq x hq hx hSx d hd=>?_),<-ha,K2 ho];obtain⟨ok,q1,_,q3⟩:=R.spec q x hx;obtain⟨o3,p1,_,p3,_⟩:=q3 j i hq hj;rw[ho]at p1;cases p1;rw[K2 ho]at hd;rw[K2 q1];rcases p3 with p3 | p3 | ⟨_,p3,_⟩;have:S i=true:=JR (S:=λx=>S x=true) (λx ox hSx aL=>I.closed x ox hSx aL) x i (λox aL=>I.closed x ox hSx aL) p3;rw[hSi]at this;cases this;have:=hpre _ p3;rw[hSi]at this;cases this;exact(VbA p3 hd).2
  have hsz':(listed.setIfInBounds i true).size=ops.size:=by simp[hsz]
  have next:∀(w':World)(c':Nat)(v:Value)(bo':Nat->Nat)(E':Env),c<=c'->E.le E'->Inv C ops perm t M E0 H0 w0 c' (λx=>if x=i then true else S x) (λx=>if x=i then v else cv x) bo' E' w'->wpAny C.P .any ops Q fuel (listed.setIfInBounds i true) (a.put o.dst v) w':=
   λw' c' v bo' E' hcc hle I'=>ih _ _ w' c' _ _ bo' E' (by omega) hsz' hS' sM I' (h0.mono hle) (dR v)
  cases hE:isE o with
  |true=>
   have jP:∀(b x:Nat),b<j->perm[b]? = some x->S x=true:=λb x hb hx=>(by obtain⟨oj,q1,_,q3⟩:=R.spec j i hj;rw[ho]at q1;cases q1;obtain⟨_,_,_,p3,_⟩:=q3 b x hb hx;rcases p3 with p3 | p3 | ⟨p3,_⟩;exact kM x p3;exact hpre x p3;rw[hE]at p3;cases p3);obtain⟨E1,I1,hle⟩:=Inv.absorbTo R j jU jP (j-c) c E w (by omega) I;have h01:=h0.mono hle;have hl:=I1.looks R h01 hn hj ho jU hSi kM (.inl ⟨rfl,.inl hpre⟩);rw[<-ha]at hl;have hTn:=R.tlen hn j jU;have gH:=N7 (C:=C) I1.glob hl;unfold wpOp;simp only[ho];rcases Xj j M with hlt | hge;obtain⟨i',o',g1,g2,cC,_,hst⟩:=R.step j hlt;rw[hj]at g1;cases g1;rw[ho]at g2;cases g2;have hw:=OV (b:=t.B j) hl ((MN hTn).trans cC);rw[hw];rcases hst with ⟨aG,_⟩ | ⟨aG,_⟩ | ⟨aG,hg,_⟩;rw[IF]at hE;rw[hE]at aG;cases aG;rw[IF]at hE;rw[hE]at aG;cases aG;cases hB:t.B j with|false=>rw[hB]at hg;simp only[gE,WB,if_false,WE,WY,Res.ret.injEq]at hg;simp only[WB,if_false];exact next w (j+1) undef bo E1 (by omega) hle (I1.addE R hj ho hlt hE aV (by rw[<-hg.2];exact I1.sim) (by rw[<-hg.2];exact .refl _ _ _) undef (by rw[<-hg.1];exact Pb))|true=>rw[hB]at hg;simp only[gE,if_true]at hg;simp only[if_true];refine .inl ?_;rw[<-R8 (r:=rho C.G (FQ n ops o (t.T j))) (λx hx=>Jj hTn hx)]at hg;refine SV hC I1.glob I1.sim gH hg (λE' w' v x hres hv q1 q2=>?_) (λE' w' v x hres=>by cases hres);cases hres;exact next w' (j+1) v bo E' (by omega) (hle.trans q2.le) (I1.addE R hj ho hlt hE aV q1 q2 v hv)
   have oD:j=M:=(by omega);rcases hfin with ⟨h,_⟩ | ⟨hM,i',o',x,H',g1,g2,g3,cC,hg,hout,_⟩;omega;rw[<-oD]at g1 cC hg hout;rw[hj]at g1;cases g1;rw[ho]at g2;cases g2;have hw:=OV hl ((MN hTn).trans cC);rw[hw];simp only[if_true];refine .inl ?_;rw[<-R8 (r:=rho C.G (FQ n ops o (t.T j))) (λx hx=>Jj hTn hx)]at hg;refine SV hC I1.glob I1.sim gH hg (λE' w' v x hres=>by cases hres) (λE' w' v x hres hv q1 q2=>?_);cases hres;refine cX E' _ H' a w' _ v (I1.glob.mono q2.le) (I1.step.trans q2) ⟨⟨?_,λx' y u hy hu=>?_⟩,by simp[hTn],by rw[ha,Lf];exact pM,q1⟩ hv hout;have:=hl.1;simp only[XB];rw[hTn,<-this];simp[FQ];rw[WW]at hy;cases hq:(t.T j)[x']? with|none=>simp[hq]at hy|some q=>simp[hq]at hy;subst hy;exact .undef _
  |false=>
   have hlt:j<M:=(by rcases Xj j M with h | h;exact h;exfalso;have oD:j=M:=(by omega);rcases hfin with ⟨h,_⟩ | ⟨hM,i',o',x,H',g1,g2,g3,_⟩;omega;rw[<-oD,hj]at g1;cases g1;rw[ho]at g2;cases g2;rw[IF.2 g3]at hE;cases hE);have jQ:∃(c':Nat)(E':Env),c<=c'/\c'<=j/\Inv C ops perm t M E0 H0 w0 c' S cv bo E' w/\E.le E'/\A4 E' (FQ n ops o (t.T j)) (Dt ops S cv perm a0).tmps.toList:=(by by_cases sP:∀(b i':Nat)(o':Oper),b<j->perm[b]? = some i'->ops[i']? = some o'->isA o'=true->∀d,o'.dst=some d->d ∉ o.looksAt ops;exact⟨c,E,W7 _,iB,I,.refl E,I.looks R h0 hn hj ho jU hSi kM (.inr ⟨hpre,sP⟩)⟩;have jP:∀(b x:Nat),b<j->perm[b]? = some x->S x=true:=(by intro b x hb hx;apply Classical.byContradiction;intro hSx;apply sP;intro b1 i1 o1 gQ jX ho1 hA1;obtain⟨oj,q1,_,q3⟩:=R.spec j i hj;rw[ho]at q1;cases q1;obtain⟨o3,p1,_,_,p4⟩:=q3 b1 i1 gQ jX;rw[ho1]at p1;cases p1;rcases p4 hA1 hE with h | h;exact h;exact absurd ((h b x hb hx).elim (kM x) (hpre x)) hSx);obtain⟨E1,I1,hle⟩:=Inv.absorbTo R j jU jP (j-c) c E w (by omega) I;exact⟨j,E1,iB,W7 _,I1,hle,I1.looks R (h0.mono hle) hn hj ho jU hSi kM (.inl ⟨rfl,.inl hpre⟩)⟩);obtain⟨c',E1,hcc,iB,I,lP,hl⟩:=jQ;rw[<-ha]at hl;have hTn:=R.tlen hn j jU;have gH:=N7 (C:=C) I.glob hl;unfold wpOp;simp only[ho];obtain⟨i',o',g1,g2,cC,_,hst⟩:=R.step j hlt;rw[hj]at g1;cases g1;rw[ho]at g2;cases g2;have hw:=OV (b:=t.B j) hl ((MN hTn).trans cC);rw[hw];rcases hst with ⟨aG,hg,qD,_⟩ | ⟨aG,hg,_⟩ | ⟨aG,_⟩
   ·have nU:¬isA o=true:=λh=>(by rw[Pz.1 h]at aG;cases aG);cases hB:t.B j with
    |false=>rw[hB]at hg;simp only[gR,WB,if_false,WE]at hg;simp only[WB,if_false];exact next w c' undef _ E1 hcc lP (I.add R hj ho iB hlt hE aV I.sim (.refl _ _ _) undef 0 (λ_=>by rw[<-hg];exact Pb) (λh=>absurd h nU))
    |true=>
     rw[hB]at hg;simp only[gR,if_true]at hg;simp only[if_true];refine .inl ?_;obtain⟨⟨p,hp⟩,_⟩:=R.hists pJ cT c' (by omega);obtain⟨_,sE⟩:=R.hists pJ cT j jU;have hE':BK C o.op (rho C.G (t.T j)) (t.hE c')=some (t.V j):=by
      cases oZ:JU o.op with
      |false=>rw[VaA oZ (t.hE j)];exact hg
      |true=>
       rcases sE c' iB with e | ⟨q,e,b,ob,q1,q2,q3,q4,q5,q6,q7⟩;rw[e];exact hg
       ·have hst:=qD oZ;rw[hB]at hst;have:=Ve1 (t.hist j) q e (t.hE c') hst q1 (λr e' h' hr hh=>by
         obtain⟨b',o',x1,x2,x3,x4,x5⟩:=q7 r e' h' hr hh;cases mB:((Region.before ops).getD i 0).testBit e' with
         |false=>exact mB
         |true=>have:=(I.noE b' e' o' x1 x3 x4 (kM e' mB)).1;rw[x5]at this;cases this)
        simpa[gR]using this
     have hst:=Vdu p hE';rw[<-hp,<-R7 (r:=rho C.G (FQ n ops o (t.T j))) (λx hx=>Jj hTn hx)]at hst;obtain⟨v,w',E',z1,z2,z3,z4⟩:=VbO hC.eq hC.map I.sim gH (λ_=>rfl) hst;unfold Oper.wp;rw[z1,Oper.upon_value];exact next w' c' v _ E' hcc (lP.trans z4.le) (I.add R hj ho iB hlt hE aV z3 z4 v 0 (λ_=>z2) (λh=>absurd h nU))
   ·have hA:isA o=true:=Pz.2 aG;cases hB:t.B j with
    |false=>rw[hB]at hg;simp only[gA,WB,if_false,WE,WY]at hg;simp only[WB,if_false];exact next w c' undef _ E1 hcc lP (I.add R hj ho iB hlt hE aV I.sim (.refl _ _ _) undef 0 (λ_=>by rw[<-hg.1];exact Pb) (λ_ h=>by rw[hB]at h;cases h))
    |true=>
     rw[hB]at hg;simp only[gA,if_true]at hg;simp only[if_true];refine .inl ?_;rw[<-VaB (r:=rho C.G (FQ n ops o (t.T j))) (λx hx=>Jj hTn hx)]at hg;have aN:=Vdw (H2:=t.cur c') (by rw[hg];simp);cases hst:CW C o.op (rho C.G (FQ n ops o (t.T j))) (t.cur c')with
     |none=>exact absurd hst aN
     |some pz=>
      obtain⟨z,H'⟩:=pz;obtain⟨B,v,ob,f,rfl,hz,aD,z1,z2,z3⟩:=(VbP I.sim gH hst).ex;rw[aD]at hg;simp only[WE,WY]at hg;obtain⟨l1,l2⟩:=I.sim.laid ob;unfold Oper.wp;rw[z1,Oper.upon_value];refine next _ c' v _ E1 hcc lP (I.add R hj ho iB hlt hE aV l1 l2 v w.heap.size (λh=>?_) (λ_ _=>⟨rfl,B,f,I.step.size,z2,hg.2.symm,hg.1.symm,z3⟩))
      rcases h with h | h;rw[hA]at h;cases h;rw[hB]at h;cases h
   rw[IF.2 aG]at hE;cases hE

end
theorem VdA {C:Cfg}{E:Env}{r:Operand->Ab}{ρ:Operand->Value}{H:Aa}{o:Oper}{z:Ab}(hp:Tu o=true)(hr:∀x,Az E (r x) (ρ x))(h:BK C o.op r H=some z):∃v,Az E z v/\∀w,(execOp ρ o).run C.P w=.ok (.value v) w:=by
 unfold Tu at hp;simp only[WG]at hp;obtain⟨_,hp⟩:=hp;split at hp
 rename_i x aF;simp only[aF,BK,WE]at h;subst h;exact⟨ρ x,hr x,λw=>by simp only[execOp,aF];rfl⟩;rename_i x aF;simp only[aF,BK]at h;exact Vah aF (hr x) h
 ·rename_i s x f aF;simp only[aF,BK]at h;unfold PE at h;split at h
  ·rename_i fd kB;split at h
   cases h
   ·rename_i hk;obtain⟨_,hz,_⟩:=CF (P:=C.P) (t:=fd.type) (by simpa using hk);split at kB
    rename_i fs hu;obtain⟨v,h1,h2⟩:=UN (C:=C) hu kB hz (hr x) h;exact⟨v,h1,λw=>by simp only[execOp,aF,zXf,h2];rfl⟩;simp at kB
  cases h
 cases hp
theorem Vik {ops:Array Oper}{perm:zAb}(h:LZ ops perm≠0):Region.noSelect ops=true:=by
 unfold LZ at h;split at h
 ·assumption
 exact absurd rfl h
section
variable {C:Cfg}{ops:Array Oper}{perm:zAb}{t:Tr}{M:Nat}{E0:Env}{H0:Aa}{w0:World}
theorem Vjm (hC:N0 C){n:Nat}{out:Res×Aa}{k:List Ab->Aa->Out}{kp:Ab->List Ab->Aa->Out}{Q:Exit->Act->World->Prop}(hk:KOk C n E0 H0 w0 out k (Q .normal))(cX:VmB C n E0 H0 w0 out kp Q)
  (hQ:∀c a d v w,Q (.panic c) (a.put d v) w->Q (.panic c) a w)
  (R:Mw C ops perm t M)(pJ:t.hist 0=[])(cT:t.cur 0=t.hE 0)(hfin:(M=perm.length/\k (t.T M) (t.cur M)=some out)\/Qi C ops (λi j=>((Region.before ops).getD j 0).testBit i) perm kp out t M){a0:Act}(hn:(t.T 0).length=n)(pM:a0.defers=[])(hKM:LZ ops perm<=M):∀(d q:Nat)(done:zAb)(fuel:Nat)(listed:Array Bool)(a:Act)(w:World)(S:Nat->Bool)(cv:Nat->Value)(bo:Nat->Nat)(E:Env),q+d=LZ ops perm->(d=0\/UH ops (perm.drop q) done=d)->(∀x,x∈done↔S x=true)->(∀(p x:Nat),q<=p->perm[p]? = some x->S x=false)->listed.size=ops.size->(∀i,S i=listed.getD i false)->((List.range ops.size).filter λi=>!listed.getD i true).length<=fuel ->
   Inv C ops perm t M E0 H0 w0 q S cv bo E w->A4 E (t.T 0) a0.tmps.toList->a=Dt ops S cv perm a0->wpAny C.P .any ops Q fuel listed a w:=by
 intro d
 induction d with
 |zero=>intro q done fuel listed a w S cv bo E hqd _ _ _ hsz hS cA I h0 ha;exact Vjn hC hk cX R pJ cT hfin hn pM fuel listed a w q S cv bo E (by omega) hsz hS cA I h0 ha
 |succ d ih=>
  intro q done fuel listed a w S cv bo E hqd hN kC aR hsz hS cA I h0 ha;have hN:=hN.resolve_left (by omega);cases hdr:perm.drop q with
  |nil=>rw[hdr]at hN;simp[UH]at hN
  |cons i rest=>
   rw[hdr]at hN;have hi:perm[q]? = some i:=(by have:=congrArg (·[0]?) hdr;simpa using this);have eB:perm.drop (q+1)=rest:=(by rw[<-X6,hdr];rfl);unfold UH at hN;cases ho:ops[i]? with
   |none=>rw[ho]at hN;simp at hN
   |some o=>
    rw[ho]at hN;simp only at hN;split at hN
    ·rename_i hc;simp only[WG,X7]at hc;obtain⟨⟨⟨nO,iA⟩,dS⟩,aN⟩:=hc;have hN':UH ops rest (i::done)=d:=(by omega);have aM:i<ops.size:=(Xn.1 ho).1;have hSi:S i=false:=aR q i (W7 _) hi;have aV:∀e∈o.after,Region.binds .any e=true->S e.on=true:=λe he hb=>(by have:=Z3.1 iA e he;simp only[hb,Xo,zXo]at this;exact(kC _).1 (by simpa using this));have hlt:q<M:=(by omega);have aQ:∀x,x<ops.size->listed.getD x true=S x:=λx hx=>(by rw[hS,WL,WL,Ys (by omega)];rfl);obtain⟨i',o',g1,g2,cC,_,hst⟩:=R.step q hlt;rw[hi]at g1;cases g1;rw[ho]at g2;cases g2;have eX:o.guard=none:=(by unfold Tu at nO;simp only[WG]at nO;simpa using nO.1);have lY:cls o.op=.r:=by
      unfold Tu at nO;simp only[WG]at nO;have:=nO.2;split at this
      rename_i h;rw[h];rfl
      rename_i h;rw[h];rfl
      rename_i h;rw[h];rfl
      cases this
     have hB:t.B q=true:=(by unfold I3 at cC;rw[eX]at cC;simpa using cC.symm);have lM:isE o=false:=(by unfold isE;rw[lY]);have nU:isA o=false:=(by unfold isA;rw[lY]);rcases hst with ⟨_,hg,_⟩ | ⟨aG,_⟩ | ⟨aG,_⟩
     ·rw[hB]at hg;simp only[gR,if_true]at hg;have kM:∀x,((Region.before ops).getD i 0).testBit x=true->S x=true:=λx hx=>JR (S:=λx=>S x=true) (λx ox hSx aL=>I.closed x ox hSx aL) i x (λox aL=>by rw[ho]at aL;cases aL;exact aV) hx;have hl:=I.looks R h0 hn hi ho (by omega) hSi kM (.inl ⟨rfl,.inr aR⟩);rw[<-ha]at hl;have hTn:=R.tlen hn q (by omega);have gH:=N7 (C:=C) I.glob hl;rw[<-R7 (r:=rho C.G (FQ n ops o (t.T q))) (λx hx=>Jj hTn hx)]at hg;obtain⟨v,hv,aC⟩:=VdA nO gH hg;have hy:Yields C.P ops o v a:=.inl ⟨by unfold Region.wanted;rw[eX],aC⟩;have yV:((List.range ops.size).filter λx=>!(listed.setIfInBounds i true).getD x true).length<((List.range ops.size).filter λx=>!listed.getD x true).length:=
       (Re (p:=λx=>!listed.getD x true) (q:=λx=>!(listed.setIfInBounds i true).getD x true) (i:=i) (by rw[aQ i aM,hSi];rfl) (by rw[WL,XC (by omega)];rfl) (λx hx=>by
        by_cases aH:x=i;subst aH;rw[aQ x aM,hSi];rfl
        ·rw[WL,X8 (λh=>aH h.symm),<-WL]at hx;exact hx) (List.range ops.size)).2 (Ym.2 aM)
      cases fuel with
      |zero=>omega
      |succ fuel=>refine wpAny_take ho (Vik (perm:=perm) (by omega)) ?_ ?_ (λc a w h=>hQ c a o.dst v w h) hy ?_;unfold Region.free;rw[ho];simp only;rw[WO]at aN⊢;intro x hx;have h1:=aN x hx;simp only[X0]at h1⊢;refine h1.imp (λh=>h.imp id λh=>?_) id;rw[aQ x (Ym.1 hx)];exact(kC x).1 (by simpa using h);have:i∈Region.ready .any ops listed:=mem_ready.2 ⟨by rw[aQ i aM,hSi],o,ho,λe he hb=>by rw[<-hS];exact aV e he hb⟩;simpa using this;have hS':∀x,(if x=i then true else S x)=(listed.setIfInBounds i true).getD x false:=(by intro x;rw[WL];by_cases hx:x=i;subst hx;rw[XC (by omega)];simp;rw[X8 (λh=>hx h.symm),if_neg hx,hS,WL]);have I1:=I.add (o:=o) (bo:=bo) R hi ho (W7 _) hlt lM aV I.sim (.refl _ _ _) v 0 (λ_=>hv) (λh=>by rw[nU]at h;cases h);obtain⟨E',I2,hle⟩:=I1.absorb R hlt hi (by simp);refine ih (q+1) (i::done) fuel _ _ w _ _ _ E' (by omega) (.inr (by rw[eB];exact hN')) (λx=>?_) (λp x hp hx=>?_) (by simp[hsz]) hS' (by omega) I2 (h0.mono hle) ?_;by_cases hx:x=i;simp[hx];simp[hx,kC x];have:x≠i:=λe=>(by subst e;have:=R.inj hx hi;omega);simp only[if_neg this];exact aR p x (by omega) hx;rw[Rb (v:=v) hSi perm a0 q hi (λq r x h1 h2=>R.inj h1 h2) (λp x hp hx hSx d hd=>by rw[aR p x (by omega) hx]at hSx;cases hSx),<-ha,K2 ho]
     rw[lY]at aG;cases aG;rw[lY]at aG;cases aG
    omega

end
theorem Vj9 {P:Program}{ops:Array Oper}{Q Q':Exit->Act->World->Prop}{md:Region.Mode}(hQ:∀e a w,Q e a w->Q' e a w):∀(fuel:Nat)(listed:Array Bool)(a:Act)(w:World),wpAny P md ops Q fuel listed a w->wpAny P md ops Q' fuel listed a w:=by
 intro fuel
 induction fuel with
 |zero=>exact λ_ _ _ h=>⟨h.1,hQ _ _ _ h.2⟩
 |succ fuel ih=>
  intro listed a w h;refine⟨λh1=>hQ _ _ _ (h.1 h1),λi hi=>?_⟩;have h2:=h.2 i hi;unfold wpOp at h2⊢;cases ho:ops[i]? with
  |none=>rw[ho]at h2;exact ih _ _ _ h2
  |some o=>
   rw[ho]at h2;simp only at h2⊢;split
   ·rename_i hw;rw[if_pos hw]at h2;rcases h2 with h2 | ⟨h2,a2,w2,h3⟩
    ·refine .inl (Oper.wp_mono (λa w h=>ih _ a w h) ?_);unfold Oper.wp at *;generalize (execOp a.eval o).run P w=r at *;cases r with
     |ok v w'=>
      cases v with
      |enter f args=>
       refine Calls.mono (R:=_) h2 λe w2 he=>?_;cases e with
       |returned v=>exact he
       |panicked c=>exact hQ _ _ _ he
       |outgrown=>obtain⟨a2,w3,h3⟩:=he;exact⟨_,w3,hQ _ _ _ h3⟩
      |_=>exact h2
     |halt e w'=>cases e<;>first | exact hQ _ _ _ h2 | exact h2
    exact .inr ⟨h2,_,w2,hQ _ _ _ h3⟩
   rename_i hw;rw[if_neg hw]at h2;exact ih _ _ _ h2
def Vdi (Q:Exit->Act->World->Prop)(e:Exit)(a:Act)(w:World):Prop:=
 match e with
 |.panic c=>∀a':Act,a'.tmps.size=a.tmps.size->a'.defers=a.defers->Q (.panic c) a' w
 |e=>Q e a w
theorem VbD {Q:Exit->Act->World->Prop}(e:Exit)(a:Act)(w:World)(h:Vdi Q e a w):Q e a w:=by cases e<;>first | exact h _ rfl rfl | exact h
theorem Veb {Q:Exit->Act->World->Prop}(c:List PanicEntry)(a:Act)(d:Option Tmp)(v:Value)(w:World)(h:Vdi Q (.panic c) (a.put d v) w):Vdi Q (.panic c) a w:=
 λa' h1 h2=>h a' (by rw[h1,Vcd]) (by rw[h2,OB])
theorem Vbs {C:Cfg}{pb:Bool}(hC:N0 C){n:Nat}{E0:Env}{H0:Aa}{w0:World}{out:Res×Aa}{ops:Array Oper}{perm:zAb}{k:List Ab->Aa->Out}{kp:Ab->List Ab->Aa->Out}{Q:Exit->Act->World->Prop}{E:Env}{tm:List Ab}{H:Aa}{a:Act}{w:World}
  (hk:KOk C n E0 H0 w0 out k (Q .normal))(cX:VmB C n E0 H0 w0 out kp Q)(hok:KS ops perm=true)(hG:DY C.G E)(st:BS E0 H0 w0 E H w)(hf:I0 n E H tm a w)
  (h:GW C pb ops (λi j=>((Region.before ops).getD j 0).testBit i) k kp perm [] H H tm=some out):wpAny C.P .any ops Q ops.size (Array.replicate ops.size false) a {w with drawn:=w.drawn+1}:=by
 obtain⟨t,M,q1,q2,q3,q4,q5,q6,q7⟩:=OX perm [] H H tm h;simp only[KS,WG,beq_iff_eq]at hok;obtain⟨⟨hl,bQ⟩,hfrom⟩:=hok;have R:Mw C ops perm t M:=by
  refine⟨hl,λi hi=>?_,q5,λx j hx=>?_,q6⟩;have:=WO.1 bQ i (Ym.2 hi);simpa using this
  ·obtain⟨oj,y1,y2,y3⟩:=RE perm [] hfrom x j hx;refine⟨oj,y1,λe he hb=>?_,λb i hb hi=>?_⟩
   case refine_2=>obtain⟨oi,z1,z2,z3,z4⟩:=y3 i (.inr ⟨b,hb,hi⟩);exact⟨oi,z1,z2,z3,λha he=>(z4 ha he).imp id λh b' i' hb' aE=>h i' (.inr ⟨b',hb',aE⟩)⟩
   rcases y2 e he hb with h | h;simp at h;exact h
 obtain⟨d1,d2⟩:=hf.sim.drew (w.drawn+1);have hKl:∀(rest done:zAb)(j:Nat),j<UH ops rest done->∃i o,rest[j]? = some i/\ops[i]? = some o/\Tu o=true:=by
  intro rest
  induction rest with
  |nil=>intro done j h;simp[UH]at h
  |cons i rest ih=>
   intro done j h;unfold UH at h;cases ho:ops[i]? with
   |none=>rw[ho]at h;simp at h
   |some o=>
    rw[ho]at h;simp only at h;split at h
    ·rename_i hc;simp only[WG]at hc;cases j with
     |zero=>exact⟨i,o,rfl,ho,hc.1.1.1⟩
     |succ j=>obtain⟨i',o',g1,g2⟩:=ih (i::done) j (by omega);exact⟨i',o',by simpa using g1,g2⟩
    omega
 have hKN:LZ ops perm<=UH ops perm []:=by unfold LZ;split<;>omega
 have hKM:LZ ops perm<=M:=by
  rcases Xj M (LZ ops perm)with h | h
  ·exfalso;obtain⟨i,o,g1,g2,g3⟩:=hKl perm [] M (by omega);rcases q7 with ⟨e,_⟩ | ⟨_,i',o',x,H',e1,e2,e3,_⟩;have:=(W5.1 g1).1;omega
   ·rw[g1]at e1;cases e1;rw[g2]at e2;cases e2;unfold Tu at g3;simp only[WG]at g3;have:=g3.2;split at this<;>rename_i aF<;>first | (rw[aF]at e3;cases e3) | cases this
  exact h
 refine Vj9 VbD _ _ _ _ ?_;refine Vjm (E0:=E0) (H0:=H0) (w0:=w0) (Q:=Vdi Q) hC (λE tm H a w h1 h2 h3 h4=>hk E tm H a w h1 h2 h3 h4) (kp:=λv tm H=>chk (∀x∈tm,x=.undef) (kp v tm H)) ?_ Veb R q4 (by rw[q2,q3]) ?_ (a0:=a) (by rw[q1];exact hf.len) hf.defers hKM (LZ ops perm) 0 [] ops.size _ a _ (λ_=>false) (λ_=>undef) (λ_=>0) E (by omega) ?_ (λx=>by simp) (λ_ _ _ _=>rfl) (by simp) (λi=>?_) ?_ ?_ (by rw[q1];exact hf.rel) ?_
 ·intro E1 tm1 H1 a1 w1 x v h1 h2 h3 h4 h5 a' hs hd;simp only[chk]at h5;split at h5
  rename_i hu;refine cX E1 tm1 H1 a' w1 x v h1 h2 ⟨⟨?_,λj y u hy _=>?_⟩,h3.len,by rw[hd];exact h3.defers,h3.sim⟩ h4 h5;have:=h3.rel.1;simp only[Array.length_toList]at this⊢;rw[hs];exact this;rw[hu y (Xa hy)];exact .undef _;cases h5
 rcases q7 with e | ⟨e,i,o,x,H',e1,e2,e3,e4,e5,e6,e7⟩;exact .inl e;refine .inr ⟨e,i,o,x,H',e1,e2,e3,e4,e5,?_,e7⟩;simp only[chk];rw[if_pos (λy hy=>by obtain⟨_,_,rfl⟩:=XM.1 hy;rfl)];exact e6;unfold LZ;split;exact .inr rfl;exact .inl rfl;rw[WL,Array.getElem?_replicate];split<;>rfl
 exact WV (XJ _ _) (by simp);refine⟨WZ _,λj i h=>by omega,λj i o _ _ _ h=>(by cases h),λj o h=>(by cases h),hG,by rw[q3];exact st.trans d2,by rw[q3];exact d1,λj i o _ _ h=>(by cases h),λj i o _ _ _ h=>(by cases h),λj i j' i' o o' _ _ _ _ _ _ h=>(by cases h)⟩
 ·have:∀l:zAb,Dt ops (λ_=>false) (λ_=>undef) l a=a:=by
   intro l
   induction l with
   |nil=>rfl
   |cons x l ih=>rw[D8];simpa using ih
  exact(this perm).symm
theorem Vg7 {C:Cfg}(hC:N0 C)(hm:C.P.follows .mixedOrders=true):Vdq C:=
 λ_ _ _ _ _ _ _ _ _ _ _ _ _ _ _ _ _ hk cX hok hG st hf h=>wp_region_any hm (Vbs hC hk cX hok hG st hf h)
def R3 (v:Ab)(want:Bool):Option Bool:=
 match (some v:Option Ab)with
 |some (.bool b)=>some (b==want)
 |some (.tup [])=>some false
 |_=>none
def gk (c:Ab)(w:Bool)(x:Option Ab)(k:Ab->Out):Out:=(R3 c w).bind λb=>(gR b x).bind k
noncomputable def gkc (c:Ab)(w:Bool)(x:Option Ab)(p:Bool->Ab->Prop)(k:Ab->Out):Out:=(R3 c w).bind λb=>(gR b x).bind λv=>chk (p b v) (k v)
def gkA (c:Ab)(w:Bool)(H:Aa)(x:Option (Ab×Aa))(k:Ab->Aa->Out):Out:=(R3 c w).bind λb=>Ap (gA b H x) k
def gbE (c:Ab)(w:Bool)(H:Aa)(x:Out)(k:Ab->Aa->Out)(kp:Ab->Aa->Out):Out:=(R3 c w).bind λb=>Iy (gE b H x) k kp
noncomputable def bC (x:Option Ab)(p:Ab->Prop)(k:Ab->Out):Out:=x.bind λv=>chk (p v) (k v)
def GT (all:Array Oper)(o:Oper)(tm:List Ab):Option (Option (Ab×Bool)):=
 match o.guard with
 |none=>some none
 |some (j,want)=>match (all[j]?).bind (·.dst)with
  |some d=>some (some (tm.getD d .undef,want))
  |none=>none
theorem SK (all:Array Oper)(o:Oper)(tm:List Ab):I3 all o tm=match GT all o tm with
  |none=>none
  |some none=>some true
  |some (some (c,w))=>R3 c w:=by
 unfold I3 GT;cases o.guard with
 |none=>rfl
 |some p=>obtain⟨j,want⟩:=p;simp only[];cases(all[j]?).bind (·.dst)with|none=>rfl|some d=>simp only[zXb,R3];cases tm.getD d .undef<;>rfl
def stR (g:Option (Option (Ab×Bool)))(x:Option Ab)(k:Ab->Out):Out:=
 match g with
 |none=>none
 |some none=>x.bind k
 |some (some (c,w))=>gk c w x k
noncomputable def stC (g:Option (Option (Ab×Bool)))(x:Option Ab)(p:Bool->Ab->Prop)(k:Ab->Out):Out:=
 match g with
 |none=>none
 |some none=>bC x (p true) k
 |some (some (c,w))=>gkc c w x p k
def stA (g:Option (Option (Ab×Bool)))(H:Aa)(x:Option (Ab×Aa))(k:Ab->Aa->Out):Out:=
 match g with
 |none=>none
 |some none=>Ap x k
 |some (some (c,w))=>gkA c w H x k
def stE (g:Option (Option (Ab×Bool)))(H:Aa)(x:Out)(k:Ab->Aa->Out)(kp:Ab->Aa->Out):Out:=
 match g with
 |none=>none
 |some none=>Iy x k kp
 |some (some (c,w))=>gbE c w H x k kp
def VmM (o:Oper):Option Operand:=
 match o.guard,o.op with
 |none,.move x=>some x
 |none,.assign x=>some x
 |_,_=>none
theorem VfC {C:Cfg}{o:Oper}{x:Operand}(h:VmM o=some x):o.guard=none/\cls o.op=.r/\JU o.op=false/\∀r H,BK C o.op r H=some (r x):=by
 unfold VmM at h;split at h
 rename_i h1 h2;cases h;rw[h2];exact⟨h1,rfl,rfl,λ_ _=>rfl⟩;rename_i h1 h2;cases h;rw[h2];exact⟨h1,rfl,rfl,λ_ _=>rfl⟩;cases h
def Vlq (C:Cfg)(all:Array Oper):List Oper->(List Ab->Aa->Out)->(Ab->List Ab->Aa->Out)->List Ab->Aa->Out
 |[],k,_,tm,H=>k tm H
 |o::rest,k,kp,tm,H=>
  match VmM o with
  |some x=>Vlq C all rest k kp (Ho tm o.dst (rho C.G tm x)) H
  |none=>
  match cls o.op with
  |.r=>stR (GT all o tm) (BK C o.op (rho C.G tm) H) λv=>Vlq C all rest k kp (Ho tm o.dst v) H
  |.a=>stA (GT all o tm) H (CW C o.op (rho C.G tm) H) λv H=>Vlq C all rest k kp (Ho tm o.dst v) H
  |.e=>stE (GT all o tm) H (FX C o.op (rho C.G tm) H) (λv H=>Vlq C all rest k kp (Ho tm o.dst v) H) (λv H=>kp v tm H)
theorem VjY (C:Cfg)(all:Array Oper)(k:List Ab->Aa->Out)(kp:Ab->List Ab->Aa->Out):∀(os:List Oper)(tm:List Ab)(H:Aa),PF C all os k kp tm H=Vlq C all os k kp tm H
 |[],tm,H=>rfl
 |o::rest,tm,H=>by
  have ih:=VjY C all k kp rest;unfold Vlq;simp only[PF];cases hm:VmM o with
  |some x=>obtain⟨h1,h2,_,h3⟩:=VfC (C:=C) hm;simp only[I3,h1,zXa,h2,gR,if_true,h3,ih]
  |none=>
   rw[SK];cases hg:GT all o tm with
   |none=>cases cls o.op<;>rfl
   |some g=>
    cases g with
    |none=>cases cls o.op<;>simp only[zXa,gR,gA,gE,if_true,stR,stA,stE,ih]
    |some p=>obtain⟨c,w⟩:=p;cases cls o.op<;>simp only[stR,stA,stE,gk,gkA,gbE,ih]
noncomputable def PP (C:Cfg)(pb:Bool)(ops:Array Oper)(bf:Nat->Nat->Bool)(k:List Ab->Aa->Out)(kp:Ab->List Ab->Aa->Out):zAb->List (Nat×Aa)->Aa->Aa->List Ab->Out
 |[],_,_,cur,tm=>k tm cur
 |i::rest,hist,hE,cur,tm=>
  match ops[i]? with
  |none=>none
  |some o=>
   match VmM o with
   |some x=>PP C pb ops bf k kp rest hist hE cur (Ho tm o.dst (rho C.G tm x))
   |none=>
   match cls o.op with
   |.r=>if JU o.op then stC (GT ops o tm) (BK C o.op (rho C.G tm) hE) (λw v=>VkC (λe=>bf e i) (λh=>gR w (BK C o.op (rho C.G tm) h)) v hist) λv=>PP C pb ops bf k kp rest hist hE cur (Ho tm o.dst v)
     else stR (GT ops o tm) (BK C o.op (rho C.G tm) hE) λv=>PP C pb ops bf k kp rest hist hE cur (Ho tm o.dst v)
   |.a=>stA (GT ops o tm) cur (CW C o.op (rho C.G tm) cur) λv H=>PP C pb ops bf k kp rest hist hE H (Ho tm o.dst v)
   |.e=>stE (GT ops o tm) cur (FX C o.op (rho C.G tm) cur) (λv H=>PP C pb ops bf k kp rest ((i,hE)::hist) H H (Ho tm o.dst v)) (λv H=>match rest.all (λj=>pb&&bf i j)with | true=>kp v (tm.map λ_=>.undef) H | false=>none)
theorem Vg8 (C:Cfg)(pb:Bool)(ops:Array Oper)(bf:Nat->Nat->Bool)(k:List Ab->Aa->Out)(kp:Ab->List Ab->Aa->Out):∀(perm:zAb)(hist:List (Nat×Aa)) (hE cur:Aa) (tm:List Ab),GW C pb ops bf k kp perm hist hE cur tm=PP C pb ops bf k kp perm hist hE cur tm
 |[],_,_,_,_=>rfl
 |i::rest,hist,hE,cur,tm=>by
  have ih:=Vg8 C pb ops bf k kp rest;unfold PP;simp only[GW];cases ho:ops[i]? with
  |none=>rfl
  |some o=>
   simp only[];cases hm:VmM o with
   |some x=>obtain⟨h1,h2,h4,h3⟩:=VfC (C:=C) hm;simp only[I3,h1,zXa,h2,gR,if_true,h3,h4,WB,if_false,ih]
   |none=>
    rw[SK];cases hg:GT ops o tm with
    |none=>cases cls o.op<;>(try rfl);simp only[stR,stC];split<;>rfl
    |some g=>
     cases g with
     |none=>cases hc:cls o.op<;>cases hr:JU o.op<;>simp only[zXa,gR,gA,gE,if_true,WB,if_false,stR,stC,bC,stA,stE,ih]<;>rfl
     |some p=>obtain⟨c,w⟩:=p;cases hc:cls o.op<;>cases hr:JU o.op<;>simp only[if_true,WB,if_false,stR,stC,stA,stE,gk,gkc,gkA,gbE,ih]<;>rfl
noncomputable def ev2 (C:Cfg)(n:Nat):Code->Ann->Sm->List Ab->Aa->Out
 |.skip,_,K,tm,H=>K .normal tm H
 |.label _,_,K,tm,H=>K .normal tm H
 |.ret,_,K,tm,H=>K .ret tm H
 |.exit id,_,K,tm,H=>K (.exit id) tm H
 |.region _ ops false,_,K,tm,H=>Vlq C ops ops.toList (λtm H=>K .normal tm H) (λv tm H=>K (.pan v) tm H) tm H
 |.region _ ops true,.reg perm,K,tm,H=>if KS ops perm then PP C false ops (λi j=>((Region.before ops).getD j 0).testBit i) (λtm H=>K .normal tm H) (λv tm H=>K (.pan v) tm H) perm [] H H tm else none
 |.region _ ops true,.regp perm,K,tm,H=>if KS ops perm then PP C true ops (λi j=>((Region.before ops).getD j 0).testBit i) (λtm H=>K .normal tm H) (λv tm H=>K (.pan v) tm H) perm [] H H tm else none
 |.seq a b,.tw x y,K,tm,H=>ev2 C n a x (Vkk (λtm H=>ev2 C n b y K tm H) K) tm H
 |.seq a b,.join L x y,K,tm,H=>AJ (λj=>ev2 C n a x (Vkk (λtm H=>j (Jd L tm) H) K) tm H) (λvs H=>ev2 C n b y K (Pd n L vs) H)
 |.cond c a b,.tw x y,K,tm,H=>Ak (rho C.G tm c) (ev2 C n a x K tm H) (ev2 C n b y K tm H)
 |.block id a,.one x,K,tm,H=>ev2 C n a x (VfT id K) tm H
 |.loop a,.loop L x,K,tm,H=>Al (λrec vs H=>ev2 C n a x (Vkk (λtm H=>rec (Jd L tm) H) K) (Pd n L vs) H) AU (Jd L tm) H
 |_,_,_,_,_=>none
theorem Vjj (C:Cfg)(n:Nat):∀(c:Code)(ann:Ann)(K:Sm)(tm:List Ab)(H:Aa),evC C n c ann K tm H=ev2 C n c ann K tm H:=by
 intro c
 induction c with
 |region id ops draw=>intro ann K tm H;cases draw with|false=>simp only[evC,ev2,VjY]|true=>cases ann<;>simp only[evC,ev2,Vg8]
 |seq a b iha ihb=>intro ann K tm H;cases ann<;>simp only[evC,ev2,iha,ihb]
 |cond c a b iha ihb=>intro ann K tm H;cases ann<;>simp only[evC,ev2,iha,ihb]
 |block id a ih=>intro ann K tm H;cases ann<;>simp only[evC,ev2,ih]
 |loop a ih=>intro ann K tm H;cases ann<;>simp only[evC,ev2,ih]
 |_=>intro ann K tm H;cases ann<;>simp only[evC,ev2]
noncomputable def fn2 (C:Cfg)(fn:Func)(body:Code)(ann:Ann)(m:F7)(args:List Ab)(H:Aa):Out:=
 ev2 C fn.ntmps body ann (λe tm H'=>match e with
  |.normal=>(Gc C fn.results.toList tm H').bind λv=>fin m H (.ret v) H'
  |.ret=>(Gc C fn.results.toList tm H').bind λv=>fin m H (.ret v) H'
  |.pan v=>fin m H (.pan v) H'
  |.exit _=>none) (args++List.replicate (fn.ntmps-args.length) .undef) H
theorem Vp7 (C:Cfg)(fn:Func)(body:Code)(ann:Ann)(m:F7)(args:List Ab)(H:Aa):fnA C fn body ann m args H=fn2 C fn body ann m args H:=by unfold fnA fn2;rw[Vjj];rfl
def OH (P:Program)(t:TypeId):Bool:=match P.underlying t with | some (.int _)=>true | _=>false
def Vc3 (P:Program)(t:TypeId)(n:Nat):Bool:=match P.underlying t with | some (.array m e)=>OH P e&&As P e==1&&m==n&&As P t==n | _=>false
def eqB (P:Program)(t:TypeId):Bool:=
 !P.eqGuardType P.depth t&&(match P.underlying t with
 |some (.array n _)=>Vc3 P t n
 |some (.struct fs)=>(match fs.toList with
  |[f,g]=>f.name != "_" && g.name != "_" && OH P f.type&&f.offset==0&&g.offset==1 && !P.stoodInHeld t&&(match P.underlying g.type with | some (.array n _)=>Vc3 P g.type n&&As P t==n+1 | _=>false)
  |_=>false)
 |_=>false)
def VlG (P:Program)(t:TypeId):Bool:=eqB P t||OH P t
section
variable {P:Program}
theorem Fo {t:TypeId}(h:OH P t=true):∃k,P.underlying t=some (.int k):=by
 unfold OH at h;split at h
 exact⟨_,by assumption⟩;cases h
theorem JL {t:TypeId}{n:Nat}(h:Vc3 P t n=true):∃e k,P.underlying t=some (.array n e)/\P.underlying e=some (.int k)/\As P e=1/\As P t=n:=by
 unfold Vc3 at h;split at h
 rename_i m e hu;simp only[WG,beq_iff_eq]at h;obtain⟨⟨⟨h1,h2⟩,h3⟩,h4⟩:=h;obtain⟨k,hk⟩:=Fo h1;subst h3;exact⟨e,k,hu,hk,h2,h4⟩;cases h
theorem VfW {t:TypeId}{k:IntKind}(h:P.underlying t=some (.int k))(w:World):(isAgg t).run P w=.ok false w:=by simp[isAgg,zXf,run_underlying h,zXg]
theorem Kr {t:TypeId}{k:IntKind}(h:P.underlying t=some (.int k))(w:World){vs:Array Value}{off:Nat}{v:Value}(hv:vs[off]? = some v):(part t vs off).run P w=.ok v w:=by simp[part,zXf,VfW h,zXg,hv]
theorem RO {E:Env}{a b:Ab}{r:Bool}{u v:Value}(h:HQ a b=some r)(ha:Az E a u)(hb:Az E b v):∃k x y,a=.int k x/\b=.int k y/\u=.int k x/\v=.int k y/\r=(x==y):=by
 unfold HQ at h;split at h
 ·rename_i k x k' y;split at h
  rename_i hk;subst hk;injection h with h;exact⟨k,x,y,rfl,rfl,ha.int_inv,hb.int_inv,h.symm⟩;cases h
 cases h
theorem Rg {t:TypeId}{k:IntKind}(h:P.underlying t=some (.int k))(d:Nat)(j:IntKind)(x y:Int)(w:World):(Op.equalIn (d+1) t (.int j x) (.int j y)).run P w=.ok (x==y) w:=run_equalIn_int w d t j k x y h
theorem Vmy {e:TypeId}{k:IntKind}(he:P.underlying e=some (.int k))(d:Nat)(w:World){E:Env}(xs ys:Array Value):∀(vas bs:List Ab)(s:Nat)(r:Bool),A4 E vas (xs.toList.drop s)->A4 E bs (ys.toList.drop s)->BU vas bs=some r ->
  (Op.eqItems (d+1) e 1 xs ys (List.range' s vas.length)).run P w=.ok r w:=by
 intro vas
 induction vas with
 |nil=>intro bs s r h1 h2 h3;cases bs with|nil=>simp only[BU,WE]at h3;subst h3;simp[Op.eqItems]|cons b bs=>cases h3
 |cons a vas ih=>
  intro bs s r h1 h2 h3;cases bs with
  |nil=>cases h3
  |cons b bs=>
   simp only[BU]at h3;cases hc:HQ a b with
   |none=>simp[hc]at h3
   |some q=>
    simp only[hc,zXa]at h3;cases hr:BU vas bs with
    |none=>simp[hr]at h3
    |some q2=>
     simp only[hr,zXa,WE]at h3;obtain⟨u,g1,g2⟩:=h1.get (i:=0) (c:=a) rfl;obtain⟨v,g3,g4⟩:=h2.get (i:=0) (c:=b) rfl;obtain⟨j,x,y,rfl,rfl,rfl,rfl,rfl⟩:=RO hc g2 g4;have hx:xs[s]? = some (.int j x):=(by rw[Xh]at g1;simpa using g1);have hy:ys[s]? = some (.int j y):=(by rw[Xh]at g3;simpa using g3);have t1:A4 E vas (xs.toList.drop (s+1)):=by
      have:=h1.drop 1
      rwa [X6]at this
     have t2:A4 E bs (ys.toList.drop (s+1)):=by
      have:=h2.drop 1
      rwa [X6]at this
     rw[zXj,List.range'_succ];simp only[Op.eqItems,WK,zXf,Kr he w hx,Kr he w hy,zXg,Rg he];cases hxy:(x==y)with|false=>rw[hxy]at h3;simp only[Xw]at h3;subst h3;simp|true=>rw[hxy]at h3;simp only[zXn]at h3;subst h3;have:=ih bs (s+1) q2 t1 t2 hr;simp[this]
theorem RN:∀ {vas bs:List Ab} {r:Bool},BU vas bs=some r->vas.length=bs.length
 |[],[],_,_=>rfl
 |[],_::_,_,h=>by cases h
 |_::_,[],_,h=>by cases h
 |a::vas,b::bs,r,h=>by
  simp only[BU]at h;cases hc:HQ a b with
  |none=>simp[hc]at h
  |some q=>cases hr:BU vas bs with|none=>simp[hc,hr]at h|some q2=>simp[RN hr]
theorem Wl {t e:TypeId}{k:IntKind}{n:Nat}(hu:P.underlying t=some (.array n e))(he:P.underlying e=some (.int k))(hz:As P e=1)(d:Nat)(w:World){E:Env}{vas bs:List Ab}{xs ys:Array Value}{r:Bool}(h1:A4 E vas xs.toList)(h2:A4 E bs ys.toList)(hn:vas.length=n)(h3:BU vas bs=some r):(Op.equalIn (d+2) t (.agg xs) (.agg ys)).run P w=.ok r w:=by
 obtain⟨i,hi,hsz⟩:=G0 he;have hc:P.cellsOf e=1:=by simp[Program.cellsOf,hi,hsz,hz]
 rw[run_equalIn_array w (d+1) xs ys hu hi,hc,<-hn,List.range_eq_range'];exact Vmy he d w xs ys vas bs 0 r (by simpa using h1) (by simpa using h2) h3
theorem Ud {t:TypeId}(h:eqB P t=true)(d:Nat)(w:World){E:Env}{vas bs:List Ab}{xs ys:Array Value}{r:Bool}(h1:A4 E vas xs.toList)(h2:A4 E bs ys.toList)(hn:vas.length=As P t)(h3:BU vas bs=some r):(Op.equalIn (d+3) t (.agg xs) (.agg ys)).run P w=.ok r w:=by
 unfold eqB at h;simp only[WG]at h;obtain⟨_,h⟩:=h;split at h
 rename_i n e hu;obtain⟨e',k,q1,q2,q3,q4⟩:=JL h;exact Wl q1 q2 q3 (d+1) w h1 h2 (by rw[hn,q4]) h3
 ·rename_i fs hu;split at h
  ·rename_i f g pK;simp only[WG,bne_iff_ne,ne_eq,beq_iff_eq,X7]at h;obtain⟨⟨⟨⟨⟨⟨hf,hg⟩,dW⟩,hf0⟩,hg1⟩,hst⟩,jA⟩:=h;split at jA
   ·rename_i n e hgu;simp only[WG,beq_iff_eq]at jA;obtain⟨jA,hsz⟩:=jA;obtain⟨e',k,q1,q2,q3,q4⟩:=JL jA;obtain⟨kf,pH⟩:=Fo dW;have yM:P.fieldsOf t=fs:=(by simp[Program.fieldsOf,hu]);rw[run_equalIn_struct w (d+2) t xs ys (by rw[yM];exact hu) hst,yM,pK];rw[hsz]at hn;cases vas with
    |nil=>simp at hn
    |cons a vas=>
     cases bs with
     |nil=>cases h3
     |cons b bs=>
      simp only[BU]at h3;cases hc:HQ a b with
      |none=>simp[hc]at h3
      |some q=>
       simp only[hc,zXa]at h3;cases hr:BU vas bs with
       |none=>simp[hr]at h3
       |some qq=>
        simp only[hr,zXa,WE]at h3;obtain⟨u,g1,g2⟩:=h1.get (i:=0) (c:=a) rfl;obtain⟨v,g3,g4⟩:=h2.get (i:=0) (c:=b) rfl;obtain⟨j,x,y,rfl,rfl,rfl,rfl,rfl⟩:=RO hc g2 g4;have hx:xs[0]? = some (.int j x):=(by simpa using g1);have hy:ys[0]? = some (.int j y):=(by simpa using g3);have hl:vas.length=n:=(by simpa using hn);have cM:xs.size=n+1:=(by have:=h1.1;simp at this;omega);have hlb:vas.length=bs.length:=RN hr;have gK:ys.size=n+1:=(by have:=h2.1;simp at this;omega);have part_arr:∀vs:Array Value,vs.size=n+1->(part g.type vs 1).run P w=.ok (.agg (vs.toList.drop 1).toArray) w:=λvs oX=>by
         have hagg:(isAgg g.type).run P w=.ok true w:=(by simp[isAgg,zXf,run_underlying q1,zXg]);simp only[part,zXf,hagg,zXg,if_true,Dv q1,q4,Sem.run_pure]
         congr 2
         apply Zk;simp[YM];rw[WH (by simp;omega)]
        have e2:=Wl (P:=P) q1 q2 q3 d w (E:=E) (vas:=vas) (bs:=bs) (xs:=(xs.toList.drop 1).toArray) (ys:=(ys.toList.drop 1).toArray) (by simpa using h1.drop 1) (by simpa using h2.drop 1) hl hr;simp only[Op.eqFields,hf,hg,ne_eq,not_false_eq_true,if_true,hf0,hg1,zXf,Kr pH w hx,Kr pH w hy,part_arr _ cM,part_arr _ gK,zXg,Rg pH,e2];cases hxy:(x==y)with|false=>rw[hxy]at h3;simp only[Xw]at h3;subst h3;simp|true=>rw[hxy]at h3;simp only[zXn]at h3;subst h3;cases qq<;>simp[-List.drop_one,zXf,part_arr _ cM,part_arr _ gK,e2,Op.eqFields]
   cases jA
  cases h
 cases h
theorem Vg1 {t:TypeId}(h:eqB P t=true):P.eqGuardType P.depth t=false:=by unfold eqB at h;simp only[WG,X7]at h;exact h.1

end
section
variable {P:Program}
theorem IH {t:TypeId}(h:eqB P t=true):BM P t=true/\∃n e,(P.underlying t=some (.array n e))\/∃fs,P.underlying t=some (.struct fs):=by
 unfold eqB at h;simp only[WG]at h;obtain⟨_,h⟩:=h;split at h
 rename_i n e hu;exact⟨by simp[BM,hu],n,e,.inl hu⟩;rename_i fs hu;exact⟨by simp[BM,hu],0,0,.inr ⟨fs,hu⟩⟩;cases h
theorem JK {t:TypeId}(h:OH P t=true):BM P t=false:=by obtain⟨k,hk⟩:=Fo h;simp[BM,hk]
inductive RW (P:Program) (E:Env) (t:TypeId) (k:Ab) (kc:List Ab) (v:Value):Prop
 |agg {vs:Array Value} (he:eqB P t=true) (hk:k=.agg kc) (hv:v=.agg vs) (hr:A4 E kc vs.toList) (hl:kc.length=As P t) (ho:kc.all VfV=true)
 |int {K:IntKind} {i:Int} (hi:OH P t=true) (hk:k=.int K i) (hc:kc=[.int K i]) (hv:v=.int K i)
theorem Vc1 {E:Env}{t:TypeId}(ht:VlG P t=true){k:Ab}{kc:List Ab}{v:Value}(h:Ei (BM P t) (As P t) k=some kc)(hv:Az E k v):RW P E t k kc v:=by
 unfold VlG at ht;unfold Ei at h;split at h
 ·rename_i a0 k0 cs ha;split at h
  rename_i hl;injection h with h;subst h;obtain⟨vs,rfl,hr⟩:=hv.agg_cells;refine .agg ?_ rfl rfl hr hl.1 hl.2;simp only[X0]at ht;rcases ht with ht | ht;exact ht;rw[JK ht]at ha;cases ha;cases h
 rename_i a0 k0 K i ha;injection h with h;subst h;refine .int ?_ rfl rfl hv.int_inv;simp only[X0]at ht;rcases ht with ht | ht;rw[(IH ht).1]at ha;cases ha;exact ht;cases h
theorem VfS {E:Env}{t:TypeId}{k k':Ab}{kc kc':List Ab}{v v':Value}(h:RW P E t k kc v)(h':RW P E t k' kc' v'){b:Bool}(hc:BU kc kc'=some b)(w:World):(Op.equal t v v').run P w=.ok b w:=by
 cases h with
 |agg he hk hv hr hl ho=>cases h' with|agg dE hk' aP eT dQ dK=>subst hv;subst aP;exact Ud he 9997 w hr eT hl hc|int hi hk' bU aP=>have:=(IH he).1;rw[JK hi]at this;cases this
 |int hi hk hcc hv=>
  cases h' with
  |agg dE hk' aP eT dQ dK=>have:=(IH dE).1;rw[JK hi]at this;cases this
  |int aE hk' hcc' aP=>
   subst hv;subst aP;subst hcc;subst hcc';obtain⟨q,hq⟩:=Fo hi;simp only[BU,HQ]at hc;split at hc
   rename_i e;subst e;simp at hc;subst hc;exact Rg hq 9999 _ _ _ w;simp at hc
theorem PW:∀ {vas bs:List Ab},BU vas bs=some true->vas=bs
 |[],[],_=>rfl
 |[],_::_,h=>by cases h
 |_::_,[],h=>by cases h
 |a::vas,b::bs,h=>by
  simp only[BU]at h;cases hc:HQ a b with
  |none=>simp[hc]at h
  |some q=>
   cases hr:BU vas bs with
   |none=>simp[hc,hr]at h
   |some q2=>
    simp only[hc,hr,zXa,WE,WG]at h;obtain⟨rfl,rfl⟩:=h;rw[PW hr];unfold HQ at hc;split at hc
    ·split at hc
     rename_i e;subst e;simp at hc;subst hc;rfl
     cases hc
    cases hc
theorem VcI {w:World}(f:Nat->Sem Unit):∀(l:zAb),(∀i∈l,(f i).run P w=.ok () w)->(forIn l PUnit.unit λi _=>do f i;pure (ForInStep.yield PUnit.unit)).run P w=.ok PUnit.unit w
 |[],_=>by simp
 |i::l,h=>by simp only[List.forIn_cons,zXf,h i (by simp),zXg,Sem.run_pure];exact VcI f l λj hj=>h j (by simp[hj])
theorem Rn {em:Bool}{n:Nat}{t:TypeId}{K:IntKind}(h:P.underlying t=some (.int K))(v:Value)(w:World)(hv:∀(d:TypeId)(x:Value),v≠Value.iface d x):(Instr.checkKey em (n+1) t v).run P w=.ok () w:=by cases v<;>simp[Instr.checkKey,run_underlying h]
theorem Wr {em:Bool}{d n:Nat}{t e:TypeId}{K:IntKind}(hu:P.underlying t=some (.array n e))(he:P.underlying e=some (.int K))(hz:As P e=1)(vs:Array Value)(hl:vs.size=n)(hv:∀(i:Nat)(v:Value),vs[i]? = some v->∀(d:TypeId)(x:Value),v≠Value.iface d x)(w:World):(Instr.checkKey em (d+2) t (.agg vs)).run P w=.ok () w:=by
 unfold Instr.checkKey;simp only[zXf,run_underlying hu,zXg];simp only[Std.Legacy.Range.forIn_eq_forIn_range',Std.Legacy.Range.size,Nat.sub_zero,Nat.add_one_sub_one,Nat.div_one];have:=VcI (P:=P) (w:=w) (λi=>do
  let s ← sizeOf e
  let a ← part e vs (i*s)
  Instr.checkKey em (d+1) e a) (List.range' 0 n) (λi hi=>by have aE:i<vs.size:=(by simp at hi;omega);have hx:vs[i]? = some vs[i]:=(by simp[aE]);simp only[zXf,GB (P:=P) (t:=e) (by omega),hz,WK,zXg,Kr he w hx,Rn he _ w (hv i _ hx)])
 simp[Function.comp_def,bind_assoc]at this;simp[zXf,this]
def Vc2 (kc:List Ab):Bool:=kc.all VfV
theorem Oy {E:Env}{kc:List Ab}(h:Vc2 kc=true){vs:List Value}(hr:A4 E kc vs)(i:Nat)(v:Value)(hv:vs[i]? = some v):∃K n,v=.int K n:=by
 have hi:i<kc.length:=by have:=(W5.1 hv).1;have:=hr.1;omega
 have h1:=hr.2 i kc[i] v (W4 hi) hv;have h2:=(WO.1 h) kc[i] (WI hi);revert h1 h2;generalize kc[i]=c;intro h1 h2;cases c<;>first | exact⟨_,_,h1.int_inv⟩ | cases h2
theorem Wq {E:Env}{t:TypeId}{k:Ab}{kc:List Ab}{v:Value}(h:RW P E t k kc v)(em:Bool)(w:World):(Instr.checkKey em 10000 t v).run P w=.ok () w:=by
 cases h with
 |int hi hk hc hv=>subst hv;obtain⟨q,hq⟩:=Fo hi;exact Rn hq _ w (by simp)
 |agg he hk hv hr hl ho=>
  rename_i vs;subst hv;have hi:Vc2 kc=true:=ho;have cV:∀(i:Nat)(v:Value),vs[i]? = some v->∀(d:TypeId)(x:Value),v≠Value.iface d x:=λi v hv d x e=>by obtain⟨K,n,h⟩:=Oy hi hr i v (by simpa using hv);rw[h]at e;cases e
  have hsz:vs.size=As P t:=by have:=hr.1;simp at this;omega
  unfold eqB at he;simp only[WG]at he;obtain⟨_,he⟩:=he;split at he
  rename_i n e hu;obtain⟨e',q,q1,q2,q3,q4⟩:=JL he;exact Wr (d:=9998) q1 q2 q3 vs (by omega) cV w
  ·rename_i fs hu;split at he
   ·rename_i f g pK;simp only[WG,bne_iff_ne,ne_eq,beq_iff_eq,X7]at he;obtain⟨⟨⟨⟨⟨⟨hf,hg⟩,dW⟩,hf0⟩,hg1⟩,hst⟩,jA⟩:=he;split at jA
    ·rename_i n e hgu;simp only[WG,beq_iff_eq]at jA;obtain⟨jA,zU⟩:=jA;obtain⟨e',q,q1,q2,q3,q4⟩:=JL jA;obtain⟨kf,pH⟩:=Fo dW;have hx:vs[0]? = some (vs[0]'(by omega)):=(by simp);have tK:(part g.type vs 1).run P w=.ok (.agg (vs.toList.drop 1).toArray) w:=by
      have hagg:(isAgg g.type).run P w=.ok true w:=(by simp[isAgg,zXf,run_underlying q1,zXg]);simp only[part,zXf,hagg,zXg,if_true,Dv q1,q4,Sem.run_pure]
      congr 2
      apply Zk;simp[YM];rw[WH (by simp;omega)]
     have c1:=Rn (P:=P) (em:=em) (n:=9998) pH (vs[0]'(by omega)) w (cV 0 _ hx);have c2:=Wr (P:=P) (em:=em) (d:=9997) q1 q2 q3 (vs.toList.drop 1).toArray (by simp;omega) (λi v hv=>cV (1+i) v (by simpa[-List.drop_one]using hv)) w;unfold Instr.checkKey;simp only[zXf,run_underlying hu,zXg];rw[<-Array.forIn_toList,pK];simp only[List.forIn_cons,List.forIn_nil,hf,hg,ne_eq,not_false_eq_true,if_true,hf0,hg1,zXf,Kr pH w hx,tK,zXg,c1,c2,Sem.run_pure]
    cases jA
   cases he
  cases he
def OS (E:Env)(es:List (Ab×Ab))(en:List MapEntry):Prop:=en.length=es.length/\∀(i:Nat)(k v:Ab),es[i]? = some (k,v)->∃e,en[i]? = some e/\Az E k e.key/\Az E v e.val
theorem OS.tail {E:Env}{p:Ab×Ab}{es:List (Ab×Ab)}{e:MapEntry}{en:List MapEntry}(h:OS E (p::es) (e::en)):OS E es en:=
 ⟨by simpa using h.1,λi k v hi=>by simpa using h.2 (i+1) k v (by simpa using hi)⟩
theorem VcJ {E:Env}{t:TypeId}(ht:VlG P t=true){k:Ab}{kc:List Ab}{v:Value}(hk:RW P E t k kc v)(w:World):∀(es:List (Ab×Ab)) (en:List MapEntry) (i:Nat) (r:Option Ab),OS E es en->EY (BM P t) (As P t) es kc=some r ->
  ∃res:Option (Nat×Value),(Instr.findAsking t v en i).run P w=.ok res w/\(∀K n,v=.int K n->∀q,P.underlying t=some (.int q)->Instr.findNow (.int q) v en i=some res) /\
   (match res with
   |none=>r=none/\∀x,DM (BM P t) (As P t) es k kc x=some (es++[(k,x)])
   |some (j,u)=>∃j' k' y,j=i+j'/\es[j']? = some (k',y)/\r=some y/\Az E y u/\k'=k/\∀x,DM (BM P t) (As P t) es k kc x=some (es.set j' (k',x)))
 |[],en,i,r,h,hl=>by have:en=[]:=WM (by simpa using h.1);subst this;simp only[EY,WE]at hl;subst hl;exact⟨none,by simp[Instr.findAsking],λ_ _ _ _ _=>by simp[Instr.findNow],rfl,λx=>rfl⟩
 |(k',y)::es,en,i,r,h,hl=>by
  cases en with
  |nil=>have:=h.1;simp at this
  |cons e en=>
   obtain⟨e',h1,h2,h3⟩:=h.2 0 k' y rfl;simp at h1;subst h1;simp only[EY]at hl;cases gX:Ei (BM P t) (As P t) k' with
   |none=>simp[gX]at hl
   |some kc'=>
    simp only[gX,zXa]at hl;cases hb:BU kc kc' with
    |none=>simp[hb]at hl
    |some b=>
     simp only[hb,zXa]at hl;have hk':=Vc1 ht gX h2;have heq:=VfS hk hk' hb w;have qV:∀K n,v=.int K n->∀q,Instr.sameNow (.int q) v e.key=some b:=by
      intro K n hv q;cases hk with
      |agg he eJ hv0 hr hl0 ho=>rw[hv0]at hv;cases hv
      |int hi eJ cT hv0=>
       cases hk' with
       |agg dE _ _ _ _ _=>have:=(IH dE).1;rw[JK hi]at this;cases this
       |int aE iY hc0' hv0'=>
        rw[hv0,hv0'];subst cT;subst hc0';simp only[BU,HQ]at hb;split at hb
        rename_i ee;subst ee;simp at hb;subst hb;simp[Instr.sameNow];simp at hb
     cases b with
     |true=>
      simp only[if_true,WE]at hl;subst hl;have jG:kc=kc':=PW hb;have hk2:k'=k:=by
       subst jG;cases hk with
       |agg he eJ _ _ _ _=>cases hk' with|agg _ iY _ _ _ _=>rw[eJ,iY]|int aE _ _ _=>have:=(IH he).1;rw[JK aE]at this;cases this
       |int hi eJ cT _=>cases hk' with|agg dE _ _ _ _ _=>have:=(IH dE).1;rw[JK hi]at this;cases this|int _ iY hc0' _=>rw[eJ,iY];rw[cT]at hc0';simpa using hc0'.symm
      refine⟨some (i,e.val),by simp[Instr.findAsking,zXf,heq,zXg],λK n hv q _=>by simp[Instr.findNow,qV K n hv q],0,k',y,rfl,rfl,rfl,h3,hk2,λx=>?_⟩;simp only[DM,gX,zXa,hb,if_true,List.set_cons_zero]
     |false=>
      simp only[WB,if_false]at hl;obtain⟨res,r1,r2,r3⟩:=VcJ ht hk w es en (i+1) r h.tail hl;refine⟨res,by simp[Instr.findAsking,zXf,heq,zXg,r1],λK n hv q hq=>by simp[Instr.findNow,qV K n hv q,r2 K n hv q hq],?_⟩;cases res with
      |none=>obtain⟨s1,s2⟩:=r3;exact⟨s1,λx=>by simp[DM,gX,hb,s2 x]⟩
      |some p=>obtain⟨j,u⟩:=p;obtain⟨j',k2,y2,s1,s2,s3,s4,s5,s6⟩:=r3;exact⟨j'+1,k2,y2,by omega,by simpa using s2,s3,s4,s5,λx=>by simp[DM,gX,hb,s6 x]⟩
theorem VcK {E:Env}{t:TypeId}(ht:VlG P t=true){k:Ab}{kc:List Ab}{v:Value}(hk:RW P E t k kc v)(w:World){es:List (Ab×Ab)}{en:List MapEntry}{r:Option Ab}(h:OS E es en)(hl:EY (BM P t) (As P t) es kc=some r):∃res:Option (Nat×Value),(Instr.findKey t v en).run P w=.ok res w /\
   (match res with
   |none=>r=none/\∀x,DM (BM P t) (As P t) es k kc x=some (es++[(k,x)])
   |some (j,u)=>∃k' y,es[j]? = some (k',y)/\r=some y/\Az E y u/\k'=k/\∀x,DM (BM P t) (As P t) es k kc x=some (es.set j (k',x))):=by
 obtain⟨res,h1,h2,h3⟩:=VcJ ht hk w es en 0 r h hl;refine⟨res,?_,?_⟩
 ·cases hk with
  |agg he eJ hv0 hr hl0 ho=>obtain⟨_,n,e,hu⟩:=IH he;rw[run_findKey_eq w (by rcases hu with hu | ⟨fs,hu⟩ <;> simp[hu])];exact h1
  |int hi eJ cT hv0=>obtain⟨q,hq⟩:=Fo hi;simp[Instr.findKey,zXf,run_underlying hq,zXg,h2 _ _ hv0 q hq]
 ·cases res with
  |none=>exact h3
  |some p=>obtain⟨j,u⟩:=p;obtain⟨j',k',y,s1,s2,s3,s4,s5,s6⟩:=h3;have:j=j':=(by omega);subst this;exact⟨k',y,s2,s3,s4,s5,s6⟩

end
section
variable {P:Program}{E:Env}{H:Aa}{w:World}
theorem NN {b:Nat}{en:Array MapEntry}{ck:Nat}(h:w.heap[b]? = some (.map en ck)):(getObj b).run P w=.ok (.map en ck) w:=by simp[getObj,Sem.run,h]
theorem SY {b:Nat}{en:Array MapEntry}{ck:Nat}{o':Obj}(h:w.heap[b]? = some (.map en ck)):(setObj b o').run P w=.ok () {w with heap:=w.heap.setIfInBounds b o'}:=by simp[setObj,Sem.run,h]
theorem Vpd {t:TypeId}{k:Ab}{kc:List Ab}{v v':Value}(h:RW P E t k kc v)(h':RW P E t k kc v'):(Instr.keyThatStays v' v).run P w=.ok v w:=by
 have hs:Instr.sameBits 10000 v' v=true:=by
  cases h with
  |int hi hk hc hv=>
   cases h' with
   |int _ hk' _ aP=>rw[hk]at hk';injection hk' with e1 e2;subst hv;subst aP;subst e1;subst e2;simp[Instr.sameBits]
   |agg dE _ _ _ _ _=>have:=(IH dE).1;rw[JK hi]at this;cases this
  |agg he hk hv hr hl ho=>
   rename_i vs;cases h' with
   |int aE _ _ _=>have:=(IH he).1;rw[JK aE]at this;cases this
   |agg _ _ aP eT _ _=>
    rename_i us _ _ _ _;subst hv;subst aP;have e:us.toList=vs.toList:=by
     apply Ye;intro i;have l1:=hr.1;have l2:=eT.1;by_cases hi:i<kc.length
     ·obtain⟨a,a1,a2⟩:=hr.get (W4 hi);obtain⟨b,b1,b2⟩:=eT.get (W4 hi);have hii:=WO.1 ho kc[i] (WI hi);rw[a1,b1];revert a2 b2 hii;generalize kc[i]=c;intro a2 b2 hii;cases c<;>first | (exact(by rw[a2.int_inv,b2.int_inv])) | cases hii
     rw[zYb (by omega),zYb (by omega)]
    have e':us=vs:=Zk e;subst e';simp only[Instr.sameBits,beq_self_eq_true,zXn,WO];rintro⟨x,y⟩ hxy;obtain⟨i,hi,aH⟩:=Xf hxy;simp only[List.getElem_zip,WY]at aH;obtain⟨rfl,rfl⟩:=aH;have hlt:i<us.toList.length:=(by simp at hi;simpa using hi);obtain⟨K,n,hKn⟩:=Oy (kc:=kc) ho hr i us.toList[i] (W4 hlt);rw[hKn];simp[Instr.sameBits]
 simp[Instr.keyThatStays,hs]
theorem JE {a:Bool}{n:Nat}{k:Ab}{kc:List Ab}{x:Ab}:∀ {es es':List (Ab×Ab)},DM a n es k kc x=some es'->∃r,EY a n es kc=some r
 |[],_,_=>⟨none,rfl⟩
 |(k',v)::es,es',h=>by
  simp only[DM]at h;simp only[EY];cases hk:Ei a n k' with
  |none=>simp[hk]at h
  |some kc'=>
   simp only[hk,zXa]at h⊢;cases hb:BU kc kc' with
   |none=>simp[hb]at h
   |some b=>
    simp only[hb,zXa]at h⊢;cases b with
    |true=>exact⟨_,rfl⟩
    |false=>simp only[WB,if_false]at h⊢;cases hu:DM a n es k kc x with|none=>simp[hu]at h|some e2=>exact JE hu
theorem RH (hs:Sim E H w){id:Nat}{es:List (Ab×Ab)}(hH:H[id]? = some (.map es)):∃b en ck,E.φ id 0=some b/\w.heap[b]? = some (.map en ck)/\OS E es en.toList:=by obtain⟨b,en,ck,h1,h2,h3,h4⟩:=hs.blk id _ hH;refine⟨b,en,ck,h1,h2,by simpa using h3,λi k v hi=>?_⟩;obtain⟨e,q1,q2,q3⟩:=h4 i k v hi;exact⟨e,by simpa using q1,q2,q3⟩
theorem Vee {t:TypeId}{z:Ab}(h:Vd P t=some z):∃v,(zeroValue t).run P w=.ok v w/\Az E z v:=by
 unfold Vd at h;cases hi:P.info? t with
 |none=>simp[hi]at h
 |some i=>cases hz:i.zero with|none=>simp[hi,hz]at h|some v=>simp[hi,hz]at h;subst h;exact⟨v,M5 hi hz w,Vdm E v⟩
theorem Vi7 {C:Cfg}(hC:C.key=VlG C.P)(t kt e:TypeId)(ok:Bool)(E:Env)(H:Aa)(w:World)(m k z:Ab)(u v:Value)(hu:C.P.underlying t=some (.map kt e))(hk:C.key kt=true)(hs:Sim E H w)(hm:Az E m u)(hv:Az E k v)
  (h:FD (BM C.P kt) (As C.P kt) (Vd C.P e) ok m k H=some z):BG E C.P w (Instr.lookup t u v ok) z:=by
 rw[hC]at hk;unfold FD at h;cases hz:Vd C.P e with
 |none=>simp[hz]at h
 |some z0=>
  simp only[hz,zXa]at h;cases gX:Ei (BM C.P kt) (As C.P kt) k with
  |none=>simp[gX]at h
  |some kc=>
   simp only[gX,zXa]at h;obtain⟨zv,iR,mD⟩:=Vee (w:=w) (E:=E) hz;have iX:=Vc1 hk gX hv;split at h
   ·rename_i id;split at h
    ·rename_i es hH;obtain⟨b,en,ck,h1,h2,h3⟩:=RH hs hH;have pG:u=.map (some b):=(by cases hm with | mp hx=>rw[h1]at hx;cases hx;rfl);subst pG;cases hl:EY (BM C.P kt) (As C.P kt) es kc with
     |none=>simp[hl]at h
     |some r=>
      obtain⟨res,f1,f2⟩:=VcK hk iX w h3 hl;have kG:=Wq iX en.isEmpty w;simp only[hl,zXb,WE]at h;cases res with
      |none=>obtain⟨rfl,_⟩:=f2;refine⟨if ok then .tuple #[zv,.bool false]else zv,by unfold Instr.lookup;simp[zXf,run_underlying hu,NN h2,kG,f1,iR],?_⟩;subst h;cases ok;exact mD;exact .tup_of (.cons mD (.cons (.bool false) (.nil E)))
      |some p=>obtain⟨j,x⟩:=p;obtain⟨k',y,_,rfl,q2,_,_⟩:=f2;refine⟨if ok then .tuple #[x,.bool true]else x,by unfold Instr.lookup;simp[zXf,run_underlying hu,NN h2,kG,f1],?_⟩;subst h;cases ok;exact q2;exact .tup_of (.cons q2 (.cons (.bool true) (.nil E)))
    cases h
   cases h
theorem Vl3 {C:Cfg}(hC:C.key=VlG C.P)(t kt e:TypeId)(E:Env)(H H':Aa)(w:World)(m k x:Ab)(u v y:Value)(hu:C.P.underlying t=some (.map kt e))(hk:C.key kt=true)(hs:Sim E H w)(hm:Az E m u)(hv:Az E k v)(hx:Az E x y)
  (h:Eu (BM C.P kt) (As C.P kt) m k x H=some H'):∃w',(Instr.mapUpdate t u v y).run C.P w=.ok () w'/\Sim E H' w'/\BS E H w E H' w':=by
 rw[hC]at hk;unfold Eu at h;cases gX:Ei (BM C.P kt) (As C.P kt) k with
 |none=>simp[gX]at h
 |some kc=>
  simp only[gX,zXa]at h;have iX:=Vc1 hk gX hv;split at h
  ·rename_i id;split at h
   ·rename_i es hH;obtain⟨b,en,ck,h1,h2,h3⟩:=RH hs hH;have pG:u=.map (some b):=(by cases hm with | mp hx=>rw[h1]at hx;cases hx;rfl);subst pG;have hbl:b<w.heap.size:=(Xn.1 h2).1;cases aQ:DM (BM C.P kt) (As C.P kt) es k kc x with
    |none=>simp[aQ]at h
    |some es'=>
     simp only[aQ,zXb,WE]at h;subst h;obtain⟨r,hl⟩:=JE aQ;obtain⟨res,f1,f2⟩:=VcK hk iX w h3 hl;have kG:=Wq iX false w;have fin:∀(en':Array MapEntry)(ck':Nat),OS E es' en'.toList->Sim E (H.set id (.map es')) {w with heap:=w.heap.setIfInBounds b (.map en' ck')}/\BS E H w E (H.set id (.map es')) {w with heap:=w.heap.setIfInBounds b (.map en' ck')}:=(by intro en' ck' hr;refine hs.upd hH (.refl E) ⟨b,en',ck',h1,by simp[hbl],by simpa using hr.1,λi k v hi=>?_⟩ (λ_ _ _ _ h=>h) (λ_ _ _ _ h=>h) (λy hy hne=>?_) (λ_ _ _=>rfl) (λy o vv hv hcase=>?_) (λy hy=>.inl hy) (λn hB=>by cases hB) rfl rfl rfl (by simp);obtain⟨e,q1,q2,q3⟩:=hr.2 i k v hi;exact⟨e,by simpa using q1,q2,q3⟩;have:b≠y:=λe=>hne (by rw[<-e];exact h1);simp[X8 this];exfalso;rcases hcase with hcase | hcase;have:=hs.imm_lt hv;omega;simp only[C9]at hcase;rw[h1]at hcase;cases hcase;have:=hs.imm _ _ _ hv;simp[World.cell?,h2]at this);cases res with
     |none=>
      obtain⟨_,q⟩:=f2;rw[q x]at aQ;injection aQ with aQ;subst aQ;obtain⟨s1,s2⟩:=fin (en.push { key:=v,val:=y,born:=ck}) (ck+1) ⟨by simp[h3.1],λi k1 v1 hi=>by
       rw[Xp]at hi;rw[Array.toList_push,Xp];have hl:=h3.1;split at hi
       rename_i hlt;rw[if_pos (by omega)];exact h3.2 i k1 v1 hi
       ·rename_i hlt;rw[if_neg (by omega)];cases hq:i-es.length with
        |zero=>rw[hq]at hi;simp at hi;obtain⟨rfl,rfl⟩:=hi;rw[hl,hq];exact⟨_,rfl,hv,hx⟩
        |succ n=>rw[hq]at hi;simp at hi⟩
      refine⟨_,?_,s1,s2⟩;unfold Instr.mapUpdate;simp only[zXf,run_underlying hu,zXg];simp[zXf,NN h2,kG,f1,SY h2]
     |some p=>
      obtain⟨j,z⟩:=p;obtain⟨k',y0,q1,_,q3,q4,q⟩:=f2;rw[q x]at aQ;injection aQ with aQ;subst aQ;subst q4;obtain⟨ej,p1,p2,p3⟩:=h3.2 j k' y0 q1;have rZ:=Vc1 hk gX p2;have tO:j<es.length:=(W5.1 q1).1;have yO:en[j]? = some ej:=(by simpa using p1);obtain⟨s1,s2⟩:=fin (en.modify j λe=>{e with key:=v,val:=y}) ck ⟨by simp[h3.1],λi k1 v1 hi=>by
       rw[Z0]at hi;rw[XV,Yq];split at hi
       rename_i hij;subst hij;simp at hi;obtain⟨rfl,rfl⟩:=hi;rw[yO];exact⟨_,by simp;rfl,hv,hx⟩
       ·rename_i hij;rw[if_neg (by omega)];obtain⟨e,q1,q2,q3⟩:=h3.2 i k1 v1 hi;exact⟨e,by simpa using q1,q2,q3⟩⟩
      refine⟨_,?_,s1,s2⟩;have hst:=Vpd (w:=w) iX rZ;unfold Instr.mapUpdate;simp only[zXf,run_underlying hu,zXg];simp[zXf,NN h2,kG,f1,yO,hst,SY h2]
   cases h
  cases h

end
def mkC (P:Program)(G:IU)(mu:Bool)(orc:Orc):Cfg:=⟨P,G,eqB P,VlG P,mu,orc⟩
theorem Vly {P:Program}{G:IU}{mu:Bool}{orc:Orc}(ho:Hl P G orc):N0 (mkC P G mu orc):=
 ⟨⟨λt h=>Vg1 h,λt h E vas bs vs us b w h1 h2 h3 h4=>Ud h 9997 w h1 h2 h3 h4⟩,⟨λt kt e ok E H w m k z u v=>Vi7 rfl t kt e ok E H w m k z u v,λt kt e E H H' w m k x u v y=>Vl3 rfl t kt e E H H' w m k x u v y⟩,ho⟩
noncomputable def Vot (m:F7)(H0:Aa)(x:Out)(k:Ab->Aa->Out):Out:=Iy x k (λv H=>fin m H0 (.pan v) H)
noncomputable def Bb (x:Out)(k:Ab->Aa->Out):Out:=Iy x k (λ_ _=>none)
abbrev LK:=List Ab->Aa->Out
def ag (vs:List Ab)(i:Nat):Ab:=vs.getD i .undef
noncomputable def bK (H0:Aa)(x:Out)(k:Ab->Aa->Out):Out:=Iy x k (λv H=>fin .keep H0 (.pan v) H)
noncomputable def bP (H0:Aa)(x:Out)(k:Ab->Aa->Out):Out:=Iy x k (λv H=>fin .pure H0 (.pan v) H)
noncomputable def rK (H0:Aa)(v:Ab)(H:Aa):Out:=fin .keep H0 (.ret v) H
noncomputable def rP (H0:Aa)(v:Ab)(H:Aa):Out:=fin .pure H0 (.ret v) H
noncomputable def rKN (H0:Aa)(v:Ab)(H:Aa):Out:=fin .keepN H0 (.ret v) H
noncomputable def rPN (H0:Aa)(v:Ab)(H:Aa):Out:=fin .pureN H0 (.ret v) H
noncomputable def gbK (H0:Aa)(c:Ab)(w:Bool)(H:Aa)(x:Out)(k:Ab->Aa->Out):Out:=gbE c w H x k (λv H=>fin .keep H0 (.pan v) H)
noncomputable def gbP (H0:Aa)(c:Ab)(w:Bool)(H:Aa)(x:Out)(k:Ab->Aa->Out):Out:=gbE c w H x k (λv H=>fin .pure H0 (.pan v) H)
noncomputable def gbN (c:Ab)(w:Bool)(H:Aa)(x:Out)(k:Ab->Aa->Out):Out:=gbE c w H x k (λ_ _=>none)
def UD:List (Option Ab)->Option (List Ab)
 |[]=>some []
 |x::xs=>x.bind λv=>(UD xs).map (v::·)
def Ex (xs:List (Option Ab)):Option Ab:=(UD xs).map .tup
def BC (b:Bool)(sz:Nat)(x:Ab)(H:Aa):Option (Ab×Aa):=
 match x.acells with
 |some cs=>if !b\/cs.length≠sz then none else A0 (some cs) H
 |none=>none
def Vpt (x:Ab)(H:Aa):Out:=
 match x with
 |.iface t v=>some (.pan (.iface t v),H)
 |_=>none
def DV (orc:Orc)(f:Ab)(args:List Ab)(H:Aa):Out:=
 match f with
 |.fn g caps=>orc g (args++caps) H
 |.bfn g first=>orc g (first++args) H
 |_=>none
def noO:Orc:=λ_ _ _=>none
def ent (g:FuncId)(f:List Ab->Aa->Out)(o:Orc):Orc:=λh a H=>if h=g then f a H else o h a H
def ap0 (f:Aa->Out):List Ab->Aa->Out
 |[],H=>f H
 |_,_=>none
def ap1 (f:Ab->Aa->Out):List Ab->Aa->Out
 |[a],H=>f a H
 |_,_=>none
def ap2 (f:Ab->Ab->Aa->Out):List Ab->Aa->Out
 |[a,b],H=>f a b H
 |_,_=>none
def ap3 (f:Ab->Ab->Ab->Aa->Out):List Ab->Aa->Out
 |[a,b,c],H=>f a b c H
 |_,_=>none
def ap4 (f:Ab->Ab->Ab->Ab->Aa->Out):List Ab->Aa->Out
 |[a,b,c,d],H=>f a b c d H
 |_,_=>none
def ap5 (f:Ab->Ab->Ab->Ab->Ab->Aa->Out):List Ab->Aa->Out
 |[a,b,c,d,e],H=>f a b c d e H
 |_,_=>none
def EH (fn:Func):Code:=fn.body.getD .skip
def AH (P:Program)(G:IU)(g:FuncId)(f:List Ab->Aa->Out):Prop:=∀args H res H',f args H=some (res,H')->Vhr P G g args H res H'
theorem Ar (P:Program)(G:IU):Hl P G noO:=λg a H res H' h=>by cases h
theorem Ag {P:Program}{G:IU}{g:FuncId}{f:List Ab->Aa->Out}{o:Orc}(hf:AH P G g f)(ho:Hl P G o):Hl P G (ent g f o):=by
 intro h a H res H' hx;unfold ent at hx;split at hx
 rename_i e;subst e;exact hf a H res H' hx;exact ho h a H res H' hx
theorem FI {P:Program}{f:FuncId}{fn:Func}(hf:P.funcs[f]? = some fn)(hb:fn.body.isNone=false)(hn:(fn.name == "runtime.NumGoroutine")=false)(vs:Array Value)(w:World):(callFunc f vs).run P w=.ok (.enter f vs) w:=by
 have h2:¬fn.name = "runtime.NumGoroutine" := λh=>by rw[h]at hn;simp at hn
 have h3:¬fn.body=none:=λh=>by rw[h]at hb;cases hb
 simp[callFunc,program,zXf,Sem.run,Result.andThen,hf,h2,h3]
theorem NP {P:Program}{G:IU}{mu:Bool}{orc:Orc}(ho:Hl P G orc)(hm:P.follows .mixedOrders=true){f:FuncId}{fn:Func}{ann:Ann}{m:F7}(hf:P.funcs[f]? = some fn)(hb:fn.body.isNone=false)(hn:(fn.name == "runtime.NumGoroutine")=false)
  {args:List Ab}{H:Aa}{res:Res}{H':Aa}(h:fn2 (mkC P G mu orc) fn (EH fn) ann m args H=some (res,H'))(hl:args.length<=fn.ntmps):Vhr P G f args H res H':=by
 have hb':fn.body=some (EH fn):=by unfold EH;cases hx:fn.body with|none=>rw[hx]at hb;cases hb|some b=>rfl
 rw[<-Vp7]at h;exact Vp6 (C:=mkC P G mu orc) (Vly ho) (Vg7 (Vly ho) hm) hf hb' (FI hf hb hn) h hl
def fnB (n:Nat)(fn:Func):Bool:=fn.body.isSome && !(fn.name == "runtime.NumGoroutine")&&decide (n<=fn.ntmps)
theorem Gh {n:Nat}{fn:Func}(h:fnB n fn=true):fn.body.isNone=false/\(fn.name == "runtime.NumGoroutine")=false/\n<=fn.ntmps:=by simp only[fnB,WG,X7,zXe]at h;obtain⟨⟨h1,h2⟩,h3⟩:=h;refine⟨?_,h2,h3⟩;cases hx:fn.body with|none=>rw[hx]at h1;cases h1|some b=>rfl
def T0 (P:Program)(G:IU)(mu:Bool)(orc:Orc)(fn:Func)(ann:Ann)(m:F7)(F:Aa->Out):Prop:=∀H,fn2 (mkC P G mu orc) fn (EH fn) ann m [] H=F H
def T1 (P:Program)(G:IU)(mu:Bool)(orc:Orc)(fn:Func)(ann:Ann)(m:F7)(F:Ab->Aa->Out):Prop:=∀a H,fn2 (mkC P G mu orc) fn (EH fn) ann m [a] H=F a H
def T2 (P:Program)(G:IU)(mu:Bool)(orc:Orc)(fn:Func)(ann:Ann)(m:F7)(F:Ab->Ab->Aa->Out):Prop:=∀a b H,fn2 (mkC P G mu orc) fn (EH fn) ann m [a,b] H=F a b H
def T3 (P:Program)(G:IU)(mu:Bool)(orc:Orc)(fn:Func)(ann:Ann)(m:F7)(F:Ab->Ab->Ab->Aa->Out):Prop:=∀a b c H,fn2 (mkC P G mu orc) fn (EH fn) ann m [a,b,c] H=F a b c H
def T4 (P:Program)(G:IU)(mu:Bool)(orc:Orc)(fn:Func)(ann:Ann)(m:F7)(F:Ab->Ab->Ab->Ab->Aa->Out):Prop:=∀a b c d H,fn2 (mkC P G mu orc) fn (EH fn) ann m [a,b,c,d] H=F a b c d H
def T5 (P:Program)(G:IU)(mu:Bool)(orc:Orc)(fn:Func)(ann:Ann)(m:F7)(F:Ab->Ab->Ab->Ab->Ab->Aa->Out):Prop:=∀a b c d e H,fn2 (mkC P G mu orc) fn (EH fn) ann m [a,b,c,d,e] H=F a b c d e H
section
variable {P:Program}{G:IU}{mu:Bool}{orc:Orc}{f:FuncId}{fn:Func}{ann:Ann}{m:F7}
theorem VnZ (hm:P.follows .mixedOrders=true)(ho:Hl P G orc){F:Aa->Out}(hf:P.funcs[f]? = some fn)(hb:fnB 0 fn=true)(h:T0 P G mu orc fn ann m F):AH P G f (ap0 F):=by
 obtain⟨b1,b2,b3⟩:=Gh hb;intro args H res H' hx;unfold ap0 at hx;split at hx
 exact NP ho hm hf b1 b2 (by rw[h];exact hx) b3;cases hx
theorem Vkp (hm:P.follows .mixedOrders=true)(ho:Hl P G orc){F:Ab->Aa->Out}(hf:P.funcs[f]? = some fn)(hb:fnB 1 fn=true)(h:T1 P G mu orc fn ann m F):AH P G f (ap1 F):=by
 obtain⟨b1,b2,b3⟩:=Gh hb;intro args H res H' hx;unfold ap1 at hx;split at hx
 exact NP ho hm hf b1 b2 (by rw[h];exact hx) b3;cases hx
theorem Rc (hm:P.follows .mixedOrders=true)(ho:Hl P G orc){F:Ab->Ab->Aa->Out}(hf:P.funcs[f]? = some fn)(hb:fnB 2 fn=true)(h:T2 P G mu orc fn ann m F):AH P G f (ap2 F):=by
 obtain⟨b1,b2,b3⟩:=Gh hb;intro args H res H' hx;unfold ap2 at hx;split at hx
 exact NP ho hm hf b1 b2 (by rw[h];exact hx) b3;cases hx
theorem Vgr (hm:P.follows .mixedOrders=true)(ho:Hl P G orc){F:Ab->Ab->Ab->Aa->Out}(hf:P.funcs[f]? = some fn)(hb:fnB 3 fn=true)(h:T3 P G mu orc fn ann m F):AH P G f (ap3 F):=by
 obtain⟨b1,b2,b3⟩:=Gh hb;intro args H res H' hx;unfold ap3 at hx;split at hx
 exact NP ho hm hf b1 b2 (by rw[h];exact hx) b3;cases hx
theorem Vcn {F:Ab->Ab->Ab->Aa->Out}(h:∀a b c H,F a b c H=none):AH P G f (ap3 F):=by
 intro args H res H' hx;unfold ap3 at hx;split at hx
 rw[h]at hx;cases hx;cases hx
theorem VnY (hm:P.follows .mixedOrders=true)(ho:Hl P G orc){F:Ab->Ab->Ab->Ab->Aa->Out}(hf:P.funcs[f]? = some fn)(hb:fnB 4 fn=true)(h:T4 P G mu orc fn ann m F):AH P G f (ap4 F):=by
 obtain⟨b1,b2,b3⟩:=Gh hb;intro args H res H' hx;unfold ap4 at hx;split at hx
 exact NP ho hm hf b1 b2 (by rw[h];exact hx) b3;cases hx
theorem TU (hm:P.follows .mixedOrders=true)(ho:Hl P G orc){F:Ab->Ab->Ab->Ab->Ab->Aa->Out}(hf:P.funcs[f]? = some fn)(hb:fnB 5 fn=true)(h:T5 P G mu orc fn ann m F):AH P G f (ap5 F):=by
 obtain⟨b1,b2,b3⟩:=Gh hb;intro args H res H' hx;unfold ap5 at hx;split at hx
 exact NP ho hm hf b1 b2 (by rw[h];exact hx) b3;cases hx
theorem Pk {F:Ab->Ab->Ab->Ab->Ab->Aa->Out}(h:∀a b c d e H,F a b c d e H=none):AH P G f (ap5 F):=by
 intro args H res H' hx;unfold ap5 at hx;split at hx
 rw[h]at hx;cases hx;cases hx

end
def U5 {α:Type}:Code->Nat->List (zAb)->(Ann->Nat->List (zAb)->α)->α
 |.region _ ops true,c,L,k=>(match L with
  |[]::L=>k (.reg (List.range ops.size)) c L
  |(x::l)::L=>(match Nat.beq x ops.size with
   |true=>k (.regp l) c L
   |false=>k (.reg (x::l)) c L)
  |[]=>k .lf c [])
 |.seq a b,c,L,k=>(match L with
  |(x::l)::L'=>(match Nat.beq x (1000000+c)with
   |true=>U5 a (c+1) L' λp c L=>U5 b c L λq c L=>k (.join l p q) c L
   |false=>U5 a (c+1) L λp c L=>U5 b c L λq c L=>k (.tw p q) c L)
  |_=>U5 a (c+1) L λp c L=>U5 b c L λq c L=>k (.tw p q) c L)
 |.cond _ a b,c,L,k=>U5 a (c+1) L λp c L=>U5 b c L λq c L=>k (.tw p q) c L
 |.block _ a,c,L,k=>U5 a c L λp c L=>k (.one p) c L
 |.loop a,c,L,k=>(match L with
  |l::L=>U5 a c L λp c L=>k (.loop l p) c L
  |[]=>k .lf c [])
 |_,c,L,k=>k .lf c L
def VmY (b:Code)(L:List (zAb)):Ann:=U5 b 0 L λa _ _=>a
section
variable {P:Program}{G:IU}{orc:Orc}{f:FuncId}{fn:Func}
theorem mk0 (m:F7)(ho:Hl P G orc)(L:List (zAb))(hf:P.funcs[f]? = some fn){F:Aa->Out}(hm:P.follows .mixedOrders=true:=by kernel_rfl)(hb:fnB 0 fn=true:=by kernel_rfl)(h:T0 P G false orc fn (VmY (EH fn) L) m F:=by unfold T0;intros;kernel_rfl):AH P G f (ap0 F):=VnZ hm ho hf hb h
theorem mk1 (m:F7)(ho:Hl P G orc)(L:List (zAb))(hf:P.funcs[f]? = some fn){F:Ab->Aa->Out}(hm:P.follows .mixedOrders=true:=by kernel_rfl)(hb:fnB 1 fn=true:=by kernel_rfl)(h:T1 P G false orc fn (VmY (EH fn) L) m F:=by unfold T1;intros;kernel_rfl):AH P G f (ap1 F):=Vkp hm ho hf hb h
theorem mv1 (m:F7)(ho:Hl P G orc)(L:List (zAb))(hf:P.funcs[f]? = some fn){F:Ab->Aa->Out}(hm:P.follows .mixedOrders=true:=by kernel_rfl)(hb:fnB 1 fn=true:=by kernel_rfl)(h:T1 P G true orc fn (VmY (EH fn) L) m F:=by unfold T1;intros;kernel_rfl):AH P G f (ap1 F):=Vkp hm ho hf hb h
theorem mk2 (m:F7)(ho:Hl P G orc)(L:List (zAb))(hf:P.funcs[f]? = some fn){F:Ab->Ab->Aa->Out}(hm:P.follows .mixedOrders=true:=by kernel_rfl)(hb:fnB 2 fn=true:=by kernel_rfl)(h:T2 P G false orc fn (VmY (EH fn) L) m F:=by unfold T2;intros;kernel_rfl):AH P G f (ap2 F):=Rc hm ho hf hb h
theorem mk3 (m:F7)(ho:Hl P G orc)(L:List (zAb))(hf:P.funcs[f]? = some fn){F:Ab->Ab->Ab->Aa->Out}(hm:P.follows .mixedOrders=true:=by kernel_rfl)(hb:fnB 3 fn=true:=by kernel_rfl)(h:T3 P G false orc fn (VmY (EH fn) L) m F:=by unfold T3;intros;kernel_rfl):AH P G f (ap3 F):=Vgr hm ho hf hb h
theorem mk5 (m:F7)(ho:Hl P G orc)(L:List (zAb))(hf:P.funcs[f]? = some fn){F:Ab->Ab->Ab->Ab->Ab->Aa->Out}(hm:P.follows .mixedOrders=true:=by kernel_rfl)(hb:fnB 5 fn=true:=by kernel_rfl)(h:T5 P G false orc fn (VmY (EH fn) L) m F:=by unfold T5;intros;kernel_rfl):AH P G f (ap5 F):=TU hm ho hf hb h

end
abbrev AI:TypeId:=48
abbrev AP:TypeId:=169
abbrev Cf:TypeId:=4
abbrev BV:TypeId:=147
abbrev GK:TypeId:=3
abbrev J9:TypeId:=127
abbrev DJ:TypeId:=9
abbrev Co:TypeId:=96
def Gs:IU:=λ_=>none
section
variable {m:F7}{H0 H G:Aa}{k:Ab->Aa->Out}
@[simp] theorem Vor (v:Ab):Vot m H0 (some (.ret v,H)) k=k v H:=(rfl)
@[simp] theorem BF (v:Ab):Bb (some (.ret v,H)) k=k v H:=(rfl)
@[simp] theorem Vos (v:Ab):Vot m H0 (some (.pan v,H)) k=fin m H0 (.pan v) H:=(rfl)
@[simp] theorem Br (v:Ab):Ap (some (v,H)) k=k v H:=(rfl)
@[simp] theorem VmF (b w:Bool):R3 (.bool b) w=some (b==w):=(rfl)
@[simp] theorem VmE (w:Bool):R3 (.tup []) w=some false:=(rfl)
@[simp] theorem S6 (x:Option Ab):gR true x=x:=(rfl)
@[simp] theorem PA (x:Option Ab):gR false x=some Cw:=(rfl)
@[simp] theorem Vp3 (x:Out):gE true H x=x:=(rfl)
@[simp] theorem VoJ (x:Out):gE false H x=some (.ret Cw,H):=(rfl)
@[simp] theorem Vp4 (x:Option (Ab×Aa)):gA true H x=x:=(rfl)
@[simp] theorem VoK (x:Option (Ab×Aa)):gA false H x=some (Cw,H):=(rfl)
@[simp] theorem Cg (a b:Ab):AD (.bool true) a b=some a:=(rfl)
@[simp] theorem Ch (a b:Ab):AD (.bool false) a b=some b:=(rfl)
@[simp] theorem AZ (a b:Out):Ak (.bool true) a b=a:=(rfl)
@[simp] theorem AL (a b:Out):Ak (.bool false) a b=b:=(rfl)
@[simp] theorem VoM (r:Res):fin .keep H0 r H=some (r,H):=(rfl)
theorem EC {v:Ab}(h:H.take H0.length=H0):fin .pure H0 (.ret v) H=(frz H H0.length 8 v).map λv=>(.ret v,H0):=by simp only[fin,chk,h,if_true]
@[simp] theorem Var {K:IntKind}{n:Int}:fin .pure H0 (.ret (.int K n)) (H0++G)=some (.ret (.int K n),H0):=by rw[EC (by simp)];simp[frz]
@[simp] theorem UM {b:Bool}:fin .pure H0 (.ret (.bool b)) (H0++G)=some (.ret (.bool b),H0):=by rw[EC (by simp)];simp[frz]
@[simp] theorem Vaq {s:zAa}:fin .pure H0 (.ret (.str s)) (H0++G)=some (.ret (.str s),H0):=by rw[EC (by simp)];simp[frz]
@[simp] theorem UL {K:IntKind}{n:Int}:fin .pure H0 (.ret (.int K n)) H0=some (.ret (.int K n),H0):=by rw[EC (by simp)];simp[frz]
@[simp] theorem TX {b:Bool}:fin .pure H0 (.ret (.bool b)) H0=some (.ret (.bool b),H0):=by rw[EC (by simp)];simp[frz]
@[simp] theorem UK {s:zAa}:fin .pure H0 (.ret (.str s)) H0=some (.ret (.str s),H0):=by rw[EC (by simp)];simp[frz]
@[simp] theorem IW (v:Ab):VpT (some v) H=some (.ret v,H):=(rfl)
@[simp] theorem AM:AA (some H)=some (.ret .undef,H):=(rfl)
@[simp] theorem D5 (v:Ab):Cd (some (v,H))=some (.ret v,H):=(rfl)

end
section
variable {ek:EqK}{k:IntKind}{a b:Int}
@[simp] theorem CP:Af ek .add (.int k a) (.int k b)=some (.int k (k.wrap (a+b))):=by simp[Af,DB,FR]
@[simp] theorem DE:Af ek .sub (.int k a) (.int k b)=some (.int k (k.wrap (a-b))):=by simp[Af,DB,FR]
@[simp] theorem IR:Af ek .mul (.int k a) (.int k b)=some (.int k (k.wrap (a*b))):=by simp[Af,DB,FR]
@[simp] theorem Dy:Af ek .eql (.int k a) (.int k b)=some (.bool (a==b)):=by simp[Af,DB,FR]
@[simp] theorem IQ:Af ek .neq (.int k a) (.int k b)=some (.bool (a != b)):=by simp[Af,DB,FR]
@[simp] theorem Bn:Af ek .lss (.int k a) (.int k b)=some (.bool (decide (a<b))):=by simp[Af,DB,FR]
@[simp] theorem LH:Af ek .leq (.int k a) (.int k b)=some (.bool (decide (a<=b))):=by simp[Af,DB,FR]
@[simp] theorem DF:Af ek .gtr (.int k a) (.int k b)=some (.bool (decide (a>b))):=by simp[Af,DB,FR]
@[simp] theorem IS:Af ek .geq (.int k a) (.int k b)=some (.bool (decide (a>=b))):=by simp[Af,DB,FR]
variable {s u:zAa}
@[simp] theorem KE:Af ek .eql (.str s) (.str u)=some (.bool (s==u)):=(rfl)
@[simp] theorem Vj8:Af ek .neq (.str s) (.str u)=some (.bool (!(s==u))):=(rfl)
@[simp] theorem JS {c:Bool}:unA .not (.bool c)=some (.bool (!c)):=(rfl)
@[simp] theorem Ec:C1 (.str s)=some (.i6 s.length):=(rfl)
@[simp] theorem VpU {es:List (List Ab)}{tk:Tok}:A7 (.sl es tk)=some (.i6 es.length):=(rfl)
@[simp] theorem Vkd {id g off len cap sz:Nat}{ex:Bool}:A7 (.ms id g off len cap sz ex)=some (.i6 len):=(rfl)
@[simp] theorem Ae {off id g o:Nat}:Ac off (.ptr id g o)=some (.ptr id g (o+off)):=(rfl)
@[simp] theorem Aq {off o:Nat}{cs:List Ab}:Ac off (.cptr cs o)=some (.cptr cs (o+off)):=(rfl)

end
section
variable {H0 H:Aa}{k:Ab->Aa->Out}{kv:Ab->Out}
@[simp] theorem Ao (v:Ab)(l:List Ab):ag (v::l) 0=v:=(rfl)
@[simp] theorem Aj (v:Ab)(l:List Ab)(i:Nat):ag (v::l) (i+1)=ag l i:=(rfl)
@[simp] theorem Bf (a v:Ab)(l:List Ab):ag (a::v::l) 1=v:=(rfl)
@[simp] theorem Bj (a b v:Ab)(l:List Ab):ag (a::b::v::l) 2=v:=(rfl)
@[simp] theorem B6 (a b c v:Ab)(l:List Ab):ag (a::b::c::v::l) 3=v:=(rfl)
@[simp] theorem BQ (a b c d v:Ab)(l:List Ab):ag (a::b::c::d::v::l) 4=v:=(rfl)
@[simp] theorem DI (a b c d e v:Ab)(l:List Ab):ag (a::b::c::d::e::v::l) 5=v:=(rfl)
@[simp] theorem F3 (v:Ab):bK H0 (some (.ret v,H)) k=k v H:=(rfl)
@[simp] theorem CQ (v:Ab):bP H0 (some (.ret v,H)) k=k v H:=(rfl)
@[simp] theorem Ou (v:Ab):rK H0 v H=some (.ret v,H):=(rfl)
theorem VkR (v:Ab)(h:H.take H0.length=H0):rP H0 v H=(frz H H0.length 8 v).map λv=>(.ret v,H0):=EC h
@[simp] theorem It {G:Aa}{K:IntKind}{n:Int}:rP H0 (.int K n) (H0++G)=some (.ret (.int K n),H0):=Var
@[simp] theorem Ey {G:Aa}{b:Bool}:rP H0 (.bool b) (H0++G)=some (.ret (.bool b),H0):=UM
@[simp] theorem VeT {G:Aa}{s:zAa}:rP H0 (.str s) (H0++G)=some (.ret (.str s),H0):=Vaq
@[simp] theorem Vpq {K:IntKind}{n:Int}:rP H0 (.int K n) H0=some (.ret (.int K n),H0):=UL
@[simp] theorem VoF {b:Bool}:rP H0 (.bool b) H0=some (.ret (.bool b),H0):=TX
@[simp] theorem Vpp {s:zAa}:rP H0 (.str s) H0=some (.ret (.str s),H0):=UK
@[simp] theorem Hu (x:Option Ab):gk (.bool true) true x kv=x.bind kv:=(rfl)
@[simp] theorem RK (x:Option Ab):gk (.bool true) false x kv=kv Cw:=(rfl)
@[simp] theorem O0 (x:Option Ab):gk (.bool false) true x kv=kv Cw:=(rfl)
@[simp] theorem LQ (x:Option Ab):gk (.bool false) false x kv=x.bind kv:=(rfl)
@[simp] theorem Vkn (w:Bool)(x:Option Ab):gk (.tup []) w x kv=kv Cw:=(rfl)
@[simp] theorem Wf (w:Bool)(x:Out):gbK H0 (.tup []) w H x k=k Cw H:=(rfl)
@[simp] theorem Wd (w:Bool)(x:Out):gbP H0 (.tup []) w H x k=k Cw H:=(rfl)
@[simp] theorem We (w:Bool)(x:Out):gbN (.tup []) w H x k=k Cw H:=(rfl)
@[simp] theorem QW (x:Out):gbK H0 (.bool true) true H x k=bK H0 x k:=(rfl)
@[simp] theorem QX (x:Out):gbK H0 (.bool true) false H x k=k Cw H:=(rfl)
@[simp] theorem QY (x:Out):gbK H0 (.bool false) true H x k=k Cw H:=(rfl)
@[simp] theorem QZ (x:Out):gbK H0 (.bool false) false H x k=bK H0 x k:=(rfl)
@[simp] theorem QN (x:Out):gbP H0 (.bool true) true H x k=bP H0 x k:=(rfl)
@[simp] theorem QO (x:Out):gbP H0 (.bool true) false H x k=k Cw H:=(rfl)
@[simp] theorem QP (x:Out):gbP H0 (.bool false) true H x k=k Cw H:=(rfl)
@[simp] theorem QQ (x:Out):gbP H0 (.bool false) false H x k=bP H0 x k:=(rfl)
@[simp] theorem QR (x:Out):gbN (.bool true) true H x k=Bb x k:=(rfl)
@[simp] theorem QS (x:Out):gbN (.bool true) false H x k=k Cw H:=(rfl)
@[simp] theorem QU (x:Out):gbN (.bool false) true H x k=k Cw H:=(rfl)
@[simp] theorem QV (x:Out):gbN (.bool false) false H x k=Bb x k:=(rfl)

end
theorem Am {n:Int}(h0:-9223372036854775808<=n)(h:n<=9223372036854775807):IntKind.i64.wrap n=n:=by have h1:IntKind.i64.bits=64:=(rfl);have h2:IntKind.i64.signed=true:=(rfl);unfold IntKind.wrap;simp only[h1,h2,zXn,zXe];split<;>omega
theorem Cp {G:LK->LK}(n:Nat)(vs:List Ab)(H:Aa):Al G (n+1) vs H=G (Al G n) vs H:=(rfl)
theorem Eg {G:(List Ab->Aa->Out)->List Ab->Aa->Out}{n:Nat}(h:0<n)(vs:List Ab)(H:Aa):Al G n vs H=G (Al G (n-1)) vs H:=by cases n with|zero=>omega|succ n=>rfl
theorem Fr:0<AU:=by rw[Dj];decide
theorem Bv {σ:Type}{G:LK->LK}(Inv:σ->Prop)(st:σ->List Ab)(hp:σ->Aa)(μ:σ->Nat)(res:σ->Out)
  (step:∀(s:σ)(rec:LK),Inv s->(∀s',Inv s'->μ s'<μ s->rec (st s') (hp s')=res s')->G rec (st s) (hp s)=res s)
  (s:σ)(hs:Inv s)(hm:μ s<1152921504606846976):Al G AU (st s) (hp s)=res s:=by
 have key:∀(n:Nat)(s:σ),Inv s->μ s<n->Al G n (st s) (hp s)=res s:=by
  intro n
  induction n with
  |zero=>intro s _ h;omega
  |succ n ih=>intro s hi h;rw[Cp];exact step s _ hi λs' aE h'=>ih s' aE (by omega)
 exact key AU s hs (by rw[Dj];exact hm)
theorem Cx {G:LK->LK}(N:Nat)(st:Nat->List Ab)(hp:Nat->Aa)(out:Out)(hN:N<1152921504606846976)
  (turn:∀(rec:LK)(i:Nat),i<N->G rec (st i) (hp i)=rec (st (i+1)) (hp (i+1)))(last:∀rec:LK,G rec (st N) (hp N)=out):Al G AU (st 0) (hp 0)=out:=by
 refine Bv (σ:=Nat) (λi=>i<=N) st hp (λi=>N-i) (λ_=>out) (λi rec hi hrec=>?_) 0 (WZ _) (by omega);by_cases h:i<N;rw[turn rec i h];exact hrec (i+1) h (by omega)
 ·have:i=N:=by omega
  subst this;exact last rec
theorem Fk {G:LK->LK}(N:Nat)(I:Nat->List Ab->Aa->Prop)(hN:N<1152921504606846976)
  (turn:∀(i:Nat)(vs:List Ab)(H:Aa),i<N->I i vs H->∃vs' H',I (i+1) vs' H'/\∀rec:LK,G rec vs H=rec vs' H')
  {vs:List Ab}{H:Aa}(h0:I 0 vs H):∃vs' H',I N vs' H'/\∃rec,Al G AU vs H=G rec vs' H':=by
 have key:∀(d i:Nat)(n:Nat)(vs:List Ab)(H:Aa),i+d=N->d<n->I i vs H->∃vs' H',I N vs' H'/\∃rec,Al G n vs H=G rec vs' H':=by
  intro d
  induction d with
  |zero=>intro i n vs H hi hn hI;cases n with|zero=>omega|succ n=>exact⟨vs,H,by have:i=N:=(by omega);rw[<-this];exact hI,Al G n,Cp n vs H⟩
  |succ d ih=>
   intro i n vs H hi hn hI;cases n with
   |zero=>omega
   |succ n=>obtain⟨vs1,H1,h1,h2⟩:=turn i vs H (by omega) hI;obtain⟨vs2,H2,h3,rec,h4⟩:=ih (i+1) n vs1 H1 (by omega) (by omega) h1;exact⟨vs2,H2,h3,rec,by rw[Cp,h2,h4]⟩
 exact key N 0 AU vs H (by omega) (by rw[Dj];exact hN) h0
theorem Vgk (k:Nat)(hk:k<1152921504606846976):∃n,AU=n+k:=⟨1152921504606846976-k,by rw[Dj];omega⟩
theorem Gp {n:Int}(h0:0<=n)(h:n<256):IntKind.u8.wrap n=n:=by have h1:IntKind.u8.bits=8:=rfl;have h2:IntKind.u8.signed=false:=rfl;unfold IntKind.wrap;simp only[h1,h2,Xw,WB,if_false];omega
theorem D3 {n:Int}(h0:0<=n)(h:n<4294967296):IntKind.u32.wrap n=n:=by have h1:IntKind.u32.bits=32:=rfl;have h2:IntKind.u32.signed=false:=rfl;unfold IntKind.wrap;simp only[h1,h2,Xw,WB,if_false];omega
theorem Cz {n:Int}(h0:0<=n)(h:n<18446744073709551616):IntKind.u64.wrap n=n:=by have h1:IntKind.u64.bits=64:=rfl;have h2:IntKind.u64.signed=false:=rfl;unfold IntKind.wrap;simp only[h1,h2,Xw,WB,if_false];omega
@[simp] theorem wr0:IntKind.i64.wrap 0=0:=by decide
@[simp] theorem wr1:IntKind.i64.wrap 1=1:=by decide
@[simp] theorem wr2:IntKind.i64.wrap 2=2:=by decide
@[simp] theorem wr3:IntKind.i64.wrap 3=3:=by decide
@[simp] theorem wr4:IntKind.i64.wrap 4=4:=by decide
@[simp] theorem Vqu:IntKind.i64.wrap (-1) = -1:=by decide
@[simp] theorem Vqt:IntKind.i64.wrap (-2) = -2:=by decide
theorem IP {ek:EqK}{k:IntKind}{a b:Int}(h:b≠0):Af ek .rem (.int k a) (.int k b)=some (.int k (a.tmod b)):=by simp[Af,DB,FR,h]
theorem Qd {ek:EqK}{k:IntKind}{a b:Int}(h:b≠0):Af ek .quo (.int k a) (.int k b)=some (.int k (k.wrap (a.tdiv b))):=by simp[Af,DB,FR,h]
@[simp] theorem VoV {ek:EqK}{k:IntKind}{a:Nat}{b:Nat}[h:NeZero b]:Af ek .rem (.int k (a:Int)) (.int k (b:Int))=some (.int k ((a%b:Nat):Int)):=by rw[IP (by have:=h.out;omega)];rfl
theorem Bx {k k':IntKind}{n:Int}:AG k (.int k' n)=some (.int k (k.wrap n)):=(rfl)
theorem Jz (p q:Bool):Af .bool .eql (.bool p) (.bool q)=some (.bool (p==q)):=by cases p<;>cases q<;>rfl
theorem Vj7 (p q:Bool):Af .bool .neq (.bool p) (.bool q)=some (.bool (p != q)):=by cases p<;>cases q<;>rfl
theorem Sy {k:IntKind}{a b:Int}:Hv JD (.int k a) [.int k b]=some (.int k (max a b)):=by simp only[Hv,JD,zXa];congr 2;omega
theorem Vlz {k:IntKind}{a b:Int}:Hv TA (.int k a) [.int k b]=some (.int k (min a b)):=by simp only[Hv,TA,zXa];congr 2;omega
theorem Dk {ek:EqK}{a b:zAa}(h:a.length+b.length<=1152921504606846976):Af ek .add (.str a) (.str b)=some (.str (a++b)):=by simp[Af,VbN,h]
theorem DC {s:zAa}{i:Nat}{K:IntKind}(h:i<s.length):C3 (.str s) (.int K (i:Int))=some (.int .u8 (s[i].toNat:Int)):=by simp[C3,h]
theorem ViQ {c:UInt8}{s:zAa}{K:IntKind}:C3 (.str (c::s)) (.int K 0)=some (.int .u8 (c.toNat:Int)):=by simp[C3]
theorem Pa {s:zAa}{h:Nat}{K:IntKind}(hh:h<=s.length):C0 (.str s) none (some (.int K (h:Int)))=some (.str (s.take h)):=by simp[C0,B2,hh]
theorem GM {s:zAa}{l:Nat}{K:IntKind}(hl:l<=s.length):C0 (.str s) (some (.int K (l:Int))) none=some (.str (s.drop l)):=by simp[C0,B2,hl]
theorem Vo {s:zAa}{l h:Nat}{K K':IntKind}(hl:l<=h)(hh:h<=s.length):C0 (.str s) (some (.int K (l:Int))) (some (.int K' (h:Int)))=some (.str ((s.take h).drop l)):=by simp[C0,B2,hl,hh]
def enL {α:Type}(f:α->List Ab)(l:List α):List (List Ab):=l.map f
class Sz {α:Type} (f:α->List Ab) (n:outParam Nat):Prop where
 len:∀a,(f a).length=n
abbrev cB (b:Bool):List Ab:=[.bool b]
abbrev cU (n:Nat):List Ab:=[.int .u32 (n:Int)]
abbrev cI (n:Int):List Ab:=[.i6 n]
abbrev cN (n:Nat):List Ab:=[.i6 (n:Int)]
abbrev cY (b:UInt8):List Ab:=[.int .u8 (b.toNat:Int)]
abbrev cS (s:zAa):List Ab:=[.str s]
instance:Sz cB 1:=⟨λ_=>rfl⟩
instance:Sz cU 1:=⟨λ_=>rfl⟩
instance:Sz cI 1:=⟨λ_=>rfl⟩
instance:Sz cN 1:=⟨λ_=>rfl⟩
instance:Sz cY 1:=⟨λ_=>rfl⟩
instance:Sz cS 1:=⟨λ_=>rfl⟩
section
variable {α:Type}{f:α->List Ab}{l m:List α}{tk:Tok}{i sz:Nat}{K:IntKind}
theorem Ia:enL f []=[]:=rfl
theorem VdS:enL f (l++m)=enL f l++enL f m:=by simp[enL]
@[simp] theorem VmT:(enL f l).length=l.length:=by simp[enL]
@[simp] theorem Aw:A7 (.sl (enL f l) tk)=some (.i6 (l.length:Int)):=by simp[enL]
theorem Vhm [h:Sz f sz]:((enL f l).all λe=>e.length==sz)=true:=by simp[enL,h.len]
theorem Ay [hf:Sz f sz](h:i<l.length):Av sz (.sl (enL f l) tk) (.int K (i:Int))=some (.cptr (f l[i]) 0):=by simp[Av,enL,h,hf.len]
theorem VbQ [hf:Sz f sz]{h:Nat}(hh:h<=l.length):B5 sz (.sl (enL f l) tk) none (some (.int K (h:Int))) none=some (.sl (enL f (l.take h)) (FY tk 0 h l.length false)):=by
 simp[B5,B2,enL,hf.len,hh,List.map_take]
theorem O7 [hf:Sz f sz]{b:Nat}(hb:b<=l.length):B5 sz (.sl (enL f l) tk) (some (.int K (b:Int))) none none=some (.sl (enL f (l.drop b)) (FY tk b l.length l.length false)):=by
 have:List.take l.length (l.map f)=l.map f:=WH (by simp);simp[B5,B2,enL,hf.len,hb,List.map_drop,this]

end
theorem SI (b:Bool):AN 1 [.bool b]=some (.sl (enL cB [b]) .ti):=by simp[AN,Di,Ld,BN,Ab.acells,enL]
theorem Vmu (n:Nat):AN 1 [.int .u32 (n:Int)]=some (.sl (enL cU [n]) .ti):=by simp[AN,Di,Ld,BN,Ab.acells,enL]
theorem Vmv (n:Nat):AN 1 [.i6 (n:Int)]=some (.sl (enL cN [n]) .ti):=by simp[AN,Di,Ld,BN,Ab.acells,enL]
theorem SH (s:zAa):AN 1 [.str s]=some (.sl (enL cS [s]) .ti):=by simp[AN,Di,Ld,BN,Ab.acells,enL]
theorem Vha (b:UInt8):AN 1 [.int .u8 (b.toNat:Int)]=some (.sl (enL cY [b]) .ti):=by simp[AN,Di,Ld,BN,Ab.acells,enL]
theorem Vb1 (s:zAa):bytesOf (enL cY s)=some s:=by
 induction s with
 |nil=>rfl
 |cons b s ih=>simp only[enL,Yk,bytesOf]at ih⊢;simp[ih]
@[simp] theorem Ql {s:zAa}{tk:Tok}{H:Aa}:CT (.sl (enL cY s) tk) H=some (.str s):=by simp[CT,Vb1]
@[simp] theorem A5 {sz o:Nat}{cs:List Ab}{H:Aa}:Ad false sz (.cptr cs o) H=cs[o]? := (rfl)
@[simp] theorem alloc_eq {cs:List Ab}{H:Aa}(h:cs.all Ab.isScal=true):A0 (some cs) H=some (.ptr H.length 0 0,H++[.c0 cs]):=by simp only[A0,zXa,h,if_true]
section
variable {H G:Aa}{a:Bool}{sz k g o:Nat}{b:Blk}{cs:List Ab}{v:Ab}
@[simp] theorem Vbi:AC (H++G) (H.length+k) g=AC G k g:=by
 have:(H++G)[H.length+k]? = G[k]? := by rw[WX (by omega)];congr 1;omega
 unfold AC;rw[this]
@[simp] theorem VcH:AC (H++G) H.length g=AC G 0 g:=Vbi (k:=0)
theorem VlP {i:Nat}(h:i<H.length):AC (H++G) i g=AC H i g:=by simp[AC,W8 h]
@[simp] theorem VcF:AC (b::G) (k+1) g=AC G k g:=by simp[AC]
@[simp] theorem Kw:AC (.cel g cs::G) 0 g=some cs:=by simp[AC]
@[simp] theorem ViD:Ad a sz (.ptr (H.length+k) g o) (H++G)=Ad a sz (.ptr k g o) G:=by simp only[Ad,Vbi]
@[simp] theorem FE:Ad a sz (.ptr H.length g o) (H++G)=Ad a sz (.ptr 0 g o) G:=by simp only[Ad,VcH]
@[simp] theorem VfH:Ad a sz (.ptr (k+1) g o) (b::G)=Ad a sz (.ptr k g o) G:=by simp only[Ad,VcF]
@[simp] theorem HH:Ad false sz (.ptr 0 g o) (.cel g cs::G)=cs[o]? := by simp only[Ad,Kw];rfl
theorem VdG:Ad true sz (.ptr 0 g o) (.cel g cs::G)=if o+sz<=cs.length then some (.agg ((cs.drop o).take sz))else none:=by simp only[Ad,Kw];rfl
@[simp] theorem TG (h:cs.length=sz):Ad true sz (.ptr 0 g 0) (.cel g cs::G)=some (.agg cs):=by simp[VdG,h,WH (YG h)]
theorem SZ:Ga (H++G) (H.length+k) g cs=H++Ga G k g cs:=by
 have:(H++G)[H.length+k]? = G[k]? := by rw[WX (by omega)];congr 1;omega
 unfold Ga;rw[this];split<;>(rw[Xl _ _ (by omega)];congr 2<;>omega)
theorem Vx:Ga (b::G) (k+1) g cs=b::Ga G k g cs:=by unfold Ga;simp only[List.getElem?_cons_succ,List.set_cons_succ];split<;>simp_all
@[simp] theorem Vn:Ai sz (.ptr (H.length+k) g o) v (H++G)=(Ai sz (.ptr k g o) v G).map (H++·):=by
 simp only[Ai,Vbi];cases AC G k g with
 |none=>rfl
 |some cs=>
  simp only[zXa];cases v.acells with
  |none=>rfl
  |some vs=>
   simp only[zXa];split;simp[SZ]
   ·rfl
@[simp] theorem KK:Ai sz (.ptr H.length g o) v (H++G)=(Ai sz (.ptr 0 g o) v G).map (H++·):=Vn (k:=0)
@[simp] theorem Vdt:Ai sz (.ptr (k+1) g o) v (b::G)=(Ai sz (.ptr k g o) v G).map (b::·):=by
 simp only[Ai,VcF];cases AC G k g with
 |none=>rfl
 |some cs=>
  simp only[zXa];cases v.acells with
  |none=>rfl
  |some vs=>
   simp only[zXa];split;simp[Vx]
   ·rfl
@[simp] theorem ST:Ai sz (.ptr 0 g o) v (.cel g cs::G)=v.acells.bind λvs=>if vs.length=sz/\o+sz<=cs.length then some (.cel g (D7 cs o sz vs)::G)else none:=by simp only[Ai,Kw,zXa,Ga,zXh,List.set_cons_zero]
@[simp] theorem Vec {K:IntKind}{n:Int}:(Ab.int K n).acells=some [.int K n]:=(rfl)
@[simp] theorem Vm9 {t:Bool}:(Ab.bool t).acells=some [.bool t]:=(rfl)
@[simp] theorem Vna {s:zAa}:(Ab.str s).acells=some [.str s]:=(rfl)
@[simp] theorem Rz {es:List (List Ab)}{tk:Tok}:(Ab.sl es tk).acells=some [.sl es tk]:=(rfl)
@[simp] theorem Voy {id g off len cap sz:Nat}{ex:Bool}:(Ab.ms id g off len cap sz ex).acells=some [.ms id g off len cap sz ex]:=(rfl)
@[simp] theorem Vnb {id g off:Nat}:(Ab.ptr id g off).acells=some [.ptr id g off]:=(rfl)
@[simp] theorem Vm8:Ab.nilp.acells=some [.nilp]:=(rfl)
@[simp] theorem Voz {id:Nat}:(Ab.mp id).acells=some [.mp id]:=(rfl)
@[simp] theorem Vo0 {f:FuncId}{caps:List Ab}:(Ab.fn f caps).acells=some [.fn f caps]:=(rfl)
theorem Cb {cs:List Ab}(h:cs.all Ab.isScal=true):(Ab.agg cs).acells=some cs:=by simp[Ab.acells,h]

end
section
variable {K:IntKind}{n:Int}{t:Bool}{s:zAa}{es:List (List Ab)}{tk:Tok}{id g off len cap sz:Nat}{ex:Bool}{f:FuncId}{caps:List Ab}
@[simp] theorem VoE:(Ab.int K n).isScal=true:=(rfl)
@[simp] theorem Vns:(Ab.bool t).isScal=true:=(rfl)
@[simp] theorem VoC:(Ab.str s).isScal=true:=(rfl)
@[simp] theorem Vpj:(Ab.sl es tk).isScal=true:=(rfl)
@[simp] theorem Vpk:(Ab.ms id g off len cap sz ex).isScal=true:=(rfl)
@[simp] theorem VoD:(Ab.ptr id g off).isScal=true:=(rfl)
@[simp] theorem Vpl:(Ab.mp id).isScal=true:=(rfl)
@[simp] theorem Vnr:Ab.nilp.isScal=true:=(rfl)
@[simp] theorem Vpm:(Ab.fn f caps).isScal=true:=(rfl)

end
open Classical in
theorem Vom (p:Prop)(x:Out):chk p x=if p then x else none:=rfl
theorem Vbz {p:Prop}(h:p)(x:Out):chk p x=x:=by rw[Vom,if_pos h]
def Jr (H:Aa)(n d:Nat)(v:Ab):Option Ab:=(frz H n d v).map fgt
def G4 (H:Aa)(n d:Nat)(vs:List Ab):Option (List Ab):=(G3 H n d vs).map (List.map fgt)
def Ft (H:Aa)(n d:Nat)(v:Ab):Option Ab:=(frz H n d v).map ED
def Jo (H:Aa)(n d:Nat)(vs:List Ab):Option (List Ab):=(G3 H n d vs).map (List.map ED)
def HI (H:Aa)(n d:Nat)(v:Ab):Option Ab:=(frz H n d v).map forget
section
variable {H H0 G:Aa}{n d:Nat}{v:Ab}{vs cs:List Ab}
theorem Gz (h:H.take H0.length=H0):rPN H0 v H=(HI H H0.length 8 v).map λv=>(.ret v,H0):=by simp only[rPN,fin,Vbz h,HI,YQ];rfl
@[simp] theorem C8:rPN H0 v (H0++G)=(HI (H0++G) H0.length 8 v).map λv=>(.ret v,H0):=Gz (by simp)
@[simp] theorem M9:rPN H0 v H0=(HI H0 H0.length 8 v).map λv=>(.ret v,H0):=Gz (by simp)
@[simp] theorem Ez:rKN H0 v H=some (.ret (forget v),H):=(rfl)
theorem Vgl {es:List (List Ab)}{tk:Tok}:∃tk',frz H n (d+1) (.sl es tk)=some (.sl es tk'):=by cases tk with|no=>exact⟨.no,by simp[frz]⟩|ti=>exact⟨.ti,by simp[frz]⟩|own t=>by_cases h:t<n;exact⟨.own t,by simp[frz,h]⟩;exact⟨.no,by simp[frz,h]⟩
@[simp] theorem Cs:HI H n (d+1) (.tup vs)=(Jo H n d vs).map .tup:=by simp only[HI,Jo,frz,YQ];rfl
@[simp] theorem Vji:HI H n (d+1) (.agg cs)=(G4 H n d cs).map .agg:=by simp only[HI,G4,frz,YQ];rfl
@[simp] theorem VoS {K:IntKind}{i:Int}:HI H n (d+1) (.int K i)=some (.int K i):=by simp[HI,frz,forget,ED,fgt]
@[simp] theorem Voc {t:Bool}:HI H n (d+1) (.bool t)=some (.bool t):=by simp[HI,frz,forget,ED,fgt]
@[simp] theorem VoR {s:zAa}:HI H n (d+1) (.str s)=some (.str s):=by simp[HI,frz,forget,ED,fgt]
@[simp] theorem HZ {es:List (List Ab)}{tk:Tok}:HI H n (d+1) (.sl es tk)=some (.sl es .no):=by obtain⟨tk',h⟩:=Vgl (H:=H) (n:=n) (d:=d) (es:=es) (tk:=tk);simp[HI,h,forget,ED,fgt]
@[simp] theorem BB:Jo H n (d+1) []=some []:=by simp[Jo,G3]
@[simp] theorem By:Jo H n (d+1) (v::vs)=(Ft H n d v).bind λv'=>(Jo H n (d+1) vs).map (v'::·):=by simp only[Jo,Ft,G3];cases frz H n d v with|none=>rfl|some x=>cases G3 H n (d+1) vs<;>rfl
@[simp] theorem EE:G4 H n (d+1) []=some []:=by simp[G4,G3]
@[simp] theorem DR:G4 H n (d+1) (v::vs)=(Jr H n d v).bind λv'=>(G4 H n (d+1) vs).map (v'::·):=by simp only[G4,Jr,G3];cases frz H n d v with|none=>rfl|some x=>cases G3 H n (d+1) vs<;>rfl
@[simp] theorem FH:Ft H n (d+1) (.agg cs)=(G4 H n d cs).map .agg:=by simp only[Ft,G4,frz,YQ];rfl
@[simp] theorem Dc {K:IntKind}{i:Int}:Ft H n (d+1) (.int K i)=some (.int K i):=by simp[Ft,frz,ED,fgt]
@[simp] theorem Fs {t:Bool}:Ft H n (d+1) (.bool t)=some (.bool t):=by simp[Ft,frz,ED,fgt]
@[simp] theorem Vgn {s:zAa}:Ft H n (d+1) (.str s)=some (.str s):=by simp[Ft,frz,ED,fgt]
@[simp] theorem Jp {es:List (List Ab)}{tk:Tok}:Ft H n (d+1) (.sl es tk)=some (.sl es .no):=by obtain⟨tk',h⟩:=Vgl (H:=H) (n:=n) (d:=d) (es:=es) (tk:=tk);simp[Ft,h,ED,fgt]
@[simp] theorem Vgz {K:IntKind}{i:Int}:Jr H n (d+1) (.int K i)=some (.int K i):=by simp[Jr,frz,fgt]
@[simp] theorem Lh {t:Bool}:Jr H n (d+1) (.bool t)=some (.bool t):=by simp[Jr,frz,fgt]
@[simp] theorem Wj {s:zAa}:Jr H n (d+1) (.str s)=some (.str s):=by simp[Jr,frz,fgt]
@[simp] theorem GV {es:List (List Ab)}{tk:Tok}:Jr H n (d+1) (.sl es tk)=some (.sl es .no):=by obtain⟨tk',h⟩:=Vgl (H:=H) (n:=n) (d:=d) (es:=es) (tk:=tk);simp[Jr,h,fgt]
@[simp] theorem Wg {es:List (List Ab)}{tk:Tok}:forget (.sl es tk)=.sl es .no:=(rfl)
@[simp] theorem VmR:forget (.agg cs)=.agg (cs.map fgt):=(rfl)
@[simp] theorem VmP:forget (.tup cs)=.tup (cs.map ED):=(rfl)
@[simp] theorem VoQ:ED (.agg cs)=.agg (cs.map fgt):=(rfl)
@[simp] theorem VpA {es:List (List Ab)}{tk:Tok}:ED (.sl es tk)=.sl es .no:=(rfl)
@[simp] theorem VoP {K:IntKind}{i:Int}:ED (.int K i)=.int K i:=(rfl)
@[simp] theorem Vob {t:Bool}:ED (.bool t)=.bool t:=(rfl)
@[simp] theorem VoO {s:zAa}:ED (.str s)=.str s:=(rfl)
@[simp] theorem VpV {es:List (List Ab)}{tk:Tok}:fgt (.sl es tk)=.sl es .no:=(rfl)
@[simp] theorem Vp9 {K:IntKind}{i:Int}:fgt (.int K i)=.int K i:=(rfl)
@[simp] theorem VoN {t:Bool}:fgt (.bool t)=.bool t:=(rfl)
@[simp] theorem Vp8 {s:zAa}:fgt (.str s)=.str s:=(rfl)
@[simp] theorem DN:UD []=some []:=(rfl)
@[simp] theorem Dl {x:Option Ab}{xs:List (Option Ab)}:UD (x::xs)=x.bind λv=>(UD xs).map (v::·):=(rfl)
@[simp] theorem EX {xs:List (Option Ab)}:Ex xs=(UD xs).map .tup:=(rfl)
@[simp] theorem B4:At 0 (.tup (v::vs))=some v:=(rfl)
@[simp] theorem BE {w:Ab}:At 1 (.tup (v::w::vs))=some w:=(rfl)
@[simp] theorem Wk {w u:Ab}:At 2 (.tup (v::w::u::vs))=some u:=(rfl)

end
def JW:Ab->Bool
 |.int _ _=>true
 |.bool _=>true
 |.str _=>true
 |_=>false
def JV:Ab->Bool
 |.tup vs=>vs.all JW
 |v=>JW v
section
variable {H H0 G:Aa}{n d:Nat}{v:Ab}{vs:List Ab}{K:IntKind}{i:Int}{t:Bool}{s:zAa}
@[simp] theorem VmL:JW (.int K i)=true:=(rfl)
@[simp] theorem Vli:JW (.bool t)=true:=(rfl)
@[simp] theorem VmK:JW (.str s)=true:=(rfl)
@[simp] theorem VmH:JV (.tup vs)=vs.all JW:=(rfl)
@[simp] theorem VmJ:JV (.int K i)=true:=(rfl)
@[simp] theorem Vlh:JV (.bool t)=true:=(rfl)
@[simp] theorem VmI:JV (.str s)=true:=(rfl)
theorem VdL (h:JW v=true):frz H n (d+1) v=some v:=by cases v<;>first | (simp[JW]at h;done) | simp[frz]
theorem TS:∀(vs:List Ab),vs.all JW=true->G3 H n (d+2) vs=some vs
 |[],_=>by simp[G3]
 |v::vs,h=>by simp only[List.all_cons,WG]at h;simp[G3,VdL h.1,TS vs h.2]
theorem GD (h:JV v=true)(ht:H.take H0.length=H0):rP H0 v H=some (.ret v,H0):=by rw[VkR v ht];cases v<;>first | (simp[JV,JW]at h;done) | (simp[frz];done) | (rename_i vs;simp[frz,TS vs (by simpa[JV]using h)])
@[simp] theorem VbZ (h:JV v=true):rP H0 v (H0++G)=some (.ret v,H0):=GD h (by simp)
@[simp] theorem Vnv (h:JV v=true):rP H0 v H0=some (.ret v,H0):=GD h (by simp)

end
section
variable {α:Type}{f:α->List Ab}{H:Aa}{ty:TypeId}{sz bytes:Nat}{l m:List α}{tk:Tok}
theorem Dh [hf:Sz f sz](hm:m≠[])(hb:(l.length+m.length)*bytes<=140737488355328)(hn:l.length+m.length<=140737488355328):AW ty sz bytes (.sl (enL f l) .ti) (.sl (enL f m) tk) H=some (.sl (enL f (l++m)) (.own H.length),H++[.tok (l.length+m.length) ty sz]):=by
 simp[AW,Cu,enL,hf.len,hm,hb,hn]
theorem F4 [hf:Sz f sz]{t:Nat}(hm:m≠[])(hH:H[t]? = some (.tok l.length ty sz))(hb:(l.length+m.length)*bytes<=140737488355328)(hn:l.length+m.length<=140737488355328):AW ty sz bytes (.sl (enL f l) (.own t)) (.sl (enL f m) tk) H=some (.sl (enL f (l++m)) (.own t),H.set t (.tok (l.length+m.length) ty sz)):=by
 simp[AW,Cu,enL,hf.len,hm,hb,hn,hH]
theorem En {x:Ab}(hx:(Cu sz x H).isSome=true):AW ty sz bytes x (.sl [] tk) H=some (x,H):=by cases h:Cu sz x H with|none=>simp[h]at hx|some es=>simp only[AW,h];simp[Cu]
def E4 (f:α->List Ab)(B:Aa):List α->Ab
 |[]=>.sl [] .ti
 |l=>.sl (enL f l) (.own B.length)
def Ep (f:α->List Ab)(ty:TypeId)(sz:Nat)(B:Aa):List α->Aa
 |[]=>B
 |l=>B++[.tok l.length ty sz]
def Vpy (B:Aa):List α->Tok
 |[]=>.ti
 |_=>.own B.length
theorem GQ (B:Aa)(l:List α):E4 f B l=.sl (enL f l) (Vpy B l):=by cases l<;>rfl
theorem HW (B:Aa)(l:List α):∃G,Ep f ty sz B l=B++G:=by cases l with|nil=>exact⟨[],by simp[Ep]⟩|cons a l=>exact⟨_,rfl⟩
theorem F5 [hf:Sz f sz]{B:Aa}(hm:m≠[])(hb:(l.length+m.length)*bytes<=140737488355328)(hn:l.length+m.length<=140737488355328):AW ty sz bytes (E4 f B l) (.sl (enL f m) tk) (Ep f ty sz B l)=some (E4 f B (l++m),Ep f ty sz B (l++m)):=by
 obtain⟨x,m',rfl⟩:∃x m',m=x::m':=by cases m with | nil=>exact absurd rfl hm | cons x m'=>exact⟨x,m',rfl⟩
 cases l with|nil=>have:=Dh (f:=f) (l:=[]) (ty:=ty) (tk:=tk) (H:=B) hm hb hn;simpa[E4,Ep,Ia]using this|cons a l=>have:=F4 (f:=f) (l:=a::l) (ty:=ty) (tk:=tk) (H:=B++[.tok (a::l).length ty sz]) (t:=B.length) hm (by simp) hb hn;simp only[E4,Ep,List.cons_append]at this⊢;rw[this];simp;omega

end
end Go.Gm
