/- Texts of this proof, joined. -/
import Derived.Test.YtagddbecnkbcdaaGreatJ1
import Derived.Orders
import Derived.Laws.StructEq
import Derived.ChangeKeysEq
import Derived.WideKeyRuns
import Derived.KernelRfl
set_option linter.all false
noncomputable section
namespace Go.Gm
structure Nw (C:Cfg):Prop where
 eq:Vqc C
 map:Vo7 C
 orc:G4 C.P C.G C.orc
section
variable {C:Cfg}{E:Env}{H:Aa}{w:World}
theorem Vjn {ρ:Operand->Value}{o:Oper}{c:Call}{f:Operand}{g:FuncId}{vs:Array Value}(ho:o.op=.call c)(hc:c.callee=.value f)(hf:ρ f=.func (.func g) #[] vs):execOp ρ o=callFunc g (c.args.map ρ++vs):=by
 unfold execOp;rw[ho];simp only[resolve,hc,Deferred.ofValue,hf,pure_bind,invoke]
 congr 1
 simp
theorem VgN {ρ:Operand->Value}{o:Oper}{c:Call}{f:Operand}{g:FuncId}{vs:Array Value}(ho:o.op=.call c)(hc:c.callee=.value f)(hf:ρ f=.func (.func g) vs #[]):execOp ρ o=callFunc g (vs++c.args.map ρ):=by
 unfold execOp;rw[ho];simp only[resolve,hc,Deferred.ofValue,hf,pure_bind,invoke]
 congr 1
theorem Sj (hC:Nw C)(hG:DS C.G E)(hs:Sim E H w){a:Act}{r:Operand->Ab}(hr:∀x,A3 E (r x) (a.eval x)){o:Oper}{res:Res}{H':Aa}(h:FP C o.op r H=some (res,H')){next:Act->World->Prop}{Q:Exit->Act->World->Prop}
  (hn:∀E' w' v x,res=.ret x->A3 E' x v->Sim E' H' w'->Cf E H w E' H' w'->next (a.put o.dst v) w')
  (hp:∀E' w' v x,res=.pan x->A3 E' x v->Sim E' H' w'->Cf E H w E' H' w'->Q (.panic [{ v,recovered:=false}]) a w'):o.wp C.P a w next Q:=by
 unfold Oper.wp;have skip:∀w',(execOp a.eval o).run C.P w=.ok .skip w'->res=.ret .undef->Sim E H' w'->Cf E H w E H' w'->o.upon C.P a next Q ((execOp a.eval o).run C.P w):=by intro w' aC hres h1 h2;rw[aC,Oper.upon_skip];exact hn E w' undef .undef hres (.undef _) h1 h2
 have value:∀v w' E' x,(execOp a.eval o).run C.P w=.ok (.value v) w'->res=.ret x->A3 E' x v->Sim E' H' w'->Cf E H w E' H' w'->o.upon C.P a next Q ((execOp a.eval o).run C.P w):=by intro v w' E' x aC hres hv h1 h2;rw[aC,Oper.upon_value];exact hn E' w' v x hres hv h1 h2
 cases aF:o.op with
 |store t x v=>
  simp only[aF,FP]at h;split at h
  cases h
  ·rename_i hk;obtain⟨_,hz,_⟩:=CG (P:=C.P) (t:=t) (by simpa using hk);cases hst:Ae (Au C.P t) (r x) (r v) H with
   |none=>simp[hst,As]at h
   |some H1=>simp only[hst,As,zXb,VT,Wh]at h;obtain⟨rfl,rfl⟩:=h;obtain⟨w',h1,h2,h3⟩:=Vh1 hs hz (hr x) (hr v) hst;exact skip w' (by simp[execOp,aF,h1,Result.andThen]) rfl h2 h3
 |mapUpdate t m k x=>
  simp only[aF,FP]at h;split at h
  ·rename_i kt e hu;split at h
   ·rename_i hk;cases hst:Ev (BX C.P kt) (Au C.P kt) (r m) (r k) (r x) H with
    |none=>simp[hst,As]at h
    |some H1=>simp only[hst,As,zXb,VT,Wh]at h;obtain⟨rfl,rfl⟩:=h;obtain⟨w',h1,h2,h3⟩:=hC.map.upd t kt e E H _ w _ _ _ _ _ _ hu hk hs (hr m) (hr k) (hr x) hst;exact skip w' (by simp[execOp,aF,h1,Result.andThen]) rfl h2 h3
   cases h
  cases h
 |insert t m k x=>
  simp only[aF,FP]at h;split at h
  ·rename_i kt e hu;split at h
   ·rename_i hk;cases hst:Ev (BX C.P kt) (Au C.P kt) (r m) (r k) (r x) H with
    |none=>simp[hst,As]at h
    |some H1=>simp only[hst,As,zXb,VT,Wh]at h;obtain⟨rfl,rfl⟩:=h;obtain⟨w',h1,h2,h3⟩:=hC.map.upd t kt e E H _ w _ _ _ _ _ _ hu hk hs (hr m) (hr k) (hr x) hst;exact skip w' (by simp[execOp,aF,h1,Result.andThen]) rfl h2 h3
   cases h
  cases h
 |range t x=>
  simp only[aF,FP]at h;split at h
  ·rename_i hu;cases hst:O1 (r x) H with
   |none=>simp[hst,Cd]at h
   |some p=>obtain⟨z,H1⟩:=p;simp only[hst,Cd,zXb,VT,Wh]at h;obtain⟨rfl,rfl⟩:=h;obtain⟨u,w',E',h1,h2,h3,h4⟩:=VhG hs hu (hr x) hst;exact value u w' E' z (by simp[execOp,aF,h1,Result.andThen]) rfl h2 h3 h4
  cases h
 |next x isStr=>
  simp only[aF,FP]at h;split at h
  ·rename_i lY;cases hst:Pb (r x) H with
   |none=>simp[hst,Cd]at h
   |some p=>obtain⟨z,H1⟩:=p;simp only[hst,Cd,zXb,VT,Wh]at h;obtain⟨rfl,rfl⟩:=h;obtain⟨u,w',h1,h2,h3,h4⟩:=Vln (ty:=o.type) (C:=C) hs (hr x) hst;exact value u w' E z (by simp[execOp,aF,lY,h1,Result.andThen]) rfl h2 h3 h4
  cases h
 |panic x=>
  simp only[aF,FP]at h;split at h
  rename_i t y hx;simp only[VT,Wh]at h;obtain⟨rfl,rfl⟩:=h;have hx':=hr x;rw[hx]at hx';obtain⟨u,hu,hv⟩:=hx'.iface_inv;have aC:(execOp a.eval o).run C.P w=.halt (.panic (.iface t u)) w:=(by have h0:(Instr.panic (.iface t u)).run C.P w=.halt (.panic (.iface t u)) w:=rfl;simp[execOp,aF,hu,h0,Result.andThen]);rw[aC,Oper.upon_panic];exact hp E w _ _ rfl (.iface hv) hs (.refl _ _ _);cases h
 |call c=>
  simp only[aF,FP]at h;split at h
  ·rename_i hb;split at h
   ·rename_i x y t ty ha ht;have lE:=Vqp ha;have dK:=Vqp ht;split at h
    ·rename_i e e' hu jQ;split at h
     cases h
     ·rename_i hk;have hk1:okT C.P e=true:=(by cases hq:okT C.P e<;>simp_all);have hk2:t=ty:=(by by_cases hq:t=ty;exact hq;exact zYf (.inr hq) hk);subst hk2;by_cases pO:C.mu=true
      ·rw[zYc pO]at h;cases hst:Gg e (Au C.P e) (FO C.P e) (r x) (r y) H with
       |none=>simp[hst,Cd]at h
       |some p=>obtain⟨z,H1⟩:=p;simp only[hst,Cd,zXb,VT,Wh]at h;obtain⟨rfl,rfl⟩:=h;have bT:∀s,r y≠.str s:=λs h2=>(by simp[Gg,h2,C8]at hst);obtain⟨q,w',E',h1,h2,h3,h4⟩:=TP (ty:=o.type) (u2:=t) hs hu hk1 (hr x) (hr y) (.inl ⟨rfl,bT⟩) (Vhc bT hst);refine value q w' E' z ?_ rfl h2 h3 h4;rw[DO aF hb,lE,dK,show(#[x,y]:Array Operand).map a.eval = #[a.eval x,a.eval y] from by simp];exact K8 h1
      ·rw[zYb pO]at h;cases hst:AS e (Au C.P e) (FO C.P e) (r x) (r y) H with
       |none=>simp[hst,Cd]at h
       |some p=>obtain⟨z,H1⟩:=p;simp only[hst,Cd,zXb,VT,Wh]at h;obtain⟨rfl,rfl⟩:=h;have bT:∀q s,C8 (Au C.P e) q H≠none->q≠.str s:=λq s h1 h2=>(by subst h2;exact h1 rfl);have hx1:C8 (Au C.P e) (r y) H≠none:=λhq=>(by simp[AS,hq]at hst);have hx2:C8 (Au C.P e) (r x) H≠none:=λhq=>(by unfold AS at hst;rw[hq]at hst;cases nA:C8 (Au C.P e) (r y) H<;>simp[nA]at hst);obtain⟨q,w',E',h1,h2,h3,h4⟩:=Vhb (ty:=o.type) hs hu hk1 (hr x) (hr y) (λs=>bT _ s hx2) (λs=>bT _ s hx1) hst;refine value q w' E' z ?_ rfl h2 h3 h4;rw[DO aF hb,lE,dK,show(#[x,y]:Array Operand).map a.eval = #[a.eval x,a.eval y] from by simp];exact K8 h1
    ·rename_i e hu jQ;split at h
     cases h
     ·rename_i hk;have hk1:okT C.P e=true:=(by cases hq:okT C.P e<;>simp_all);cases hst:Vb4 e (Au C.P e) (FO C.P e) (r x) (r y) H with
      |none=>simp[hst,Cd]at h
      |some p=>obtain⟨z,H1⟩:=p;simp only[hst,Cd,zXb,VT,Wh]at h;obtain⟨rfl,rfl⟩:=h;obtain⟨s,lL,nX⟩:=Vb3 hst;obtain⟨q,w',E',h1,h2,h3,h4⟩:=TP (ty:=o.type) (u2:=ty) hs hu hk1 (hr x) (hr y) (.inr ⟨jQ,s,lL⟩) nX;refine value q w' E' z ?_ rfl h2 h3 h4;rw[DO aF hb,lE,dK,show(#[x,y]:Array Operand).map a.eval = #[a.eval x,a.eval y] from by simp];exact K8 h1
    cases h
   cases h
  ·rename_i hb;split at h
   ·rename_i x t ha ht;have lE:=VmF ha;have dK:=VmF ht;split at h
    ·rename_i e hu;split at h
     cases h
     ·rename_i hk;cases hst:KZ (Au C.P e) (GY C.P e) (r x) H with
      |none=>simp[hst,As]at h
      |some H1=>simp only[hst,As,zXb,VT,Wh]at h;obtain⟨rfl,rfl⟩:=h;obtain⟨w',h1,h2,h3⟩:=Vjj (ty:=o.type) hs hu (by simpa using hk) (hr x) hst;refine value (.tuple #[]) w' E .undef ?_ rfl (.undef _) h2 h3;rw[DO aF hb,lE,dK,show(#[x]:Array Operand).map a.eval = #[a.eval x] from by simp];exact K8 h1
    cases h
   cases h
  ·rename_i f hf;split at h
   ·rename_i g caps hg;have jM:=hr f;rw[hg]at jM;generalize sQ:a.eval f=fv at jM;cases jM with
    |fn pM aQ=>
     rename_i vs;have aC:=Vjn (ρ:=a.eval) aF hf (g:=g) (vs:=vs) sQ;have eG:AB E (c.args.toList.map r++caps) (c.args.map a.eval++vs).toList:=(by rw[Xz,XR];exact AB.append (AB.map _ _ _ λx _=>hr x) ⟨by simpa using pM,λi c v h1 h2=>aQ i c v h1 (by simpa using h2)⟩);rw[aC];rcases hC.orc g _ H res H' h E w _ hG hs eG with ⟨h1,h2⟩ | ⟨v,w',h1,E',h2,h3,h4⟩
     ·rw[h1,Oper.upon_enter];refine h2.mono λe w' hh=>?_;obtain⟨E',h3,h4,h5⟩:=hh;cases e with
      |returned v=>cases res with|ret x=>exact hn E' w' v x rfl h3 h4 h5|pan x=>exact h3.elim
      |panicked chain=>
       cases res with
       |ret x=>exact h3.elim
       |pan x=>obtain⟨v,rfl,hv⟩:=h3;exact hp E' w' v x rfl hv h4 h5
      |outgrown=>cases res<;>exact h3.elim
     rw[h1,Oper.upon_value];cases res with|ret x=>exact hn E' w' v x rfl h2 h3 h4|pan x=>exact h2.elim
   ·rename_i g first hg
    have jM:=hr f;rw[hg]at jM;generalize sQ:a.eval f=fv at jM;cases jM with
    |bfn pM aQ=>
     rename_i vs;have aC:=VgN (ρ:=a.eval) aF hf (g:=g) (vs:=vs) sQ;have eG:AB E (first++c.args.toList.map r) (vs++c.args.map a.eval).toList:=by rw[Xz,XR];exact AB.append ⟨by simpa using pM,λi c v h1 h2=>aQ i c v h1 (by simpa using h2)⟩ (AB.map _ _ _ λx _=>hr x)
     rw[aC];rcases hC.orc g _ H res H' h E w _ hG hs eG with ⟨h1,h2⟩ | ⟨v,w',h1,E',h2,h3,h4⟩
     ·rw[h1,Oper.upon_enter];refine h2.mono λe w' hh=>?_;obtain⟨E',h3,h4,h5⟩:=hh;cases e with
      |returned v=>cases res with|ret x=>exact hn E' w' v x rfl h3 h4 h5|pan x=>exact h3.elim
      |panicked chain=>
       cases res with
       |ret x=>exact h3.elim
       |pan x=>obtain⟨v,rfl,hv⟩:=h3;exact hp E' w' v x rfl hv h4 h5
      |outgrown=>cases res<;>exact h3.elim
     rw[h1,Oper.upon_value];cases res with|ret x=>exact hn E' w' v x rfl h2 h3 h4|pan x=>exact h2.elim
   cases h
  cases h
 |_=>simp[aF,FP]at h

end
structure In (n:Nat)(E:Env)(H:Aa)(tm:List Ab)(a:Act)(w:World):Prop where
 rel:AB E tm a.tmps.toList
 len:tm.length=n
 defers:a.defers=[]
 sim:Sim E H w
section
variable {C:Cfg}{E:Env}{H:Aa}{w:World}
theorem Kg {tm:List Ab}{ts:Array Value}(h:AB E tm ts.toList)(t:Nat):A3 E (tm.getD t .undef) (ts.getD t undef):=by
 rw[VO];cases ht:tm[t]? with
 |none=>exact .undef _
 |some x=>
  obtain⟨v,h1,h2⟩:=h.get ht;have:ts.getD t undef=v:=by have eO:ts[t]? = some v:=(by simpa using h1);simp[Wb,eO]
  rw[this];exact h2
theorem N2 (hG:DS C.G E){tm:List Ab}{a:Act}(h:AB E tm a.tmps.toList)(x:Operand):A3 E (rho C.G tm x) (a.eval x):=by
 cases x with
 |tmp t=>exact Kg h t
 |const v=>exact VcZ E v
 |global g=>simp only[rho,Act.eval];cases hg:C.G g with|none=>exact .undef _|some cs=>exact hG g cs hg
 |func f=>exact .fn rfl λi c v h=>by simp at h
theorem VkW {tm:List Ab}{a:Act}(h:AB E tm a.tmps.toList){x:Ab}{v:Value}(hv:A3 E x v)(d:Option Tmp):AB E (GW tm d x) (a.put d v).tmps.toList:=by cases d with|none=>exact h|some d=>simp only[GW,Act.put,Array.toList_setIfInBounds];exact h.set d hv
theorem O3 (a:Act)(d:Option Tmp)(v:Value):(a.put d v).defers=a.defers:=by cases d<;>rfl
theorem In.put {tm:List Ab}{a:Act}{n:Nat}(h:In n E H tm a w){E':Env}{H':Aa}{w':World}(hle:E.le E')(hs:Sim E' H' w'){x:Ab}{v:Value}(hv:A3 E' x v)(d:Option Tmp):In n E' H' (GW tm d x) (a.put d v) w':=
 ⟨VkW (h.rel.mono hle) hv d,by cases d<;>simp[GW,h.len],by rw[O3];exact h.defers,hs⟩
theorem OR:A3 E C9 undef:=.tup (by simp) λi c v h=>by simp at h
theorem ON {tm:List Ab}{a:Act}(h:AB E tm a.tmps.toList){ops:Array Oper}{o:Oper}{b:Bool}(hw:Io ops o tm=some b):Region.wanted o (yielded ops a.tmps)=b:=by
 unfold Io at hw;unfold Region.wanted;cases hg:o.guard with
 |none=>simp[hg]at hw;simp[hw]
 |some p=>
  obtain⟨j,want⟩:=p;simp only[hg]at hw;split at hw
  ·rename_i b' hb';injection hw with hw;subst hw;cases hd:(ops[j]?).bind (·.dst)with
   |none=>simp[hd]at hb'
   |some d=>simp only[hd,zXb,VT]at hb';have hr:=Kg h d;rw[hb']at hr;have hv:=hr.bool_inv;have hlt:d<a.tmps.size:=(by rcases W4 d a.tmps.size with hlt | hge;exact hlt;rw[Wb,Yt hge]at hv;cases hv);have bJ:a.tmps[d]? = some (.bool b'):=(by rw[Wb,Xs hlt]at hv;rw[Xs hlt];simpa using hv);simp only[yielded,hd,zXa,bJ];cases b'<;>cases want<;>rfl
  ·rename_i hb';injection hw with hw;subst hw;cases hd:(ops[j]?).bind (·.dst)with
   |none=>simp[hd]at hb'
   |some d=>simp only[hd,zXb,VT]at hb';have hr:=Kg h d;rw[hb']at hr;obtain⟨vs,hv,_⟩:=hr.tup_cells;have hy:yielded ops a.tmps j=none:=(by unfold yielded;rw[hd];simp only[zXa];cases bJ:a.tmps[d]? with|none=>rfl|some u=>have:u=.tuple vs:=(by rw[Wb,bJ]at hv;simpa using hv);subst this;rfl);simp only[hy];rfl
  cases hw
def KOk (C:Cfg)(n:Nat)(E0:Env)(H0:Aa)(w0:World)(out:Res×Aa)(k:List Ab->Aa->Out)(Q:Act->World->Prop):Prop:=
 ∀E tm H a w,DS C.G E->Cf E0 H0 w0 E H w->In n E H tm a w->k tm H=some out->Q a w
def Vmv (C:Cfg)(n:Nat)(E0:Env)(H0:Aa)(w0:World)(out:Res×Aa)(k:Ab->List Ab->Aa->Out)(Q:Exit->Act->World->Prop):Prop:=
 ∀E tm H a w x v,DS C.G E->Cf E0 H0 w0 E H w->In n E H tm a w->A3 E x v->k x tm H=some out->Q (.panic [{ v,recovered:=false}]) a w
theorem VcC (hC:Nw C){n:Nat}{E0:Env}{H0:Aa}{w0:World}{out:Res×Aa}{ops:Array Oper}{k:List Ab->Aa->Out}{kp:Ab->List Ab->Aa->Out}{Q:Exit->Act->World->Prop}
  (hk:KOk C n E0 H0 w0 out k (Q .normal))(cV:Vmv C n E0 H0 w0 out kp Q):∀(os:List Oper)(i:Nat)(E:Env)(tm:List Ab)(H:Aa)(a:Act)(w:World),(∀j,j<os.length->ops[i+j]? = os[j]?)->DS C.G E->Cf E0 H0 w0 E H w->In n E H tm a w->Pz C ops os k kp tm H=some out ->
   wpOps C.P ops Q (List.range' i os.length) a w
 |[],i,E,tm,H,a,w,_,hG,st,hf,h=>hk E tm H a w hG st hf h
 |o::os,i,E,tm,H,a,w,ho,hG,st,hf,h=>by
  rw[zXj,YD,wpOps_cons];have hi:ops[i]? = some o:=by have:=ho 0 (by simp);simpa using this
  have dP:∀j,j<os.length->ops[i+1+j]? = os[j]? := λj hj=>by have:=ho (j+1) (by simp;omega);rw[show i+1+j=i+(j+1) from by omega,this];rfl
  have ih:=VcC (ops:=ops) hC hk cV os (i+1);unfold wpOp;simp only[hi];simp only[Pz]at h;cases hw:Io ops o tm with
  |none=>simp[hw]at h
  |some b=>
   simp only[hw,zXa]at h;rw[ON hf.rel hw];have hr:=N2 (C:=C) hG hf.rel;cases b with
   |false=>simp only[VL,zYe];have jD:=hf.put (.refl E) hf.sim (x:=C9) (v:=undef) OR o.dst;cases hc:cls o.op<;>simp only[hc,gR,gA,gE,VL,zYe,zXa,Al,Im]at h<;>exact ih E _ H _ w dP hG st jD h
   |true=>
    simp only[zYd];refine .inl ?_;cases hc:cls o.op with
    |r=>
     simp only[hc,gR,zYd]at h;cases hst:BR C o.op (rho C.G tm) H with
     |none=>simp[hst]at h
     |some z=>simp only[hst,zXa]at h;obtain⟨v,w',E',h1,h2,h3,h4⟩:=VbF hC.eq hC.map hf.sim hr (λ_=>rfl) hst;unfold Oper.wp;rw[h1,Oper.upon_value];exact ih E' _ H _ w' dP (hG.mono h4.le) (st.trans h4) (hf.put h4.le h3 h2 o.dst) h
    |a=>
     simp only[hc,gA,zYd]at h;cases hst:CT C o.op (rho C.G tm) H with
     |none=>simp[hst,Al]at h
     |some p=>obtain⟨z,H'⟩:=p;simp only[hst,Al,zXa]at h;obtain⟨B,v,ob,f,rfl,hz,_,h1,h2,h3⟩:=(VbG hf.sim hr hst).ex;obtain⟨l1,l2⟩:=hf.sim.laid ob;obtain⟨t1,t2⟩:=h2.take l1 l2 (VM _);have g2:=h3 (E.setφ H.length 0 w.heap.size) H.length (by simp[Env.setφ]);rw[<-hz]at g2;unfold Oper.wp;rw[h1,Oper.upon_value];exact ih _ _ _ _ _ dP (hG.mono t2.le) (st.trans t2) (hf.put t2.le t1 g2 o.dst) h
    |e=>
     simp only[hc,gE,zYd]at h;cases hst:FP C o.op (rho C.G tm) H with
     |none=>simp[hst,Im]at h
     |some p=>obtain⟨res,H'⟩:=p;simp only[hst,Im,zXa]at h;refine Sj hC hG hf.sim hr hst (λE' w' v x hres hv h1 h2=>?_) (λE' w' v x hres hv h1 h2=>?_);subst hres;exact ih E' _ H' _ w' dP (hG.mono h2.le) (st.trans h2) (hf.put h2.le h1 hv o.dst) h;subst hres;exact cV E' tm H' a w' x v (hG.mono h2.le) (st.trans h2) ⟨hf.rel.mono h2.le,hf.len,hf.defers,h1⟩ hv h

end
def Vqq (E:Env):Vhn->Exit->Prop
 |.normal,.normal=>True
 |.exit i,.exit j=>i=j
 |.ret,.ret=>True
 |.pan x,.panic chain=>∃v,chain=[{ v,recovered:=false}]/\A3 E x v
 |_,_=>False
def TX (C:Cfg)(n:Nat)(E0:Env)(H0:Aa)(w0:World)(out:Res×Aa)(K:Rt)(e:Exit)(a:Act)(w:World):Prop:=
 ∃E H tm x,DS C.G E/\Cf E0 H0 w0 E H w/\In n E H tm a w/\Vqq E x e/\K x tm H=some out
section
variable {C:Cfg}{n:Nat}{E0:Env}{H0:Aa}{w0:World}{out:Res×Aa}
theorem TX.mk {K:Rt}{E:Env}{H:Aa}{tm:List Ab}{a:Act}{w:World}{x:Vhn}{e:Exit}(hG:DS C.G E)(st:Cf E0 H0 w0 E H w)(hf:In n E H tm a w)(hx:Vqq E x e)(h:K x tm H=some out):TX C n E0 H0 w0 out K e a w:=
 ⟨E,H,tm,x,hG,st,hf,hx,h⟩
theorem Vfl (L:zAb)(tm:List Ab)(n i:Nat):(OV n L (IP L tm)).getD i .undef=.undef\/(OV n L (IP L tm)).getD i .undef=tm.getD i .undef:=by
 unfold OV IP;rw[VO,Wq];by_cases hi:i<n;rw[Xy hi];simp only[zXb,Option.getD_some];cases hL:L.idxOf? i with|none=>exact .inl rfl|some j=>right;simp only[];have hj:L[j]? = some i:=(by have:=List.idxOf?_eq_some_iff.1 hL;obtain⟨h1,h2,_⟩:=this;rw[VG h1];simpa using h2);rw[VO,Wq,hj];simp
 rw[zYa (by simp;omega)];exact .inl rfl
theorem VkB {E:Env}{tm:List Ab}{ts:List Value}(h:AB E tm ts)(L:zAb)(n:Nat)(hn:tm.length=n):AB E (OV n L (IP L tm)) ts:=by
 have hl:(OV n L (IP L tm)).length=n:=by simp[OV]
 refine⟨by rw[hl,<-hn];exact h.1,λi c v h1 h2=>?_⟩;have hc:c=(OV n L (IP L tm)).getD i .undef:=by rw[VO,h1];rfl
 rcases Vfl L tm n i with h3 | h3;rw[hc,h3];exact .undef _
 ·rw[hc,h3];have hi:i<tm.length:=by have:=(VJ.1 h1).1;omega
  rw[VO,VG hi];exact h.2 i _ v (VG hi) h2
def Vdc (C:Cfg):Prop:=
 ∀(pb:Bool)(n:Nat)(E0:Env)(H0:Aa)(w0:World)(out:Res×Aa)(ops:Array Oper)(perm:zAb)(k:List Ab->Aa->Out)(kp:Ab->List Ab->Aa->Out)(Q:Exit->Act->World->Prop)(id:Nat)(E:Env)(tm:List Ab)(H:Aa)(a:Act)(w:World),
  KOk C n E0 H0 w0 out k (Q .normal)->Vmv C n E0 H0 w0 out kp Q->KH ops perm=true->DS C.G E->Cf E0 H0 w0 E H w->In n E H tm a w ->
  GJ C pb ops (λi j=>((Region.before ops).getD j 0).testBit i) k kp perm [] H H tm=some out->(Code.region id ops true).wp C.P Q a w
theorem Vau (hC:Nw C){ops:Array Oper}{k:List Ab->Aa->Out}{kp:Ab->List Ab->Aa->Out}{Q:Exit->Act->World->Prop}{id:Nat}{E:Env}{tm:List Ab}{H:Aa}{a:Act}{w:World}
  (hk:KOk C n E0 H0 w0 out k (Q .normal))(cV:Vmv C n E0 H0 w0 out kp Q)(hG:DS C.G E)(st:Cf E0 H0 w0 E H w)(hf:In n E H tm a w)(h:Pz C ops ops.toList k kp tm H=some out):(Code.region id ops false).wp C.P Q a w:=by
 refine wp_region ?_;have:=VcC (Q:=Q) hC hk cV ops.toList 0 E tm H a w (λj hj=>by simp) hG st hf h;rw[Yz];simpa using this
theorem Vaa {c:Code}{P:Program}{Q:Exit->Act->World->Prop}(J:Nat->Act->World->Prop)(h0:∀a w,¬J 0 a w)(step:∀n a w,J (n+1) a w->c.wp P (Exit.then (J n) Q) a w):∀(m:Nat)(a:Act)(w:World),J m a w->(Code.loop c).wp P Q a w:=by
 intro m a w hJ b k cs;have key:∀n a w,J n a w->∃e a' w',Q e a' w'/\Arrives P (lone (b.at a (.code c::.inLoop c::k)) cs w) b k cs e a' w':=by
  intro n
  induction n with
  |zero=>intro a w h;exact zYf h (h0 a w)
  |succ n ih=>
   intro a w h;obtain⟨e,a₁,w₁,hq,gK⟩:=step n a w h b (.inLoop c::k) cs;cases e with
   |normal=>obtain⟨e₂,a₂,w₂,Zf,tG⟩:=ih a₁ w₁ hq;exact⟨e₂,a₂,w₂,Zf,.of_steps (Steps.trans gK (.one step_inLoop)) tG⟩
   |exit id=>exact⟨_,a₁,w₁,hq,.pass (x:=.inLoop c) rfl (λ_ _=>.inl (by simp)) gK⟩
   |goto l=>exact⟨_,a₁,w₁,hq,.pass (x:=.inLoop c) rfl (λ_ _=>.inl (by simp)) gK⟩
   |ret=>exact⟨_,a₁,w₁,hq,.pass (x:=.inLoop c) rfl (λ_ _=>.inl (by simp)) gK⟩
   |panic ch=>exact⟨_,a₁,w₁,hq,.pass (x:=.inLoop c) rfl (λ_ _=>.inl (by simp)) gK⟩
   |outgrown=>exact⟨_,a₁,w₁,hq,.pass (x:=.inLoop c) rfl (λ_ _=>.inl (by simp)) gK⟩
 obtain⟨e,a',w',hq,gK⟩:=key m a w hJ;exact⟨e,a',w',hq,.of_steps (.one step_loop) gK⟩
theorem Qi {k:List Ab->Aa->Out}{K:Rt}{N:Act->World->Prop}(hN:∀E H tm a w,DS C.G E->Cf E0 H0 w0 E H w->In n E H tm a w->k tm H=some out->N a w):∀e a w,TX C n E0 H0 w0 out (VjP k K) e a w->Exit.then N (TX C n E0 H0 w0 out K) e a w:=by
 rintro e a w ⟨E,H,tm,x,hG,st,hf,hx,h⟩;cases x<;>cases e<;>first | exact hx.elim | skip
 exact hN E H tm a w hG st hf h;exact⟨E,H,tm,_,hG,st,hf,hx,h⟩;exact⟨E,H,tm,_,hG,st,hf,hx,h⟩;exact⟨E,H,tm,_,hG,st,hf,hx,h⟩
theorem VbP {E:Env}{H:Aa}{tm:List Ab}{a:Act}{w:World}(hf:In n E H tm a w)(L:zAb):In n E H (OV n L (IP L tm)) a w:=
 ⟨VkB hf.rel L n hf.len,by simp[OV],hf.defers,hf.sim⟩
theorem Ts (hC:Nw C)(hD:Vdc C):∀(c:Code)(ann:Ann)(K:Rt)(E:Env)(tm:List Ab)(H:Aa)(a:Act)(w:World),DS C.G E->Cf E0 H0 w0 E H w->In n E H tm a w ->
  evC C n c ann K tm H=some out->c.wp C.P (TX C n E0 H0 w0 out K) a w:=by
 intro c
 induction c with
 |skip=>intro ann K E tm H a w hG st hf h;exact wp_skip (.mk hG st hf (x:=.normal) trivial (by simpa only[evC]using h))
 |label l=>intro ann K E tm H a w hG st hf h;exact wp_label (.mk hG st hf (x:=.normal) trivial (by simpa only[evC]using h))
 |ret=>intro ann K E tm H a w hG st hf h;exact wp_ret (.mk hG st hf (x:=.ret) trivial (by simpa only[evC]using h))
 |exit id=>intro ann K E tm H a w hG st hf h;exact wp_exit (.mk hG st hf (x:=.exit id) rfl (by simpa only[evC]using h))
 |region id ops draw=>
  intro ann K E tm H a w hG st hf h;have hk:KOk C n E0 H0 w0 out (λtm H=>K .normal tm H) (TX C n E0 H0 w0 out K .normal):=λE tm H a w hG st hf h=>.mk hG st hf (x:=.normal) trivial h;have cV:Vmv C n E0 H0 w0 out (λv tm H=>K (.pan v) tm H) (TX C n E0 H0 w0 out K):=λE tm H a w x v hG st hf hv h=>.mk hG st hf (x:=.pan x) ⟨v,rfl,hv⟩ h;cases draw with
  |false=>exact Vau hC hk cV hG st hf (by simpa only[evC]using h)
  |true=>
   cases ann with
   |reg perm=>
    simp only[evC]at h;split at h
    rename_i hok;exact hD _ n E0 H0 w0 out ops perm _ _ _ id E tm H a w hk cV hok hG st hf h;cases h
   |regp perm=>
    simp only[evC]at h;split at h
    rename_i hok;exact hD _ n E0 H0 w0 out ops perm _ _ _ id E tm H a w hk cV hok hG st hf h;cases h
   |_=>simp[evC]at h
 |seq x y ihx ihy=>intro ann K E tm H a w hG st hf h;cases ann with|tw p q=>simp only[evC]at h;refine wp_seq (wp_mono (ihx p _ E tm H a w hG st hf h) (Qi λE H tm a w hG st hf h=>ihy q K E tm H a w hG st hf h))|join L p q=>simp only[evC,AL]at h;refine wp_seq (wp_mono (ihx p _ E tm H a w hG st hf h) (Qi λE H tm a w hG st hf h=>ihy q K E _ H a w hG st (VbP hf L) h))|_=>simp[evC]at h
 |cond c x y ihx ihy=>
  intro ann K E tm H a w hG st hf h;cases ann with
  |tw p q=>
   simp only[evC]at h;unfold Ai at h;split at h
   rename_i t ht;have hr:=N2 (C:=C) hG hf.rel c;rw[ht]at hr;have hc:=hr.bool_inv;cases t with|true=>exact wp_cond hc (ihx p K E tm H a w hG st hf (by simpa using h))|false=>exact wp_cond hc (ihy q K E tm H a w hG st hf (by simpa using h))
   ·rename_i ht;have hr:=N2 (C:=C) hG hf.rel c;rw[ht]at hr;obtain⟨t,hc⟩:∃t,a.eval c=.bool t:=(by generalize a.eval c=u at hr;cases hr;exact⟨_,rfl⟩);split at h
    rename_i heq;cases t with|true=>exact wp_cond hc (ihx p K E tm H a w hG st hf h)|false=>exact wp_cond hc (ihy q K E tm H a w hG st hf (by rw[<-heq];exact h))
    cases h
   cases h
  |_=>simp[evC]at h
 |block id x ih=>
  intro ann K E tm H a w hG st hf h;cases ann with
  |one p=>
   simp only[evC]at h;refine wp_block (wp_mono (ih p _ E tm H a w hG st hf h) ?_);rintro e a w ⟨E,H,tm,x,hG,st,hf,hx,h⟩;cases x<;>cases e<;>first | exact hx.elim | skip
   exact⟨E,H,tm,.normal,hG,st,hf,trivial,h⟩;rename_i i j;have hx':i=j:=hx;subst hx';simp only[VfR]at h;simp only[Exit.inBlock];split;rename_i hid;rw[zYc hid]at h;exact⟨E,H,tm,.normal,hG,st,hf,trivial,h⟩;rename_i hid;rw[zYb hid]at h;exact⟨E,H,tm,.exit i,hG,st,hf,rfl,h⟩;exact⟨E,H,tm,.ret,hG,st,hf,trivial,h⟩;exact⟨E,H,tm,_,hG,st,hf,hx,h⟩
  |_=>simp[evC]at h
 |loop x ih=>
  intro ann K E tm H a w hG st hf h;cases ann with
  |loop L p=>
   simp only[evC]at h
   let G:=λ(rec:List Ab->Aa->Out) (vs:List Ab) (H:Aa)=>evC C n x p (VjP (λtm H=>rec (IP L tm) H) K) (OV n L vs) H
   refine Vaa (λm a w=>∃E tm H,DS C.G E/\Cf E0 H0 w0 E H w/\In n E H tm a w/\An G m (IP L tm) H=some out) ?_ ?_ AI a w ⟨E,tm,H,hG,st,hf,h⟩;rintro a w ⟨E,tm,H,_,_,_,h⟩;simp[An]at h;rintro m a w ⟨E,tm,H,hG,st,hf,h⟩;simp only[An,G]at h;exact wp_mono (ih p _ E _ H a w hG st (VbP hf L) h) (Qi λE H tm a w hG st hf h=>⟨E,tm,H,hG,st,hf,h⟩)
  |_=>simp[evC]at h
 |_=>intro ann K E tm H a w hG st hf h;cases ann<;>simp[evC]at h

end
inductive RL (n:Nat):Ab->Prop
 |undef:RL n .undef
 |bool (b:Bool):RL n (.bool b)
 |ubool:RL n .ubool
 |int (k:IntKind) (i:Int):RL n (.int k i)
 |str (s:zAa):RL n (.str s)
 |nilp:RL n .nilp
 |ptr {id g off:Nat} (h:id<n):RL n (.ptr id g off)
 |cptr {cells:List Ab} {off:Nat} (h:∀(i:Nat)(c:Ab),cells[i]? = some c->RL n c):RL n (.cptr cells off)
 |sl {es:List (List Ab)} {tk:Tok} (ht:∀t,tk=.own t->t<n) (h:∀(i:Nat)(e:List Ab)(j:Nat)(c:Ab),es[i]? = some e->e[j]? = some c->RL n c):RL n (.sl es tk)
 |ms {id g off len cap sz:Nat} {ex:Bool} (h:id<n):RL n (.ms id g off len cap sz ex)
 |fn {f:FuncId} {caps:List Ab} (h:∀(i:Nat)(c:Ab),caps[i]? = some c->RL n c):RL n (.fn f caps)
 |bfn {f:FuncId} {first:List Ab} (h:∀(i:Nat)(c:Ab),first[i]? = some c->RL n c):RL n (.bfn f first)
 |nilfn:RL n .nilfn
 |mp {id:Nat} (h:id<n):RL n (.mp id)
 |nilmap:RL n .nilmap
 |iface {t:TypeId} {x:Ab} (h:RL n x):RL n (.iface t x)
 |nilif:RL n .nilif
 |agg {cs:List Ab} (h:∀(i:Nat)(c:Ab),cs[i]? = some c->RL n c):RL n (.agg cs)
 |tup {cs:List Ab} (h:∀(i:Nat)(c:Ab),cs[i]? = some c->RL n c):RL n (.tup cs)
def GT {α β:Type}{xs:List α}{vs:Array β}(h:xs.length=vs.size){i:Nat}{c:α}(hc:xs[i]? = some c):∃v,vs[i]? = some v:=by have:i<xs.length:=(VJ.1 hc).1;exact⟨vs[i]'(by omega),by simp[show i<vs.size from by omega]⟩
theorem A3.rl {E:Env}{n:Nat}(hd:∀id g b,E.φ id g=some b->id<n){x:Ab}{v:Value}(h:A3 E x v):RL n x:=by
 induction h with
 |undef v=>exact .undef
 |bool b=>exact .bool b
 |ubool b=>exact .ubool
 |int k i=>exact .int k i
 |str s=>exact .str s
 |nilp=>exact .nilp
 |ptr h=>exact .ptr (hd _ _ _ h)
 |cptr f hI hm hv ih=>exact .cptr ih
 |sl0 ht ha=>refine .sl (λt e=>?_) (λi e j c h=>by simp at h);subst e;obtain⟨b,h1,_⟩:=ht;exact hd _ _ _ h1
 |sl f hl hI hm hv hc ht ih=>refine .sl (λt e=>?_) ih;subst e;obtain⟨b,h1,_⟩:=ht;exact hd _ _ _ h1
 |ms h _ _ _ _=>exact .ms (hd _ _ _ h)
 |fn hn hv ih=>exact .fn λi c hc=>by obtain⟨v,aQ⟩:=GT hn hc;exact ih i c v hc aQ
 |bfn hn hv ih=>exact .bfn λi c hc=>by obtain⟨v,aQ⟩:=GT hn hc;exact ih i c v hc aQ
 |nilfn=>exact .nilfn
 |mp h=>exact .mp (hd _ _ _ h)
 |nilmap=>exact .nilmap
 |iface _ ih=>exact .iface ih
 |nilif=>exact .nilif
 |agg hn hv ih=>exact .agg λi c hc=>by obtain⟨v,aQ⟩:=GT hn hc;exact ih i c v hc aQ
 |tup hn hv ih=>exact .tup λi c hc=>by obtain⟨v,aQ⟩:=GT hn hc;exact ih i c v hc aQ
theorem A3.cut {E E':Env}{n:Nat}(hφ:∀id g b,id<n->E.φ id g=some b->E'.φ id g=some b)(hκ:∀id g b,id<n->E.κ id g=some b->E'.κ id g=some b)(hI:∀b o v,E.I b o=some v->E'.I b o=some v)
  {x:Ab}{v:Value}(h:A3 E x v):RL n x->A3 E' x v:=by
 induction h with
 |undef v=>exact λ_=>.undef v
 |bool b=>exact λ_=>.bool b
 |ubool b=>exact λ_=>.ubool b
 |int k i=>exact λ_=>.int k i
 |str s=>exact λ_=>.str s
 |nilp=>exact λ_=>.nilp
 |ptr h=>intro r;cases r with | ptr hl=>exact .ptr (hφ _ _ _ hl h)
 |cptr f hI' hm hv ih=>intro r;cases r with | cptr hl=>exact .cptr f (λi hi=>hI _ _ _ (hI' i hi)) hm (λi c hc=>ih i c hc (hl i c hc))
 |sl0 ht ha=>
  intro r;rename_i tk a cap;cases r with
  |sl hl _=>
   refine .sl0 ?_ ha;cases tk with
   |no=>trivial
   |ti=>exact ht
   |own t=>obtain⟨b,h1,h2,h3⟩:=ht;exact⟨b,hφ _ _ _ (hl t rfl) h1,hκ _ _ _ (hl t rfl) h2,h3⟩
 |sl f hl hI' hm hv hc ht ih=>
  intro r;rename_i es tk b o s cap;cases r with
  |sl hlt hr=>
   refine .sl f hl (λi j hi hj=>hI _ _ _ (hI' i j hi hj)) hm (λi e j c h1 h2=>ih i e j c h1 h2 (hr i e j c h1 h2)) hc ?_;cases tk with
   |no=>trivial
   |ti=>exact ht
   |own t=>obtain⟨b,h1,h2,h3⟩:=ht;exact⟨b,hφ _ _ _ (hlt t rfl) h1,hκ _ _ _ (hlt t rfl) h2,h3⟩
 |ms h hc hl he ho hk=>intro r;cases r with | ms eT=>exact .ms (hφ _ _ _ eT h) hc hl he ho (λa b=>⟨hκ _ _ _ eT (hk a b).1,(hk a b).2⟩)
 |fn hn hv ih=>intro r;cases r with | fn hl=>exact .fn hn λi c v h1 h2=>ih i c v h1 h2 (hl i c h1)
 |bfn hn hv ih=>intro r;cases r with | bfn hl=>exact .bfn hn λi c v h1 h2=>ih i c v h1 h2 (hl i c h1)
 |nilfn=>exact λ_=>.nilfn
 |mp h=>intro r;cases r with | mp hl=>exact .mp (hφ _ _ _ hl h)
 |nilmap=>exact λ_=>.nilmap
 |iface _ ih=>intro r;cases r with | iface hl=>exact .iface (ih hl)
 |nilif=>exact λ_=>.nilif
 |agg hn hv ih=>intro r;cases r with | agg hl=>exact .agg hn λi c v h1 h2=>ih i c v h1 h2 (hl i c h1)
 |tup hn hv ih=>intro r;cases r with | tup hl=>exact .tup hn λi c v h1 h2=>ih i c v h1 h2 (hl i c h1)
section
variable {C:Cfg}
open Classical in
def Env.cut (E:Env)(H:Aa)(w:World)(n:Nat):Env where
 φ:=λi g=>if i<n then E.φ i g else none
 κ:=λi g=>if i<n then E.κ i g else none
 I:=λb o=>match E.I b o with
  |some v=>some v
  |none=>if ∃id,n<=id/\loc E H id=some b then w.cell? ⟨b,o,none⟩else none
theorem Sim.cut {E0 E:Env}{H0 H:Aa}{w0 w:World}(hs0:Sim E0 H0 w0)(hs:Sim E H w)(st:Cf E0 H0 w0 E H w)(ht:H.take H0.length=H0):Sim (E.cut H w H0.length) H0 w/\Cf E0 H0 w0 (E.cut H w H0.length) H0 w:=by
 have bJ:∀i,i<H0.length->H[i]? = H0[i]? := λi hi=>by rw[<-ht,WG hi]
 have hI:∀b o v,E.I b o=some v->(E.cut H w H0.length).I b o=some v:=λb o v h=>by simp[Env.cut,h]
 have hφ:∀id g b,id<H0.length->E.φ id g=some b->(E.cut H w H0.length).φ id g=some b:=λid g b h1 h2=>by simp[Env.cut,h1,h2]
 have hκ:∀id g b,id<H0.length->E.κ id g=some b->(E.cut H w H0.length).κ id g=some b:=λid g b h1 h2=>by simp[Env.cut,h1,h2]
 have hφ':∀id g b,(E.cut H w H0.length).φ id g=some b->id<H0.length/\E.φ id g=some b:=λid g b h=>by
  simp only[Env.cut]at h;split at h
  rename_i h1;exact⟨h1,h⟩;cases h
 have hκ':∀id g b,(E.cut H w H0.length).κ id g=some b->id<H0.length/\E.κ id g=some b:=λid g b h=>by
  simp only[Env.cut]at h;split at h
  rename_i h1;exact⟨h1,h⟩;cases h
 have hle:E0.le (E.cut H w H0.length):=⟨λid g b h=>hφ id g b (hs0.dom _ _ _ h) (st.le.φ _ _ _ h),λid g b h=>hκ id g b (hs0.domk _ _ _ h) (st.le.κ _ _ _ h),λb o v h=>hI _ _ _ (st.le.I _ _ _ h)⟩;have hIkeep:∀i b,i<H0.length->loc E H i=some b->∀o,(E.cut H w H0.length).I b o=E.I b o:=by intro i b hi hl o;simp only[Env.cut];cases hx:E.I b o with|some v=>rfl|none=>simp only[];rw[zYb];rintro⟨id,h1,h2⟩;have:=hs.inj i id b hl h2;omega
 have locB':∀i B,i<H0.length->CE (E.cut H w H0.length) i B=CE E i B:=by intro i B hi;cases B<;>simp[CE,Env.cut,hi]
 have loc':∀i b,loc (E.cut H w H0.length) H0 i=some b->i<H0.length/\loc E H i=some b:=by intro i b hl;unfold loc at hl⊢;cases hH:H0[i]? with|none=>simp[hH]at hl|some B=>have hi:i<H0.length:=(VJ.1 hH).1;rw[hH]at hl;refine⟨hi,?_⟩;rw[bJ i hi,hH];simp only[zXa]at hl⊢;rw[<-locB' i B hi];exact hl
 constructor
 ·refine⟨λi B hB=>?_,λi g b h=>(hφ' i g b h).1,λi g b h=>(hκ' i g b h).1,λi B n hB hn g hg=>?_,λi i' b h1 h2=>hs.inj i i' b (loc' i b h1).2 (loc' i' b h2).2,λb o v hv=>?_,λb cs hf=>⟨(hs.fix b cs hf).1,(hs.fix b cs hf).2.1.imp λv hv=>hI _ _ _ hv,λi hi=>(hs.fix b cs hf).2.2 i (loc' i b hi).2⟩⟩
  ·have hi:i<H0.length:=(VJ.1 hB).1;have hB0:=hs0.blk i B hB;have hB1:=hs.blk i B (by rw[bJ i hi];exact hB);have cT:∀b,CE E i B=some b->loc E H i=some b:=λb hb=>(by unfold loc;rw[bJ i hi,hB];exact hb);cases B with
   |dead=>trivial
   |cel g cells=>obtain⟨b,cs,t,h1,h2,h3,h4⟩:=hB1;obtain⟨b0,cs0,t0,k1,k2,k3,k4⟩:=hB0;refine⟨b,cs,t,hφ _ _ _ hi h1,h2,⟨h3.1,λj c v hc hv=>?_⟩,λo=>by rw[hIkeep i b hi (cT b h1)];exact h4 o⟩;obtain⟨v0,_,hv0⟩:=k3.get hc;exact(h3.2 j c v hc hv).cut hφ hκ hI (hv0.rl hs0.dom)
   |typ t cells=>obtain⟨b,cs,h1,h2,h3,h4⟩:=hB1;obtain⟨b0,cs0,k1,k2,k3,k4⟩:=hB0;refine⟨b,cs,hφ _ _ _ hi h1,h2,⟨h3.1,λj c v hc hv=>?_⟩,λo=>by rw[hIkeep i b hi (cT b h1)];exact h4 o⟩;obtain⟨v0,_,hv0⟩:=k3.get hc;exact(h3.2 j c v hc hv).cut hφ hκ hI (hv0.rl hs0.dom)
   |tok n e sz=>obtain⟨b,cap,cs,h1,h2,h3,h4,h5,h6,h7⟩:=hB1;exact⟨b,cap,cs,hφ _ _ _ hi h1,hκ _ _ _ hi h2,h3,h4,h5,h6,λo ho=>by rw[hIkeep i b hi (cT b h1)];exact h7 o ho⟩
   |buf g cells e sz=>obtain⟨b,cap,cs,h1,h2,h3,h4,h5,h6,h7,h8⟩:=hB1;obtain⟨b0,cap0,cs0,k1,k2,k3,k4,k5,k6,k7,k8⟩:=hB0;refine⟨b,cap,cs,hφ _ _ _ hi h1,hκ _ _ _ hi h2,h3,h4,h5,h6,⟨h7.1,λj c v hc hv=>?_⟩,λo=>by rw[hIkeep i b hi (cT b h1)];exact h8 o⟩;obtain⟨v0,_,hv0⟩:=k7.get hc;exact(h7.2 j c v hc hv).cut hφ hκ hI (hv0.rl hs0.dom)
   |map es=>obtain⟨b,en,ck,h1,h2,h3,h4⟩:=hB1;obtain⟨b0,en0,ck0,k1,k2,k3,k4⟩:=hB0;refine⟨b,en,ck,hφ _ _ _ hi h1,h2,h3,λj k v hj=>?_⟩;obtain⟨e,q1,q2,q3⟩:=h4 j k v hj;obtain⟨e0,r1,r2,r3⟩:=k4 j k v hj;exact⟨e,q1,q2.cut hφ hκ hI (r2.rl hs0.dom),q3.cut hφ hκ hI (r3.rl hs0.dom)⟩
   |iter s pos=>obtain⟨b,h1,h2⟩:=hB1;exact⟨b,hφ _ _ _ hi h1,h2⟩
  have hi:i<H0.length:=(VJ.1 hB).1;obtain⟨h1,h2⟩:=hs.late i B n (by rw[bJ i hi];exact hB) hn g hg;exact⟨by simp[Env.cut,h1],by simp[Env.cut,h2]⟩
  ·simp only[Env.cut]at hv;cases hx:E.I b o with
   |some u=>rw[hx]at hv;simp only[VT]at hv;subst hv;exact hs.imm _ _ _ hx
   |none=>
    rw[hx]at hv;simp only[]at hv;split at hv
    exact hv;cases hv
 ·refine⟨hle,st.os,st.tape,st.output,st.size,st.frame,λb ⟨i,hi⟩=>st.own b ⟨i,(loc' i b hi).2⟩,λb o hb ho=>?_⟩;rw[<-st.imm b o hb ho];simp only[Env.cut];cases hx:E.I b o with
  |some v=>rfl
  |none=>simp only[];rw[zYb];rintro⟨id,h1,h2⟩;rcases st.own b ⟨id,h2⟩with h3 | h3;exact ho h3;omega
theorem Vc2 {E:Env}{n:Nat}{x:Ab}{v:Value}(h:A3 E x v):Cq x=true->RL n x:=by
 induction h with
 |undef v=>intro h;simp[Cq]at h
 |bool b=>exact λ_=>.bool b
 |ubool b=>intro h;simp[Cq]at h
 |int k i=>exact λ_=>.int k i
 |str s=>exact λ_=>.str s
 |nilp=>exact λ_=>.nilp
 |ptr h=>intro h;simp[Cq]at h
 |cptr f hI hm hv ih=>exact λ_=>.cptr λi c hc=>ih i c hc (hm i c hc)
 |sl0 ht ha=>rename_i tk a cap;intro h;exact .sl (λt e=>by subst e;simp[Cq]at h) (λi e j c h=>by simp at h)
 |sl f hl hI hm hv hc ht ih=>rename_i es tk b o s cap;intro h;exact .sl (λt e=>by subst e;simp[Cq]at h) (λi e j c h1 h2=>ih i e j c h1 h2 (hm i e j c h1 h2))
 |ms _ _ _ _ _=>intro h;simp[Cq]at h
 |fn _ _ _=>intro h;simp[Cq]at h
 |bfn _ _ _=>intro h;simp[Cq]at h
 |nilfn=>exact λ_=>.nilfn
 |mp _=>intro h;simp[Cq]at h
 |nilmap=>exact λ_=>.nilmap
 |iface _ _=>intro h;simp[Cq]at h
 |nilif=>exact λ_=>.nilif
 |agg _ _ _=>intro h;simp[Cq]at h
 |tup _ _ _=>intro h;simp[Cq]at h
theorem Vmp {p:Ab->Bool}{l:List Ab}(h:l.all p=true){c:Ab}(hc:c∈l):p c=true:=Wf.1 h c hc
theorem VjT {E:Env}{H:Aa}{w:World}{n:Nat}(hs:Sim E H w):∀d,(∀x x' v,frz H n d x=some x'->A3 E x v->A3 (E.cut H w n) x' v)/\(∀xs xs' vs,Ei H n d xs=some xs'->AB E xs vs->AB (E.cut H w n) xs' vs):=by
 have hI:∀b o v,E.I b o=some v->(E.cut H w n).I b o=some v:=λb o v h=>by simp[Env.cut,h]
 have hφ:∀id g b,id<n->E.φ id g=some b->(E.cut H w n).φ id g=some b:=λid g b h1 h2=>by simp[Env.cut,h1,h2]
 have hκ:∀id g b,id<n->E.κ id g=some b->(E.cut H w n).κ id g=some b:=λid g b h1 h2=>by simp[Env.cut,h1,h2]
 intro d
 induction d with
 |zero=>exact⟨λx x' v h=>by simp[frz]at h,λx x' v h=>by simp[Ei]at h⟩
 |succ d ih=>
  obtain⟨ih1,ih2⟩:=ih;constructor
  ·intro x x' v h hx;have plain:RL n x->x'=x->A3 (E.cut H w n) x' v:=λh1 h2=>(by rw[h2];exact hx.cut hφ hκ hI h1);cases x with
   |undef=>simp[frz]at h
   |ptr id g off=>
    simp only[frz]at h;split at h
    rename_i hid;injection h with h;exact plain (.ptr hid) h.symm;cases h
   |mp id=>
    simp only[frz]at h;split at h
    rename_i hid;injection h with h;exact plain (.mp hid) h.symm;cases h
   |ms id g off len cap sz ex=>
    simp only[frz]at h;split at h
    rename_i hid;injection h with h;exact plain (.ms hid) h.symm
    ·rename_i hid;cases hg:AD H id g with
     |none=>simp[hg]at h
     |some cs=>
      simp only[hg,zXa]at h;split at h
      ·rename_i hle;cases hf:Ei H n d ((cs.drop off).take (len*sz))with
       |none=>simp[hf]at h
       |some cs'=>
        simp only[hf,zXa]at h;split at h
        ·rename_i iD;injection h with h;subst h;obtain⟨⟨B0,hH,hlB,_⟩,b,vs,t,q1,q2,q3,Zh,q4⟩:=GH hs hg;have hrel:=ih2 _ _ (((vs.toList.take cs.length).drop off).take (len*sz)) hf ((q3.drop off).take (len*sz));have eT:cs'.length=len*sz:=(by rw[hrel.1,<-((q3.drop off).take (len*sz)).1,Wc,Wd];omega);obtain⟨k1,k2⟩:=La sz len cs' eT;have k3:=Q0 sz len cs';cases hx with
         |ms p1 p2 p3 p4 p5 p6=>
          rename_i off' cap' b';rw[q1]at p1;cases p1;have jR:L6 (E.cut H w n) (if (ex&&decide (cap=len))=true then .ti else .no) (some ⟨b,off',none⟩) len cap':=by
           split;rename_i hc;simp only[VV,zXe]at hc;show cap'=len;rw[p4 hc.1];exact hc.2
           ·trivial
          have dX:loc E H id=some b:=(by unfold loc;rw[hH];simp only[zXa];rw[hlB];exact q1);have hIc:∀o u,w.cell? ⟨b,o,none⟩=some u->(E.cut H w n).I b o=some u:=(by intro o u hu;simp only[Env.cut,q4 o];rw[zYc ⟨id,by omega,dX⟩];exact hu);have gG:(if ex=true/\cap=len then Tok.ti else Tok.no)=(if (ex&&decide (cap=len))=true then .ti else .no):=(by simp);rw[gG];by_cases hz:len=0;subst hz;have:GL sz 0 cs'=[]:=rfl;rw[this];exact .sl0 jR (λh=>by cases h)
          ·have key:∀(i j:Nat)(e:List Ab)(c:Ab),(GL sz len cs')[i]? = some e->e[j]? = some c->∃u,(E.cut H w n).I b (off'+(i*sz+j))=some u/\A3 (E.cut H w n) c u/\Cq c=true:=(by intro i j e c h1 h2;have h3:=Fu _ i j e c k2 h1 h2;rw[k1]at h3;obtain⟨u,h4,h5⟩:=hrel.get h3;refine⟨u,hIc _ _ ?_,h5,Vmp iD (Wo h3)⟩;rw[Bo q2,p5 (by omega)];have:=JQ h4;rw[W5]at this;have:=IE this;simpa using this);have:=A3.sl (E:=E.cut H w n) (es:=GL sz len cs') (b:=b) (o:=off') (s:=sz) (cap:=cap') (λi j=>((E.cut H w n).I b (off'+(i*sz+j))).getD undef) (λi e h=>k2 e (Wo h)) (λi j hi hj=>?_)
            (λi e j c h1 h2=>(key i j e c h1 h2).elim λ_ h=>h.2.2) (λi e j c h1 h2=>?_) (by rw[k3];omega) (by rw[k3];exact jR)
           rw[k3]at this;exact this;have lH:=k2 _ (VY hi);obtain⟨u,h1,_⟩:=key i j _ _ (VG hi) (VG (show j<((GL sz len cs')[i]).length by omega));rw[h1];rfl
           obtain⟨u,h3,h4,_⟩:=key i j e c h1 h2;rw[h3];exact h4
        cases h
      cases h
   |sl es tk=>
    cases tk with
    |own t=>
     simp only[frz]at h;have iD:Cq (.sl es .no)=true:=rfl;have bT:A3 E (.sl es .no) v:=(by cases hx with|sl0 ht ha=>exact .sl0 trivial ha|sl f hl hI' hm hv hc ht=>exact .sl f hl hI' hm hv hc trivial);have lM:RL n (.sl es .no):=Vc2 bT iD;split at h
     ·rename_i ht;injection h with h;refine plain ?_ h.symm;cases lM with
      |sl _ hr=>exact .sl (λt' e=>by cases e;exact ht) hr
     injection h with h;subst h;exact bT.cut hφ hκ hI lM
    |no=>simp only[frz,VT]at h;exact plain (Vc2 hx rfl) h.symm
    |ti=>simp only[frz,VT]at h;exact plain (Vc2 hx rfl) h.symm
   |fn f caps=>
    simp only[frz]at h;cases hf:Ei H n d caps with
    |none=>simp[hf]at h
    |some caps'=>
     simp only[hf,zXb,VT]at h;subst h;cases hx with
     |fn hn hv=>rename_i vs;have:=ih2 _ _ vs.toList hf ⟨by simpa using hn,λi c v h1 h2=>hv i c v h1 (by simpa using h2)⟩;exact .fn (by simpa using this.1) λi c v h1 h2=>this.2 i c v h1 (by simpa using h2)
   |bfn f first=>simp only[frz]at h;cases h
   |ubool=>simp only[frz]at h;cases h
   |iface t y=>
    simp only[frz]at h;cases hf:frz H n d y with
    |none=>simp[hf]at h
    |some y'=>simp only[hf,zXb,VT]at h;subst h;obtain⟨u,rfl,hu⟩:=hx.iface_inv;exact .iface (ih1 _ _ _ hf hu)
   |agg cs=>
    simp only[frz]at h;cases hf:Ei H n d cs with
    |none=>simp[hf]at h
    |some cs'=>simp only[hf,zXb,VT]at h;subst h;obtain⟨vs,rfl,hv⟩:=hx.agg_cells;exact .agg_of (ih2 _ _ _ hf hv)
   |tup cs=>
    simp only[frz]at h;cases hf:Ei H n d cs with
    |none=>simp[hf]at h
    |some cs'=>simp only[hf,zXb,VT]at h;subst h;obtain⟨vs,rfl,hv⟩:=hx.tup_cells;exact .tup_of (ih2 _ _ _ hf hv)
   |_=>simp only[frz,VT]at h;exact plain (Vc2 hx rfl) h.symm
  ·intro xs
   induction xs with
   |nil=>intro xs' vs h hv;simp only[Ei,VT]at h;subst h;have:vs=[]:=We (by rw[<-hv.1];rfl);subst this;exact .nil _
   |cons x xs ihx=>
    intro xs' vs h hv;cases vs with
    |nil=>have:=hv.1;simp at this
    |cons v vs=>
     simp only[Ei]at h;cases hf:frz H n d x with
     |none=>simp[hf]at h
     |some x'=>simp only[hf,zXa]at h;cases hr:Ei H n (d+1) xs with|none=>simp[hr]at h|some r'=>simp only[hr,zXb,VT]at h;subst h;exact .cons (ih1 _ _ _ hf hv.head) (ihx _ _ hr hv.tail)

end
section
variable {C:Cfg}{E:Env}{H:Aa}{w:World}
theorem VeF {n:Nat}{tm:List Ab}{a:Act}(hf:In n E H tm a w){rv:ResultVar}{x:Ab}(h:Iv C tm H rv=some x):∃v,((match rv with
   |.tmp t=>pure (a.tmps.getD t undef)
   |.cell ad t=>do loadVar t (<-asAddr (a.tmps.getD ad undef))):Sem Value).run C.P w=.ok v w/\A3 E x v:=by
 cases rv with
 |tmp t=>simp only[Iv,VT]at h;subst h;exact⟨_,rfl,Kg hf.rel t⟩
 |cell ad t=>
  simp only[Iv]at h;split at h
  cases h
  ·rename_i hk;obtain⟨⟨d,hd⟩,_⟩:=CG (P:=C.P) (t:=t) (by simpa using hk);have hr:=Kg hf.rel ad;obtain⟨v,h1,h2⟩:=VfH hd hf.sim hr h;have hp:∃p,a.tmps.getD ad undef=.pointer (some p):=by
    unfold Ad at h;split at h
    rename_i id g o he;rw[he]at hr;obtain⟨b,_,h3⟩:=hr.ptr_inv;exact⟨_,h3⟩;rename_i cs o he;rw[he]at hr;obtain⟨b,o',h3⟩:=hr.cptr_inv;exact⟨_,h3⟩;cases h
   obtain⟨p,hp⟩:=hp;refine⟨v,?_,h2⟩;rw[hp]at h1;show(do loadVar t (<-asAddr (a.tmps.getD ad undef)):Sem Value).run C.P w=_;rw[hp];simpa[Instr.loadAt,Instr.sureAddr,asAddr]using h1
theorem Mx {n:Nat}{tm:List Ab}{a:Act}(hf:In n E H tm a w):∀(rs:List ResultVar)(xs:List Ab),Fk C tm H rs=some xs ->
  ∃vs:List Value,(rs.mapM (fun | .tmp t=>pure (a.tmps.getD t undef) | .cell ad t=>do loadVar t (<-asAddr (a.tmps.getD ad undef)):ResultVar->Sem Value)).run C.P w=.ok vs w/\AB E xs vs
 |[],xs,h=>by simp only[Fk,VT]at h;subst h;exact⟨[],by simp,.nil E⟩
 |r::rs,xs,h=>by
  simp only[Fk]at h;cases h1:Iv C tm H r with
  |none=>simp[h1]at h
  |some x=>
   simp only[h1,zXa]at h;cases h2:Fk C tm H rs with
   |none=>simp[h2]at h
   |some xs'=>simp only[h2,zXb,VT]at h;subst h;obtain⟨v,g1,g2⟩:=VeF hf h1;obtain⟨vs,g3,g4⟩:=Mx hf rs xs' h2;refine⟨v::vs,?_,.cons g2 g4⟩;rw[List.mapM_cons];simp only[zXf,g1,zXg,g3,Sem.run_pure]
theorem Sw {n:Nat}{fn:Func}{tm:List Ab}{a:Act}(hf:In n E H tm a w){x:Ab}(h:FS C fn.results.toList tm H=some x):∃v,(results fn a.tmps).run C.P w=.ok v w/\A3 E x v:=by
 have aC:∀vs:List Value,(fn.results.toList.mapM (fun | .tmp t=>pure (a.tmps.getD t undef) | .cell ad t=>do loadVar t (<-asAddr (a.tmps.getD ad undef)):ResultVar->Sem Value)).run C.P w=.ok vs w ->
   (results fn a.tmps).run C.P w=.ok (if h:vs.toArray.size=1 then vs.toArray[0]else .tuple vs.toArray) w:=by
  intro vs pJ;unfold results;rw[Array.mapM_eq_mapM_toList];simp only[map_eq_pure_bind,zXf,Sem.run_pure];erw[pJ]
  rfl
 unfold FS at h;split at h
 ·rename_i r hr;obtain⟨vs,g1,g2⟩:=Mx (C:=C) hf [r] [x] (by simp[Fk,h]);rw[<-hr]at g1;refine⟨_,aC vs g1,?_⟩;have hl:vs.length=1:=by rw[<-g2.1];rfl
  obtain⟨v,rfl⟩:=X2.1 hl;simpa using g2.head
 ·rename_i hne;cases hx:Fk C tm H fn.results.toList with
  |none=>simp[hx]at h
  |some xs=>
   simp only[hx,zXb,VT]at h;subst h;obtain⟨vs,g1,g2⟩:=Mx hf _ _ hx;refine⟨_,aC vs g1,?_⟩;have hl:¬(vs.toArray.size=1):=by
    have h1:xs.length=fn.results.toList.length:=by
     clear g1 g2 aC hne;generalize fn.results.toList=rs at hx
     induction rs generalizing xs with
     |nil=>simp only[Fk,VT]at hx;subst hx;rfl
     |cons r rs ih=>
      simp only[Fk]at hx;cases h1:Iv C tm H r with
      |none=>simp[h1]at hx
      |some y=>simp only[h1,zXa]at hx;cases h2:Fk C tm H rs with|none=>simp[h2]at hx|some ys=>simp only[h2,zXb,VT]at hx;subst hx;simp[ih _ h2]
    intro hs;have h2:fn.results.toList.length=1:=(by rw[<-h1,g2.1];simpa using hs);obtain⟨r,hr⟩:=X2.1 h2;exact hne r hr
   rw[dif_neg hl];exact .tup_of (by simpa using g2)
theorem RH {E0:Env}{H0:Aa}{w0:World}{m:Fd}(hm:m=.keep\/m=.pure)(hs0:Sim E0 H0 w0)(st:Cf E0 H0 w0 E H w)(hs:Sim E H w){r:Res}{e:Ending}(hr:Jk E r e){out:Res×Aa}(h:fin m H0 r H=some out):∃E',Jk E' out.1 e/\Sim E' out.2 w/\Cf E0 H0 w0 E' out.2 w:=by
 cases m with
 |keepN=>rcases hm with hm | hm<;>cases hm
 |pureN=>rcases hm with hm | hm<;>cases hm
 |keep=>simp only[fin,VT]at h;subst h;exact⟨E,hr,hs,st⟩
 |pure=>
  simp only[fin,chk]at h;split at h
  ·rename_i ht;obtain⟨k1,k2⟩:=hs0.cut hs st ht;cases r with
   |ret v=>
    simp only[]at h;cases hf:frz H H0.length 8 v with
    |none=>simp[hf]at h
    |some v'=>simp only[hf,zXb,VT]at h;subst h;refine⟨_,?_,k1,k2⟩;cases e with|returned u=>exact(VjT hs 8).1 v v' u hf hr|panicked c=>exact hr.elim|outgrown=>exact hr.elim
   |pan v=>
    simp only[]at h;cases hf:frz H H0.length 8 v with
    |none=>simp[hf]at h
    |some v'=>
     simp only[hf,zXb,VT]at h;subst h;refine⟨_,?_,k1,k2⟩;cases e with
     |returned u=>exact hr.elim
     |panicked c=>obtain⟨u,h1,h2⟩:=hr;exact⟨u,h1,(VjT hs 8).1 v v' u hf h2⟩
     |outgrown=>exact hr.elim
  cases h
theorem VjW {x:Ab}{v:Value}(h:A3 E x v):A3 E (fgt x) v:=by
 cases h with
 |sl0 ht ha=>exact .sl0 trivial ha
 |sl f hl hI hm hv hc ht=>exact .sl f hl hI hm hv hc trivial
 |_=>first | (constructor<;>assumption) | constructor
theorem Vgx {x:Ab}{v:Value}(h:A3 E x v):A3 E (E9 x) v:=by
 unfold E9;split;rename_i cs;obtain⟨vs,rfl,h1⟩:=h.agg_cells;refine .agg_of ⟨by simp[h1.1],λi c u h2 h3=>?_⟩;rw[Wq]at h2;cases hc:cs[i]? with|none=>simp[hc]at h2|some d=>simp[hc]at h2;subst h2;exact VjW (h1.2 i d u hc h3)
 exact VjW h
theorem Vgq {x:Ab}{v:Value}(h:A3 E x v):A3 E (forget x) v:=by
 unfold forget;split;rename_i cs;obtain⟨vs,rfl,h1⟩:=h.tup_cells;refine .tup_of ⟨by simp[h1.1],λi c u h2 h3=>?_⟩;rw[Wq]at h2;cases hc:cs[i]? with|none=>simp[hc]at h2|some d=>simp[hc]at h2;subst h2;exact Vgx (h1.2 i d u hc h3)
 exact Vgx h
theorem Oq {r:Res}{e:Ending}(h:Jk E r e):Jk E r.forget e:=by
 cases r with
 |ret v=>cases e with|returned u=>exact Vgq (v:=u) h|panicked c=>exact h.elim|outgrown=>exact h.elim
 |pan v=>exact h
theorem Vgw (H0:Aa)(r:Res)(H:Aa):fin .keepN H0 r H=(fin .keep H0 r H).map λo=>(o.1.forget,o.2):=rfl
theorem Vgu (H0:Aa)(r:Res)(H:Aa):fin .pureN H0 r H=(fin .pure H0 r H).map λo=>(o.1.forget,o.2):=by
 simp only[fin,chk];split;cases r<;>simp[XZ,Function.comp_def,Res.forget]
 ·rfl
theorem Vgv {E0:Env}{H0:Aa}{w0:World}{m:Fd}(hs0:Sim E0 H0 w0)(st:Cf E0 H0 w0 E H w)(hs:Sim E H w){r:Res}{e:Ending}(hr:Jk E r e){out:Res×Aa}(h:fin m H0 r H=some out):∃E',Jk E' out.1 e/\Sim E' out.2 w/\Cf E0 H0 w0 E' out.2 w:=by
 cases m with
 |keep=>exact RH (.inl rfl) hs0 st hs hr h
 |pure=>exact RH (.inr rfl) hs0 st hs hr h
 |keepN=>
  rw[Vgw]at h;cases hx:fin .keep H0 r H with
  |none=>simp[hx]at h
  |some o=>simp only[hx,zXb,VT]at h;subst h;obtain⟨E',h1,h2,h3⟩:=RH (.inl rfl) hs0 st hs hr hx;exact⟨E',Oq h1,h2,h3⟩
 |pureN=>
  rw[Vgu]at h;cases hx:fin .pure H0 r H with
  |none=>simp[hx]at h
  |some o=>simp only[hx,zXb,VT]at h;subst h;obtain⟨E',h1,h2,h3⟩:=RH (.inr rfl) hs0 st hs hr hx;exact⟨E',Oq h1,h2,h3⟩
theorem VpG (hC:Nw C)(hD:Vdc C){f:FuncId}{fn:Func}{body:Code}{ann:Ann}{m:Fd}(hf:C.P.funcs[f]? = some fn)(hb:fn.body=some body)(hc:∀(vs:Array Value)(w:World),(callFunc f vs).run C.P w=.ok (.enter f vs) w)
  {args:List Ab}{H:Aa}{res:Res}{H':Aa}(h:fnA C fn body ann m args H=some (res,H'))(hn:args.length<=fn.ntmps):Vhm C.P C.G f args H res H':=by
 intro E w vs hG hs hv;refine .inl ⟨hc vs w,calls_of_wp hf hb ?_⟩;unfold fnA at h;have hlen:args.length=vs.size:=by simpa using hv.1
 have hfr:In fn.ntmps E H (args++List.replicate (fn.ntmps-args.length) .undef) { tmps:=vs++Array.replicate (fn.ntmps-vs.size) undef,defers:=[]} w:=by
  refine⟨?_,by simp;omega,rfl,hs⟩;rw[Xz];refine hv.append ⟨by simp[hlen],λi c v h1 h2=>?_⟩;rw[XF]at h1;split at h1
  simp at h1;subst h1;exact .undef _;cases h1
 refine wp_mono (Ts hC hD body ann _ E _ H _ w hG (.refl E H w) hfr h) ?_;rintro e a w' ⟨E',H1,tm,x,hG',st,jM,hx,hk⟩;have ret:∀y,FS C fn.results.toList tm H1=some y->fin m H (.ret y) H1=some (res,H')->a.defers=[]/\∃v,(results fn a.tmps).run C.P w'=.ok v w'/\∃E2,Jk E2 res (.returned v)/\Sim E2 H' w'/\Cf E H w E2 H' w':=by intro y hy hfin;obtain⟨v,h1,h2⟩:=Sw jM hy;obtain⟨E2,g1,g2,g3⟩:=Vgv (r:=.ret y) (e:=.returned v) hs st jM.sim h2 hfin;exact⟨jM.defers,v,h1,E2,g1,g2,g3⟩
 cases x<;>cases e<;>first | exact hx.elim | skip
 simp only[]at hk;cases hy:FS C fn.results.toList tm H1 with|none=>simp[hy]at hk|some y=>simp only[hy,zXa]at hk;exact ret y hy hk
 cases hk;simp only[]at hk;cases hy:FS C fn.results.toList tm H1 with|none=>simp[hy]at hk|some y=>simp only[hy,zXa]at hk;exact ret y hy hk
 simp only[]at hk;obtain⟨v,rfl,aQ⟩:=hx;obtain⟨E2,g1,g2,g3⟩:=Vgv (r:=.pan _) (e:=.panicked [{ v,recovered:=false}]) hs st jM.sim ⟨v,rfl,aQ⟩ hk;exact⟨jM.defers,E2,g1,g2,g3⟩

end
theorem Td (acc:Array Nat)(i:Nat):∀(es:List Edge)(s:Nat),(es.foldl (λs e=>if Region.binds .any e then s ||| 2^e.on ||| acc.getD e.on 0 else s) s).testBit i=true ->
  s.testBit i=true\/∃e∈es,Region.binds .any e=true/\(i=e.on\/(acc.getD e.on 0).testBit i=true)
 |[],s,h=>.inl h
 |e::es,s,h=>by
  simp only[List.foldl_cons]at h;rcases Td acc i es _ h with h1 | ⟨e',h1,h2⟩
  ·split at h1
   rename_i hb;rw[Nat.testBit_or,Nat.testBit_or,WQ,WQ]at h1;rcases h1 with (h1 | h1) | h1;exact .inl h1;refine .inr ⟨e,by simp,hb,.inl ?_⟩;rw[Nat.testBit_two_pow]at h1;exact(of_decide_eq_true h1).symm;exact .inr ⟨e,by simp,hb,.inr h1⟩;exact .inl h1
  exact .inr ⟨e',by simp[h1],h2⟩
def Vb0:∀(l:List Oper),let acc:=l.foldl (λ(acc:Array Nat) o=>acc.push (o.after.foldl (λs e=>if Region.binds .any e then s ||| 2^e.on ||| acc.getD e.on 0 else s) 0)) #[]
  acc.size=l.length/\∀j i,(acc.getD j 0).testBit i=true->∃o,l[j]? = some o/\∃e∈o.after,Region.binds .any e=true/\(i=e.on\/(e.on<j/\(acc.getD e.on 0).testBit i=true)):=by
 suffices oB:∀(l:List Oper),let acc:=l.reverse.foldl (λ(acc:Array Nat) o=>acc.push (o.after.foldl (λs e=>if Region.binds .any e then s ||| 2^e.on ||| acc.getD e.on 0 else s) 0)) #[]
   acc.size=l.reverse.length/\∀j i,(acc.getD j 0).testBit i=true->∃o,l.reverse[j]? = some o/\∃e∈o.after,Region.binds .any e=true/\(i=e.on\/(e.on<j/\(acc.getD e.on 0).testBit i=true))by
  intro l;have:=oB l.reverse
  rwa [List.reverse_reverse]at this
 intro l
 induction l with
 |nil=>exact⟨rfl,λj i h=>by simp at h⟩
 |cons o l' ih=>
  rw[Yj];generalize l'.reverse=l at ih⊢;simp only[X6,List.foldl_cons,List.foldl_nil]at ih⊢;generalize l.foldl (λ(acc:Array Nat) o=>acc.push (o.after.foldl (λs e=>if Region.binds .any e then s ||| 2^e.on ||| acc.getD e.on 0 else s) 0)) #[]=acc at ih⊢;obtain⟨ih1,ih2⟩:=ih;have bJ:∀(v j:Nat),j<acc.size->(acc.push v).getD j 0=acc.getD j 0:=λv j hj=>by rw[Wb,Wb,Xe,zYb (by omega)]
  refine⟨by simp[ih1],λj i h=>?_⟩;rcases Nat.lt_trichotomy j acc.size with hj | hj | hj;rw[bJ _ j hj]at h;obtain⟨o',h1,e,h2,h3,h4⟩:=ih2 j i h;refine⟨o',by rw[VN (by omega)];exact h1,e,h2,h3,?_⟩;rcases h4 with h4 | ⟨h4,h5⟩;exact .inl h4;exact .inr ⟨h4,by rw[bJ _ e.on (by omega)];exact h5⟩
  ·subst hj;refine⟨o,by rw[ih1,Wt (VM _)];simp,?_⟩;rw[Wb,Xe,zYc rfl,Option.getD_some,<-Y6]at h;rcases Td acc i _ 0 h with h1 | ⟨e,h1,h2,h3⟩;simp at h1;refine⟨e,by simpa using h1,h2,?_⟩;rcases h3 with h3 | h3;exact .inl h3;have hlt:e.on<acc.size:=(by rcases W4 e.on acc.size with hlt | hge;exact hlt;rw[Wb,Yt hge]at h3;simp at h3);exact .inr ⟨hlt,by rw[bJ _ _ hlt];exact h3⟩
  rw[Wb,Xe,zYb (by omega),Yt (by omega)]at h;simp at h
def Vbz {ops:Array Oper}{i j:Nat}(h:((Region.before ops).getD j 0).testBit i=true):∃o,ops[j]? = some o/\∃e∈o.after,Region.binds .any e=true/\(i=e.on\/(e.on<j/\((Region.before ops).getD e.on 0).testBit i=true)):=by
 unfold Region.before at h⊢;rw[<-Y6]at h⊢;obtain⟨o,h1,h2⟩:=(Vb0 ops.toList).2 j i h;exact⟨o,by simpa using h1,h2⟩
def J7 {ops:Array Oper}{S:Nat->Prop}(hS:∀j o,S j->ops[j]? = some o->∀e∈o.after,Region.binds .any e=true->S e.on):∀(j i:Nat),(∀o,ops[j]? = some o->∀e∈o.after,Region.binds .any e=true->S e.on)->((Region.before ops).getD j 0).testBit i=true->S i:=by
 intro j
 induction j using Nat.strongRecOn with
 |_ j ih=>intro i hj h;obtain⟨o,h1,e,h2,h3,h4⟩:=Vbz h;have hs:=hj o h1 e h2 h3;rcases h4 with rfl | ⟨h4,h5⟩;exact hs;exact ih e.on h4 i (λo' dP e' dU hb'=>hS e.on o' hs dP e' dU hb') h5

section
variable {C:Cfg}{H:Aa}{r r':Operand->Ab}
theorem KG {place:Nat->Option (Nat×Nat)}:∀(ps:List (Nat×Operand)),(∀p∈ps,r p.2=r' p.2)->JC place r ps=JC place r' ps
 |[],_=>rfl
 |p::ps,h=>by simp only[JC];rw[h p (by simp),KG ps λq hq=>h q (by simp[hq])]
theorem EO {α β:Type}{f g:α->β}{l:List α}(h:∀x∈l,f x=g x):l.map f=l.map g:=Y2 h
theorem QI {op:Op}(h:∀x∈op.operands,r x=r' x):BR C op r H=BR C op r' H:=by
 cases op with
 |build t parts=>
  have hp:∀p∈parts.toList,r p.2=r' p.2:=λp hp=>h p.2 (by simp[Op.operands];exact⟨p.1,by simpa using hp⟩);simp only[BR,SF];split;rename_i fs _;cases hx:fs.toList.mapM (λf=>(C.P.info? f.type).map λi=>(f.offset,i.size))with|none=>rfl|some places=>simp only[zXa];rw[KG _ hp]
  rename_i n e _;cases hx:C.P.info? e with|none=>rfl|some i=>simp only[zXa];rw[KG _ hp]
  ·rfl
 |buildSlice t len parts=>have hp:∀p∈parts.toList,r p.2=r' p.2:=λp hp=>h p.2 (by simp[Op.operands];exact⟨p.1,by simpa using hp⟩);simp only[BR];rw[EO (f:=λp:Nat×Operand=>r p.2) hp]
 |makeFunc fn first caps=>
  have hp:∀p∈caps.toList,r p=r' p:=λp hp=>h p (by simp[Op.operands];exact .inr (by simpa using hp));have hq:∀p∈first.toList,r p=r' p:=λp hp=>h p (by simp[Op.operands];exact .inl (by simpa using hp))
  simp only[BR];rw[EO hp,EO hq]
 |slice t x lo hi mx=>
  have hx:=h x (by simp[Op.operands]);have hl:lo.map r=lo.map r':=by cases lo with | none=>rfl | some y=>simp[h y (by simp[Op.operands])]
  have hh:hi.map r=hi.map r':=by cases hi with | none=>rfl | some y=>simp[h y (by simp[Op.operands])]
  have hm:mx.map r=mx.map r':=by cases mx with | none=>rfl | some y=>simp[h y (by simp[Op.operands])]
  simp only[BR,hx,hl,hh,hm]
 |call c=>
  have hp:∀p∈c.args.toList,r p=r' p:=λp hp=>h p (by simp[Op.operands,Call.operands];exact .inr (by simpa using hp));simp only[BR];generalize c.args.toList=args at hp;split<;>first | rfl | skip
  rw[hp _ (by simp)];rw[hp _ (by simp)];rename_i tl x xs hq;rw[hp x (by simp),EO (l:=xs) (f:=r) (g:=r') λy hy=>hp y (by simp[hy])];rename_i tl x xs hq;rw[hp x (by simp),EO (l:=xs) (f:=r) (g:=r') λy hy=>hp y (by simp[hy])]
 |_=>simp[Op.operands]at h;simp[BR,h]
theorem Va9 {op:Op}(h:∀x∈op.operands,r x=r' x):CT C op r H=CT C op r' H:=by
 cases op with
 |makeMap t x=>
  cases x with
  |none=>rfl
  |some y=>have hy:=h y (by simp[Op.operands]);cases hu:C.P.underlying t with|none=>simp[CT,hu]|some d=>cases d<;>simp[CT,hu,hy]
 |_=>simp[Op.operands]at h;simp[CT,h]
theorem QJ {op:Op}(h:∀x∈op.operands,r x=r' x):FP C op r H=FP C op r' H:=by
 cases op with
 |call c=>
  have hp:∀p∈c.args.toList,r p=r' p:=λp hp=>h p (by simp[Op.operands,Call.operands];exact .inr (by simpa using hp));simp only[FP];split
  ·generalize c.args.toList=args at hp;split<;>first | rfl | skip
   rename_i x y t ty _;rw[hp x (by simp),hp y (by simp)]
  ·generalize c.args.toList=args at hp;split<;>first | rfl | skip
   rename_i x t _;rw[hp x (by simp)]
  rename_i f hf;rw[h f (by simp[Op.operands,Call.operands,hf]),EO hp]
  ·rfl
 |_=>simp[Op.operands]at h;simp[FP,h]
theorem Va8 {op:Op}(h:J9 op=false)(H':Aa):BR C op r H=BR C op r H':=by cases op<;>first | rfl | simp[J9]at h
theorem Om {id g:Nat}{cs:List Ab}(p:Aa)(h:AD H id g=some cs):AD (H++p) id g=some cs:=by unfold AD at h⊢;cases hx:H[id]? with|none=>simp[hx]at h|some B=>rw[VN (VJ.1 hx).1,hx];rw[hx]at h;exact h
theorem Vd5 {a:Bool}{sz:Nat}{x z:Ab}(p:Aa)(h:Ad a sz x H=some z):Ad a sz x (H++p)=some z:=by
 cases x<;>first | exact h | skip
 rename_i id g o;simp only[Ad]at h⊢;cases hg:AD H id g with|none=>simp[hg]at h|some cs=>rw[Om p hg];rw[hg]at h;exact h
theorem T9 {x z:Ab}(p:Aa)(h:CR x H=some z):CR x (H++p)=some z:=by
 cases x<;>first | exact h | skip
 rename_i id g off len cap sz ex;simp only[CR]at h⊢;split at h
 rename_i hz;rw[zYc hz];cases hg:AD H id g with|none=>simp[hg]at h|some cs=>rw[Om p hg];rw[hg]at h;exact h
 cases h
theorem Vak {a:Bool}{n:Nat}{zz:Option Ab}{ok:Bool}{m k z:Ab}(p:Aa)(h:FA a n zz ok m k H=some z):FA a n zz ok m k (H++p)=some z:=by
 unfold FA at h⊢;cases zz with
 |none=>simp at h
 |some z0=>
  simp only[zXa]at h⊢;cases hc:Eg a n k with
  |none=>simp[hc]at h
  |some kc=>
   simp only[hc,zXa]at h⊢;cases m<;>first | exact h | skip
   rename_i id;simp only[]at h⊢;cases hH:H[id]? with|none=>simp[hH]at h|some B=>rw[VN (VJ.1 hH).1,hH];rw[hH]at h;exact h
theorem Vdi {op:Op}{z:Ab}(p:Aa)(h:BR C op r H=some z):BR C op r (H++p)=some z:=by
 cases op with
 |load t x=>simp only[BR]at h⊢;split;rename_i hk;rw[zYc hk]at h;cases h;rename_i hk;rw[zYb hk]at h;exact Vd5 p h
 |convert src dst x=>
  simp only[BR,Vjg]at h⊢;split at h<;>first | exact h | skip
  split at h
  rename_i hk;rw[zYc hk];exact T9 p h;cases h
 |lookup t m k ok=>
  simp only[BR]at h⊢;split at h
  ·split at h
   rename_i kt e hu hk;rw[zYc hk];exact Vak p h;cases h
  cases h
 |_=>exact h

end
structure Tr where
 T:Nat->List Ab
 hE:Nat->Aa
 cur:Nat->Aa
 hist:Nat->List (Nat×Aa)
 V:Nat->Ab
 B:Nat->Bool
section
variable {C:Cfg}{pb:Bool}{ops:Array Oper}{bf:Nat->Nat->Bool}{out:Res×Aa}{k:List Ab->Aa->Out}{kp:Ab->List Ab->Aa->Out}
def TV (C:Cfg)(ops:Array Oper)(bf:Nat->Nat->Bool)(perm:zAb)(t:Tr)(j:Nat):Prop:=
 ∃i o,perm[j]? = some i/\ops[i]? = some o/\Io ops o (t.T j)=some (t.B j)/\t.T (j+1)=GW (t.T j) o.dst (t.V j) /\
  ((cls o.op=.r/\gR (t.B j) (BR C o.op (rho C.G (t.T j)) (t.hE j))=some (t.V j)/\(J9 o.op=true->Vkz (λe=>bf e i) (λh=>gR (t.B j) (BR C o.op (rho C.G (t.T j)) h)) (t.V j) (t.hist j)) /\
    t.hE (j+1)=t.hE j/\t.cur (j+1)=t.cur j/\t.hist (j+1)=t.hist j) \/
   (cls o.op=.a/\gA (t.B j) (t.cur j) (CT C o.op (rho C.G (t.T j)) (t.cur j))=some (t.V j,t.cur (j+1))/\t.hE (j+1)=t.hE j/\t.hist (j+1)=t.hist j) \/
   (cls o.op=.e/\gE (t.B j) (t.cur j) (FP C o.op (rho C.G (t.T j)) (t.cur j))=some (.ret (t.V j),t.cur (j+1))/\t.hE (j+1)=t.cur (j+1)/\t.hist (j+1)=(i,t.hE j)::t.hist j))
def PK (C:Cfg)(ops:Array Oper)(bf:Nat->Nat->Bool)(perm:zAb)(kp:Ab->List Ab->Aa->Out)(out:Res×Aa)(t:Tr)(m:Nat):Prop:=
 m+1<=perm.length/\∃i o x H',perm[m]? = some i/\ops[i]? = some o/\cls o.op=.e/\Io ops o (t.T m)=some true/\FP C o.op (rho C.G (t.T m)) (t.cur m)=some (.pan x,H')/\kp x ((t.T m).map λ_=>.undef) H'=some out/\∀j y,m<j->perm[j]? = some y->bf i y=true
def Tr.cons (T0:List Ab)(hE0 cur0:Aa)(aS:List (Nat×Aa))(v:Ab)(b:Bool)(t:Tr):Tr where
 T:=λj=>match j with | 0=>T0 | j+1=>t.T j
 hE:=λj=>match j with | 0=>hE0 | j+1=>t.hE j
 cur:=λj=>match j with | 0=>cur0 | j+1=>t.cur j
 hist:=λj=>match j with | 0=>aS | j+1=>t.hist j
 V:=λj=>match j with | 0=>v | j+1=>t.V j
 B:=λj=>match j with | 0=>b | j+1=>t.B j
theorem OO:∀(perm:zAb)(aS:List (Nat×Aa)) (hE0 cur0:Aa) (tm0:List Ab),GJ C pb ops bf k kp perm aS hE0 cur0 tm0=some out ->
  ∃(t:Tr)(m:Nat),t.T 0=tm0/\t.hE 0=hE0/\t.cur 0=cur0/\t.hist 0=aS/\m<=perm.length/\(∀j,j<m->TV C ops bf perm t j) /\
   ((m=perm.length/\k (t.T m) (t.cur m)=some out)\/PK C ops bf perm kp out t m)
 |[],aS,hE0,cur0,tm0,h=>by simp only[GJ]at h;exact⟨⟨λ_=>tm0,λ_=>hE0,λ_=>cur0,λ_=>aS,λ_=>.undef,λ_=>true⟩,0,rfl,rfl,rfl,rfl,VM _,λj hj=>by omega,.inl ⟨rfl,h⟩⟩
 |i::rest,aS,hE0,cur0,tm0,h=>by
  simp only[GJ]at h;cases ho:ops[i]? with
  |none=>simp[ho]at h
  |some o=>
   simp only[ho]at h;cases hw:Io ops o tm0 with
   |none=>simp[hw]at h
   |some b=>
    simp only[hw,zXa]at h;have shift:∀(t:Tr)(m:Nat)(v:Ab),t.T 0=GW tm0 o.dst v->m<=rest.length->(∀j,j<m->TV C ops bf rest t j)->((m=rest.length/\k (t.T m) (t.cur m)=some out)\/PK C ops bf rest kp out t m) ->
      TV C ops bf (i::rest) (Tr.cons tm0 hE0 cur0 aS v b t) 0 ->
      ∃(t:Tr)(m:Nat),t.T 0=tm0/\t.hE 0=hE0/\t.cur 0=cur0/\t.hist 0=aS/\m<=(i::rest).length/\(∀j,j<m->TV C ops bf (i::rest) t j) /\
       ((m=(i::rest).length/\k (t.T m) (t.cur m)=some out)\/PK C ops bf (i::rest) kp out t m):=by
     intro t m v h0 hm hst hfin sL;refine⟨Tr.cons tm0 hE0 cur0 aS v b t,m+1,rfl,rfl,rfl,rfl,by simp;omega,λj hj=>?_,?_⟩;cases j with|zero=>exact sL|succ j=>exact hst j (by omega)
     rcases hfin with ⟨h1,h2⟩ | ⟨h1,i2,o2,x2,H2,p1,p2,p3,p4,p5,p6,p7⟩;exact .inl ⟨by simp[h1],h2⟩;refine .inr ⟨by simp;omega,i2,o2,x2,H2,p1,p2,p3,p4,p5,p6,λj y hj hy=>?_⟩;cases j with|zero=>omega|succ j=>exact p7 j y (by omega) (by simpa using hy)
    cases hc:cls o.op with
    |r=>
     simp only[hc]at h;cases hg:gR b (BR C o.op (rho C.G tm0) hE0)with
     |none=>simp[hg]at h
     |some v=>
      simp only[hg,zXa]at h;have key:(J9 o.op=true->Vkz (λe=>bf e i) (λh=>gR b (BR C o.op (rho C.G tm0) h)) v aS)/\GJ C pb ops bf k kp rest aS hE0 cur0 (GW tm0 o.dst v)=some out:=by
       split at h
       ·rename_i hr;unfold chk at h;split at h
        rename_i hs;exact⟨λ_=>hs,h⟩;cases h
       rename_i hr;exact⟨λh=>zYf h hr,h⟩
      obtain⟨t,m,q1,q2,q3,q4,q5,q6,q7⟩:=OO rest _ _ _ _ key.2;exact shift t m v q1 q5 q6 q7 ⟨i,o,rfl,ho,hw,q1,.inl ⟨hc,hg,key.1,q2,q3,q4⟩⟩
    |a=>
     simp only[hc,Al]at h;cases hg:gA b cur0 (CT C o.op (rho C.G tm0) cur0)with
     |none=>simp[hg]at h
     |some p=>obtain⟨v,H1⟩:=p;simp only[hg,zXa]at h;obtain⟨t,m,q1,q2,q3,q4,q5,q6,q7⟩:=OO rest _ _ _ _ h;exact shift t m v q1 q5 q6 q7 ⟨i,o,rfl,ho,hw,q1,.inr (.inl ⟨hc,by rw[show(Tr.cons tm0 hE0 cur0 aS v b t).cur (0+1)=H1 from q3];exact hg,q2,q4⟩)⟩
    |e=>
     simp only[hc,Im]at h;cases hg:gE b cur0 (FP C o.op (rho C.G tm0) cur0)with
     |none=>simp[hg]at h
     |some p=>
      obtain⟨res,H1⟩:=p;simp only[hg,zXa]at h;cases res with
      |ret v=>obtain⟨t,m,q1,q2,q3,q4,q5,q6,q7⟩:=OO rest _ _ _ _ h;exact shift t m v q1 q5 q6 q7 ⟨i,o,rfl,ho,hw,q1,.inr (.inr ⟨hc,by rw[show(Tr.cons tm0 hE0 cur0 aS v b t).cur (0+1)=H1 from q3];exact hg,q2.trans q3.symm,q4⟩)⟩
      |pan x=>
       simp only[]at h;cases hra:rest.all (λj=>pb&&bf i j)with
       |true=>rw[hra]at h;simp only[]at h;have hb:b=true:=(by cases b with|true=>rfl|false=>simp[gE]at hg);subst hb;refine⟨⟨λ_=>tm0,λ_=>hE0,λ_=>cur0,λ_=>aS,λ_=>.undef,λ_=>true⟩,0,rfl,rfl,rfl,rfl,Wi _,λj hj=>by omega,.inr ⟨by simp,i,o,x,H1,rfl,ho,hc,hw,by simpa[gE]using hg,h,λj y hj hy=>?_⟩⟩;cases j with|zero=>omega|succ j=>exact(Bool.and_eq_true_iff.1 (Wf.1 hra y (Wo (by simpa using hy)))).2
       |false=>rw[hra]at h;cases h
theorem QK {pre:zAb}:∀(rest done:zAb),KH.okFrom ops bf pre done rest=true ->
  (∀(a:Nat)(j:Nat),rest[a]? = some j->∃oj,ops[j]? = some oj/\(∀e∈oj.after,Region.binds .any e=true->e.on∈done\/∃b,b<a/\rest[b]? = some e.on) /\
   ∀i,(i∈done\/∃b,b<a/\rest[b]? = some i)->∃oi,ops[i]? = some oi/\i≠j/\(bf i j=true\/i∈pre\/(isE oj=false/\oi.apart ops oj=true/\oj.apart ops oi=true)) /\
    (isA oi=true->isE oj=false->(∀d,oi.dst=some d->d ∉ oj.looksAt ops)\/∀i',(i'∈done\/∃b,b<a/\rest[b]? = some i')->bf i' j=true\/i'∈pre))
 |[],done,_=>λa j h=>by simp at h
 |x::rest,done,h=>by
  simp only[KH.okFrom,VV]at h;obtain⟨h1,h2⟩:=h;have ih:=QK rest (x::done) h2;intro a j uF;cases a with
  |zero=>
   simp at uF;subst uF;cases ho:ops[x]? with
   |none=>simp[ho]at h1
   |some oj=>
    simp only[ho,VV]at h1;obtain⟨h3,h4⟩:=h1;refine⟨oj,rfl,λe he hb=>?_,λi hi=>?_⟩;have:=YC.1 h3 e he;simp only[hb,Wp,zXo]at this;exact .inl (by simpa using this)
    ·have aE:i∈done:=hi.resolve_right (λ⟨b,hb,_⟩=>by omega);have:=Wf.1 h4 i aE;cases yH:ops[i]? with
     |none=>simp[yH]at this
     |some oi=>simp only[yH,VV,bne_iff_ne,WQ,WC]at this;obtain⟨⟨q1,q2⟩,q3⟩:=this;refine⟨oi,rfl,q1,?_,λha he=>?_⟩;rcases q2 with (q2 | q2) | ⟨⟨q2,q4⟩,q5⟩;exact .inl q2;exact .inr (.inl (by simpa using q2));exact .inr (.inr ⟨q2,q4,q5⟩);rcases q3 with ((q3 | q3) | q3) | q3;rw[ha]at q3;cases q3;rw[he]at q3;cases q3;refine .inr λi' aE=>?_;have:=Wf.1 q3 i' (aE.resolve_right (λ⟨b,hb,_⟩=>by omega));simpa using this;exact .inl λd hd=>by simpa[hd]using q3
  |succ a=>
   simp at uF;obtain⟨oj,q1,q2,q3⟩:=ih a j uF;have conv:∀i,(i∈done\/∃b,b<a+1/\(x::rest)[b]? = some i)->(i∈x::done\/∃b,b<a/\rest[b]? = some i):=by intro i hi;rcases hi with hi | ⟨b,gT,gS⟩;exact .inl (by simp[hi]);cases b with|zero=>simp at gS;exact .inl (by simp[gS])|succ b=>exact .inr ⟨b,by omega,by simpa using gS⟩
   refine⟨oj,q1,λe he hb=>?_,λi hi=>?_⟩;rcases q2 e he hb with q | ⟨b,gT,gS⟩;rcases WF.1 q with q | q;exact .inr ⟨0,by omega,by simp[q]⟩;exact .inl q;exact .inr ⟨b+1,by omega,by simpa using gS⟩
   ·obtain⟨oi,p1,p2,p3,p4⟩:=q3 i (conv i hi);exact⟨oi,p1,p2,p3,λha he=>(p4 ha he).imp id λh i' aE=>h i' (conv i' aE)⟩

end
section
variable {C:Cfg}{ops:Array Oper}
def P6 (ops:Array Oper)(i:Nat):Option Tmp:=(ops[i]?).bind (·.dst)
def Do (ops:Array Oper)(S:Nat->Bool)(cv:Nat->Value)(l:zAb)(a:Act):Act:=l.foldl (λa i=>if S i then a.put (P6 ops i) (cv i)else a) a
theorem D4 (S:Nat->Bool)(cv:Nat->Value)(x:Nat)(l:zAb)(a:Act):Do ops S cv (x::l) a=Do ops S cv l (if S x then a.put (P6 ops x) (cv x)else a):=rfl
theorem Pv (S:Nat->Bool)(cv:Nat->Value)(l l':zAb)(a:Act):Do ops S cv (l++l') a=Do ops S cv l' (Do ops S cv l a):=by simp[Do,X6]
theorem O9 (S:Nat->Bool)(cv:Nat->Value)(d:Option Tmp)(v:Value):∀(l:zAb)(a:Act),(∀j∈l,S j=true->∀x,d=some x->P6 ops j≠some x)->Do ops S cv l (a.put d v)=(Do ops S cv l a).put d v
 |[],a,_=>rfl
 |x::l,a,h=>by rw[D4,D4];by_cases hx:S x=true;simp only[hx,zYd];rw[Act.put_comm a v (cv x) (h x (by simp) hx)];exact O9 S cv d v l _ λj hj=>h j (by simp[hj]);simp only[hx,VL,zYe];exact O9 S cv d v l _ λj hj=>h j (by simp[hj])
theorem O8 {S S':Nat->Bool}{cv cv':Nat->Value}:∀(l:zAb)(a:Act),(∀j∈l,S' j=S j/\(S j=true->cv' j=cv j))->Do ops S' cv' l a=Do ops S cv l a
 |[],a,_=>rfl
 |x::l,a,h=>by rw[D4,D4];obtain⟨h1,h2⟩:=h x (by simp);rw[h1];by_cases hx:S x=true;simp only[hx,zYd];rw[h2 hx];exact O8 l _ λj hj=>h j (by simp[hj]);simp only[hx,VL,zYe];exact O8 l _ λj hj=>h j (by simp[hj])
theorem Qo {S:Nat->Bool}{cv:Nat->Value}{i:Nat}{v:Value}(hi:S i=false):∀(l:zAb)(a:Act)(p:Nat),l[p]? = some i->(∀(q r:Nat)(x:Nat),l[q]? = some x->l[r]? = some x->q=r) ->
  (∀(q:Nat)(j:Nat),p<q->l[q]? = some j->S j=true->∀x,P6 ops i=some x->P6 ops j≠some x) ->
  Do ops (λj=>if j=i then true else S j) (λj=>if j=i then v else cv j) l a=(Do ops S cv l a).put (P6 ops i) v
 |[],a,p,h,_,_=>by simp at h
 |x::l,a,p,h,hu,hc=>by
  rw[D4,D4];cases p with
  |zero=>simp at h;subst h;simp only[zYd,hi,VL,zYe];have rH:∀j∈l,j≠x:=λj hj e=>(by subst e;obtain⟨q,hq,wJ⟩:=Ws hj;have:=hu (q+1) 0 j (by simp[VG hq,wJ]) (by simp);omega);rw[O8 (S:=S) (cv:=cv) l _ λj hj=>⟨by simp[rH j hj],λ_=>by simp[rH j hj]⟩];exact O9 S cv _ v l a λj hj hs=>by obtain⟨q,hq,wJ⟩:=Ws hj;exact hc (q+1) j (by omega) (by simp[VG hq,wJ]) hs
  |succ p=>simp at h;have hne:x≠i:=λe=>(by have:=hu (p+1) 0 i (by simpa using h) (by simp[e]);omega);simp only[zYb hne];exact Qo hi l _ p h (λq r y h1 h2=>by have:=hu (q+1) (r+1) y (by simpa using h1) (by simpa using h2);omega) (λq j hq hj=>hc (q+1) j (by omega) (by simpa using hj))
theorem VbW (a:Act)(d:Option Tmp)(v:Value):(a.put d v).tmps.size=a.tmps.size:=by cases d<;>simp[Act.put]
theorem KQ (S:Nat->Bool)(cv:Nat->Value):∀(l:zAb)(a:Act),(Do ops S cv l a).tmps.size=a.tmps.size
 |[],a=>rfl
 |x::l,a=>by rw[D4,KQ S cv l];split<;>simp[VbW]
theorem KR (S:Nat->Bool)(cv:Nat->Value):∀(l:zAb)(a:Act),(Do ops S cv l a).defers=a.defers
 |[],a=>rfl
 |x::l,a=>by rw[D4,KR S cv l];split<;>simp[O3]
theorem Ve (a:Act)(d:Option Tmp)(v:Value)(t:Nat)(h:d≠some t):(a.put d v).tmps.getD t undef=a.tmps.getD t undef:=by cases d with|none=>rfl|some d=>have:d≠t:=λe=>h (by rw[e]);simp[Act.put,Wb,WM this]
theorem Tk (S:Nat->Bool)(cv:Nat->Value)(t:Nat):∀(l:zAb)(a:Act),(∀j∈l,S j=true->P6 ops j≠some t)->(Do ops S cv l a).tmps.getD t undef=a.tmps.getD t undef
 |[],a,_=>rfl
 |x::l,a,h=>by
  rw[D4,Tk S cv t l _ λj hj=>h j (by simp[hj])];split;rename_i hx;exact Ve a _ _ t (h x (by simp) hx)
  ·rfl
theorem Vdv (tm:List Ab)(d:Option Tmp)(v:Ab)(t:Nat)(h:d≠some t):(GW tm d v).getD t .undef=tm.getD t .undef:=by cases d with|none=>rfl|some d=>have:d≠t:=λe=>h (by rw[e]);simp[GW,VO,VH this]
theorem Vno {E:Env}{tm:List Ab}{a:Act}{x:Ab}{v:Value}(hl:tm.length=a.tmps.size)(hv:A3 E x v)(t:Nat):A3 E ((GW tm (some t) x).getD t .undef) ((a.put (some t) v).tmps.getD t undef):=by simp only[GW,Act.put,VO,Wb];by_cases ht:t<tm.length;rw[VX ht,WR (by omega)];exact hv;rw[zYa (by simp;omega)];exact .undef _

structure Ml (C:Cfg)(ops:Array Oper)(perm:zAb)(t:Tr)(M:Nat):Prop where
 len:perm.length=ops.size
 mem:∀i,i<ops.size->i∈perm
 le:M<=perm.length
 spec:∀(a:Nat)(j:Nat),perm[a]? = some j->∃oj,ops[j]? = some oj/\(∀e∈oj.after,Region.binds .any e=true->∃b,b<a/\perm[b]? = some e.on) /\
   ∀(b i:Nat),b<a->perm[b]? = some i->∃oi,ops[i]? = some oi/\i≠j/\(((Region.before ops).getD j 0).testBit i=true\/i∈perm.take (LJ ops perm)\/(isE oj=false/\oi.apart ops oj=true/\oj.apart ops oi=true))/\(isA oi=true->isE oj=false->(∀d,oi.dst=some d->d ∉ oj.looksAt ops)\/∀(b' i':Nat),b'<a->perm[b']? = some i'->((Region.before ops).getD j 0).testBit i'=true\/i'∈perm.take (LJ ops perm))
 step:∀j,j<M->TV C ops (λi j=>((Region.before ops).getD j 0).testBit i) perm t j
section
variable {perm:zAb}{t:Tr}{M:Nat}
theorem Ml.inj (R:Ml C ops perm t M){a b i:Nat}(h1:perm[a]? = some i)(h2:perm[b]? = some i):a=b:=by rcases Nat.lt_trichotomy a b with h | h | h;obtain⟨_,_,_,h3⟩:=R.spec b i h2;obtain⟨_,_,h4,_⟩:=h3 a i h h1;exact zYf rfl h4;exact h;obtain⟨_,_,_,h3⟩:=R.spec a i h1;obtain⟨_,_,h4,_⟩:=h3 b i h h2;exact zYf rfl h4
theorem Ml.pos (R:Ml C ops perm t M){i:Nat}(hi:i<ops.size):∃j:Nat,perm[j]? = some i:=by obtain⟨j,hj,he⟩:=Ws (R.mem i hi);exact⟨j,by rw[VG hj,he]⟩
theorem Vb5 {x y:Oper}(h:x.apart ops y=true){d:Tmp}(hd:x.dst=some d):d ∉ y.looksAt ops/\y.dst≠some d:=by unfold Oper.apart at h;rw[hd]at h;simp only[VV,WC,bne_iff_ne]at h;exact⟨by simpa using h.1.1,h.1.2⟩
theorem Kj {i:Nat}{o:Oper}(h:ops[i]? = some o):P6 ops i=o.dst:=by simp[P6,h]
theorem Ml.tlen (R:Ml C ops perm t M){n:Nat}(h0:(t.T 0).length=n):∀j,j<=M->(t.T j).length=n
 |0,_=>h0
 |j+1,hj=>by obtain⟨i,o,_,_,_,h,_⟩:=R.step j (by omega);rw[h];have:=R.tlen h0 j (by omega);cases o.dst<;>simp[GW,this]
theorem Ml.read (R:Ml C ops perm t M){E:Env}{a0:Act}{S:Nat->Bool}{cv:Nat->Value}(h0:AB E (t.T 0) a0.tmps.toList)(x:Nat):∀K,K<=M->(∀(j i:Nat)(o:Oper),j<K->perm[j]? = some i->ops[i]? = some o->o.dst=some x->S i=true/\A3 E (t.V j) (cv i)) ->
   A3 E ((t.T K).getD x .undef) ((Do ops S cv (perm.take K) a0).tmps.getD x undef)
 |0,_,_=>by simpa[Do]using Kg h0 x
 |K+1,hK,h=>by
  obtain⟨i,o,h1,h2,_,h3,_⟩:=R.step K (by omega);have ih:=R.read h0 x K (by omega) λj i o hj=>h j i o (by omega);have bD:perm.take (K+1)=perm.take K++[i]:=by rw[List.take_add_one,h1];rfl
  rw[bD,Pv,h3,D4];have hl:(t.T K).length=(Do ops S cv (perm.take K) a0).tmps.size:=by rw[KQ,R.tlen rfl K (by omega)];simpa using h0.1
  rw[Kj h2];by_cases hd:o.dst=some x;obtain⟨h4,h5⟩:=h K i o (by omega) h1 h2 hd;simp only[h4,zYd,hd];exact Vno hl h5 x;rw[Vdv _ _ _ _ hd];split;show A3 E _ ((Do ops S cv [] _).tmps.getD x undef);simp only[Do,List.foldl_nil];rw[Ve _ _ _ _ hd];exact ih;exact ih

end

end
section
variable {C:Cfg}{ops:Array Oper}{perm:zAb}{t:Tr}{M:Nat}
def Rf (E0:Env)(w0:World)(t:Tr)(E:Env)(H:Aa)(w:World)(j b:Nat)(v:Value):Prop:=
 ∃(blk:Blk)(f:Nat->Ab),w0.heap.size<=b/\PL E H w b blk/\t.cur (j+1)=t.cur j++[blk]/\t.V j=f (t.cur j).length/\∀(E':Env)(n:Nat),E'.φ n 0=some b->A3 E' (f n) v
structure Inv (C:Cfg)(ops:Array Oper)(perm:zAb)(t:Tr)(M:Nat)(E0:Env)(H0:Aa)(w0:World)(c:Nat)(S:Nat->Bool)(cv:Nat->Value)(bo:Nat->Nat)(E:Env)(w:World):Prop where
 le:c<=M
 pre:∀(j i:Nat),j<c->perm[j]? = some i->S i=true
 noE:∀(j i:Nat)(o:Oper),c<=j->perm[j]? = some i->ops[i]? = some o->S i=true->isE o=false/\j<M
 closed:∀(j:Nat)(o:Oper),S j=true->ops[j]? = some o->∀e∈o.after,Region.binds .any e=true->S e.on=true
 glob:DS C.G E
 step:Cf E0 H0 w0 E (t.cur c) w
 sim:Sim E (t.cur c) w
 vals:∀(j i:Nat)(o:Oper),perm[j]? = some i->ops[i]? = some o->S i=true->(j<c\/isA o=false\/t.B j=false)->A3 E (t.V j) (cv i)
 early:∀(j i:Nat)(o:Oper),c<=j->perm[j]? = some i->ops[i]? = some o->S i=true->isA o=true->t.B j=true->Rf E0 w0 t E (t.cur c) w j (bo i) (cv i)
 inj:∀(j i j' i':Nat)(o o':Oper),c<=j->c<=j'->perm[j]? = some i->perm[j']? = some i'->ops[i]? = some o->ops[i']? = some o'->S i=true->S i'=true->isA o=true->isA o'=true->t.B j=true->t.B j'=true->bo i=bo i'->i=i'
theorem PL.persist {E E':Env}{H H':Aa}{w w':World}{b:Nat}{blk:Blk}(h:PL E H w b blk)(st:Cf E H w E' H' w'):PL E' H' w' b blk:=by refine⟨WO h.lt st.size,λho=>?_,λo=>by rw[st.imm b o h.lt h.free];exact h.imm o,?_⟩;rcases st.own b ho with h1 | h1;exact h.free h1;have:=h.lt;omega;rcases h.rel with ⟨cells,cs,tt,h1,h2,h3⟩ | ⟨h1,ck,h2⟩ | ⟨cells,cs,tt,h1,h2,h3⟩;exact .inl ⟨cells,cs,tt,h1,by rw[st.frame b h.lt h.free];exact h2,h3.mono st.le⟩;exact .inr (.inl ⟨h1,ck,by rw[st.frame b h.lt h.free];exact h2⟩);exact .inr (.inr ⟨cells,cs,tt,h1,by rw[st.frame b h.lt h.free];exact h2,h3.mono st.le⟩)
theorem Rf.persist {E0:Env}{w0:World}{E E':Env}{H H':Aa}{w w':World}{j b:Nat}{v:Value}(h:Rf E0 w0 t E H w j b v)(st:Cf E H w E' H' w'):Rf E0 w0 t E' H' w' j b v:=by obtain⟨blk,f,h1,h2,h3⟩:=h;exact⟨blk,f,h1,h2.persist st,h3⟩
theorem Vdy {E:Env}{H:Aa}{w:World}{b:Nat}{blk:Blk}(hs:Sim E H w)(h:PL E H w b blk){x:Nat}(ho:Nu (E.setφ H.length 0 b) (H++[blk]) x):x=b\/Nu E H x:=by
 have st:Cf E H {w with heap:=w.heap} E H w:=.refl E H w;obtain⟨i,hi⟩:=ho;unfold loc at hi;rw[W7]at hi;split at hi
 ·rename_i hlt;right;refine⟨i,?_⟩;unfold loc;rw[VG hlt]at hi⊢;simp only[zXa]at hi⊢;have bT:∀g y,E.φ H.length g=some y->False:=λg x hx=>by have:=hs.dom _ _ _ hx;omega
  cases hB:H[i]<;>rw[hB]at hi<;>simp only[CE,Env.setφ]at hi⊢ <;> first | exact hi | (rw[zYb (by omega)]at hi;exact hi)
 ·rename_i hlt;cases hx:i-H.length with
  |succ n=>simp[hx]at hi
  |zero=>have:i=H.length:=(by omega);subst this;rw[hx]at hi;simp only[zXh,zXa]at hi;left;rcases h.rel with ⟨cells,cs,tt,h1,_⟩ | ⟨h1,_⟩ | ⟨cells,cs,tt,h1,_⟩ <;> subst h1<;>simp[CE,Env.setφ]at hi<;>exact hi.symm
theorem Rf.take {E0:Env}{w0:World}{E:Env}{H:Aa}{w:World}{j b b':Nat}{v:Value}{blk:Blk}(hs:Sim E H w)(hb:PL E H w b blk)(h:Rf E0 w0 t E H w j b' v)(hne:b'≠b)(hle:E.le (E.setφ H.length 0 b)):Rf E0 w0 t (E.setφ H.length 0 b) (H++[blk]) w j b' v:=by
 obtain⟨blk',f,h1,h2,h3⟩:=h;refine⟨blk',f,h1,⟨h2.lt,λho=>?_,h2.imm,?_⟩,h3⟩;rcases Vdy hs hb ho with h4 | h4;exact hne h4;exact h2.free h4;rcases h2.rel with ⟨cells,cs,tt,q1,q2,q3⟩ | q | ⟨cells,cs,tt,q1,q2,q3⟩;exact .inl ⟨cells,cs,tt,q1,q2,q3.mono hle⟩;exact .inr (.inl q);exact .inr (.inr ⟨cells,cs,tt,q1,q2,q3.mono hle⟩)
section
variable {E0:Env}{H0:Aa}{w0:World}{S:Nat->Bool}{cv:Nat->Value}{bo:Nat->Nat}
theorem I4 {o:Oper}:isE o=true↔cls o.op=.e:=by unfold isE;split<;>simp_all
theorem Pp {o:Oper}:isA o=true↔cls o.op=.a:=by unfold isA;split<;>simp_all
theorem Inv.absorb (R:Ml C ops perm t M){c:Nat}{E:Env}{w:World}(I:Inv C ops perm t M E0 H0 w0 c S cv bo E w)(hc:c<M){i:Nat}(hi:perm[c]? = some i)(hS:S i=true):∃E',Inv C ops perm t M E0 H0 w0 (c+1) S cv bo E' w/\E.le E':=by
 obtain⟨i',o,h1,h2,_,_,hst⟩:=R.step c hc;rw[hi]at h1;cases h1;have mF:=(I.noE c i o (VM _) hi h2 hS).1;have pre':∀(j x:Nat),j<c+1->perm[j]? = some x->S x=true:=λj x hj hx=>by rcases Nat.lt_succ_iff_lt_or_eq.1 hj with h | h;exact I.pre j x h hx;subst h;rw[hi]at hx;cases hx;exact hS
 have plain:t.cur (c+1)=t.cur c->A3 E (t.V c) (cv i)->∃E',Inv C ops perm t M E0 H0 w0 (c+1) S cv bo E' w/\E.le E':=by intro kT hv;refine⟨E,⟨hc,pre',λj x ox hj=>I.noE j x ox (by omega),I.closed,I.glob,by rw[kT];exact I.step,by rw[kT];exact I.sim,λj x ox hx aJ hSx hh=>?_,λj x ox hj=>by rw[kT];exact I.early j x ox (by omega),λj x j' x' ox ox' hj hj'=>I.inj j x j' x' ox ox' (by omega) (by omega)⟩,.refl E⟩;by_cases mK:j=c;subst mK;rw[hi]at hx;cases hx;exact hv;exact I.vals j x ox hx aJ hSx (hh.imp (λh=>by omega) id)
 rcases hst with ⟨aG,_,_,_,kT,_⟩ | ⟨aG,hg,_⟩ | ⟨aG,_⟩
 ·have oJ:isA o=false:=by cases hq:isA o<;>simp_all [Pp]
  exact plain kT (I.vals c i o hi h2 hS (.inr (.inl oJ)))
 ·have hA:isA o=true:=Pp.2 aG;cases hB:t.B c with
  |false=>rw[hB]at hg;simp only[gA,VL,zYe,VT,Wh]at hg;exact plain hg.2.symm (I.vals c i o hi h2 hS (.inr (.inr hB)))
  |true=>
   obtain⟨blk,f,e1,e2,e3,e4,e5⟩:=I.early c i o (VM _) hi h2 hS hA hB;obtain⟨k1,k2⟩:=e2.take I.sim I.step e1;have hle:E.le (E.setφ (t.cur c).length 0 (bo i)):=(by refine⟨λx g y hx=>?_,λ_ _ _ h=>h,λ_ _ _ h=>h⟩;have:¬(x=(t.cur c).length/\g=0):=λ⟨q1,q2⟩=>(by have:=I.sim.dom _ _ _ hx;omega);simp[Env.setφ,this,hx]);refine⟨E.setφ (t.cur c).length 0 (bo i),⟨hc,pre',λj x ox hj=>I.noE j x ox (by omega),I.closed,I.glob.mono hle,by rw[e3];exact k2,by rw[e3];exact k1,λj x ox hx aJ hSx hh=>?_,λj x ox hj hx aJ hSx hAx hBx=>?_,
    λj x j' x' ox ox' hj hj'=>I.inj j x j' x' ox ox' (by omega) (by omega)⟩,hle⟩
   by_cases mK:j=c;subst mK;rw[hi]at hx;cases hx;rw[e4];exact e5 _ _ (by simp[Env.setφ]);exact(I.vals j x ox hx aJ hSx (hh.imp (λh=>by omega) id)).mono hle;rw[e3];refine(I.early j x ox (by omega) hx aJ hSx hAx hBx).take I.sim e2 (λhb=>?_) hle;have:=I.inj j x c i ox o (by omega) (VM _) hx hi aJ h2 hSx hS hAx hA hBx hB hb;subst this;have:=R.inj hx hi;omega
 rw[I4.2 aG]at mF;cases mF
theorem Inv.absorbTo (R:Ml C ops perm t M)(K:Nat)(hK:K<=M)(hS:∀(j i:Nat),j<K->perm[j]? = some i->S i=true):∀(d c:Nat)(E:Env)(w:World),c+d=K->Inv C ops perm t M E0 H0 w0 c S cv bo E w->∃E',Inv C ops perm t M E0 H0 w0 K S cv bo E' w/\E.le E'
 |0,c,E,w,h,I=>by simp at h;subst h;exact⟨E,I,.refl E⟩
 |d+1,c,E,w,h,I=>by obtain⟨i,o,h1,_⟩:=R.step c (by omega);obtain⟨E',I',l1⟩:=I.absorb R (by omega) h1 (hS c i (by omega) h1);obtain⟨E2,I2,l2⟩:=Inv.absorbTo R K hK hS d (c+1) E' w (by omega) I';exact⟨E2,I2,l1.trans l2⟩

end

end
theorem Qr {p q:Nat->Bool}{i:Nat}(hp:p i=true)(hq:q i=false)(h:∀x,q x=true->p x=true):∀l:zAb,(l.filter q).length<=(l.filter p).length/\(i∈l->(l.filter q).length<(l.filter p).length)
 |[]=>⟨VM _,λh=>by simp at h⟩
 |x::l=>by obtain⟨h1,h2⟩:=Qr hp hq h l;by_cases hx:q x=true;rw[Yo hx,Yo (h x hx)];simp only[zXj];refine⟨by omega,λhm=>?_⟩;rcases WF.1 hm with e | e;rw[<-e,hq]at hx;cases hx;have:=h2 e;omega;rw[List.filter_cons_of_neg hx];by_cases tR:p x=true;rw[Yo tR];simp only[zXj];exact⟨by omega,λ_=>by omega⟩;rw[List.filter_cons_of_neg tR];refine⟨h1,λhm=>?_⟩;rcases WF.1 hm with e | e;rw[<-e]at tR;exact zYf hp tR;exact h2 e
section
variable {C:Cfg}{ops:Array Oper}{perm:zAb}{t:Tr}{M:Nat}{E0:Env}{H0:Aa}{w0:World}{S:Nat->Bool}{cv:Nat->Value}{bo:Nat->Nat}
theorem Inv.add (R:Ml C ops perm t M){c:Nat}{E:Env}{w:World}(I:Inv C ops perm t M E0 H0 w0 c S cv bo E w){j i:Nat}{o:Oper}(hj:perm[j]? = some i)(ho:ops[i]? = some o)(iI:c<=j)(kH:j<M)(mF:isE o=false)
  (aT:∀e∈o.after,Region.binds .any e=true->S e.on=true){E':Env}{w':World}(hs:Sim E' (t.cur c) w')(st:Cf E (t.cur c) w E' (t.cur c) w')(v:Value)(b:Nat)
  (hv:(isA o=false\/t.B j=false)->A3 E' (t.V j) v)(hb:isA o=true->t.B j=true->b=w.heap.size/\Rf E0 w0 t E' (t.cur c) w' j b v):Inv C ops perm t M E0 H0 w0 c (λx=>if x=i then true else S x) (λx=>if x=i then v else cv x) (λx=>if x=i then b else bo x) E' w':=by
 have hne:∀ {q x:Nat},perm[q]? = some x->x≠i->q≠j:=λh1 h2 h3=>h2 (by subst h3;rw[hj]at h1;exact(Xf h1).symm);refine⟨I.le,λq x hq hx=>?_,λq x ox hq hx aJ hS=>?_,λx ox hS aJ e he gI=>?_,I.glob.mono st.le,I.step.trans st,hs,λq x ox hx aJ hS hh=>?_,λq x ox hq hx aJ hS hA hB=>?_,λq x q' x' ox ox' hq iS hx hx' aJ jE hS hS' hA hA' hB hB' heq=>?_⟩
 ·show(if x=i then true else S x)=true;split
  ·rfl
  exact I.pre q x hq hx
 by_cases aI:x=i;subst aI;rw[ho]at aJ;cases aJ;have:=R.inj hx hj;exact⟨mF,by omega⟩;simp only[zYb aI]at hS;exact I.noE q x ox hq hx aJ hS
 ·have hSe:S e.on=true:=by by_cases aI:x=i;subst aI;rw[ho]at aJ;cases aJ;exact aT e he gI;simp only[zYb aI]at hS;exact I.closed x ox hS aJ e he gI
  show(if e.on=i then true else S e.on)=true;split
  ·rfl
  exact hSe
 by_cases aI:x=i;subst aI;rw[ho]at aJ;cases aJ;have:=R.inj hx hj;subst this;simp only[zYd];exact hv (hh.resolve_left (by omega));simp only[zYb aI]at hS⊢;exact(I.vals q x ox hx aJ hS hh).mono st.le;by_cases aI:x=i;subst aI;rw[ho]at aJ;cases aJ;have:=R.inj hx hj;subst this;simp only[zYd];exact(hb hA hB).2;simp only[zYb aI]at hS⊢;exact(I.early q x ox hq hx aJ hS hA hB).persist st
 ·by_cases aI:x=i<;>by_cases gV:x'=i
  rw[aI,gV];exfalso;subst aI;rw[ho]at aJ;cases aJ;have:=R.inj hx hj;subst this;simp only[zYd,zYb gV]at heq hS';obtain⟨blk,f,_,h2,_⟩:=I.early q' x' ox' iS hx' jE hS' hA' hB';have:=h2.lt;have:=(hb hA hB).1;omega;exfalso;subst gV;rw[ho]at jE;cases jE;have:=R.inj hx' hj;subst this;simp only[zYd,zYb aI]at heq hS;obtain⟨blk,f,_,h2,_⟩:=I.early q x ox hq hx aJ hS hA hB;have:=h2.lt;have:=(hb hA' hB').1;omega;simp only[zYb aI,zYb gV]at heq hS hS';exact I.inj q x q' x' ox ox' hq iS hx hx' aJ jE hS hS' hA hA' hB hB' heq
theorem Inv.addE (R:Ml C ops perm t M){c:Nat}{E:Env}{w:World}(I:Inv C ops perm t M E0 H0 w0 c S cv bo E w){i:Nat}{o:Oper}(hj:perm[c]? = some i)(ho:ops[i]? = some o)(Z8:c<M)(hE:isE o=true)
  (aT:∀e∈o.after,Region.binds .any e=true->S e.on=true){E':Env}{w':World}(hs:Sim E' (t.cur (c+1)) w')(st:Cf E (t.cur c) w E' (t.cur (c+1)) w')(v:Value)(hv:A3 E' (t.V c) v):Inv C ops perm t M E0 H0 w0 (c+1) (λx=>if x=i then true else S x) (λx=>if x=i then v else cv x) bo E' w':=by
 have oJ:isA o=false:=by cases hq:isA o with|false=>rfl|true=>rw[I4]at hE;rw[Pp]at hq;rw[hE]at hq;cases hq
 refine⟨Z8,λq x hq hx=>?_,λq x ox hq hx aJ hS=>?_,λx ox hS aJ e he gI=>?_,I.glob.mono st.le,I.step.trans st,hs,λq x ox hx aJ hS hh=>?_,λq x ox hq hx aJ hS hA hB=>?_,λq x q' x' ox ox' hq iS hx hx' aJ jE hS hS' hA hA' hB hB' heq=>?_⟩
 ·show(if x=i then true else S x)=true;split
  ·rfl
  rename_i aI;refine I.pre q x ?_ hx;have:q≠c:=λe=>aI (by subst e;rw[hj]at hx;exact(Xf hx).symm);omega
 by_cases aI:x=i;subst aI;have:=R.inj hx hj;omega;simp only[zYb aI]at hS;exact I.noE q x ox (by omega) hx aJ hS
 ·have hSe:S e.on=true:=by by_cases aI:x=i;subst aI;rw[ho]at aJ;cases aJ;exact aT e he gI;simp only[zYb aI]at hS;exact I.closed x ox hS aJ e he gI
  show(if e.on=i then true else S e.on)=true;split
  ·rfl
  exact hSe
 by_cases aI:x=i;subst aI;have:=R.inj hx hj;subst this;simp only[zYd];exact hv;simp only[zYb aI]at hS⊢;have:q≠c:=λe=>aI (by subst e;rw[hj]at hx;exact(Xf hx).symm);exact(I.vals q x ox hx aJ hS (hh.imp (λh=>by omega) id)).mono st.le;by_cases aI:x=i;subst aI;have:=R.inj hx hj;omega;simp only[zYb aI]at hS⊢;exact(I.early q x ox (by omega) hx aJ hS hA hB).persist st;by_cases aI:x=i;subst aI;have:=R.inj hx hj;omega;by_cases gV:x'=i;subst gV;have:=R.inj hx' hj;omega;simp only[zYb aI,zYb gV]at heq hS hS';exact I.inj q x q' x' ox ox' (by omega) (by omega) hx hx' aJ jE hS hS' hA hA' hB hB' heq

def FJ (n:Nat)(ops:Array Oper)(o:Oper)(tm:List Ab):List Ab:=(List.range n).map λx=>if x∈o.looksAt ops then tm.getD x .undef else .undef
theorem SQ {n:Nat}{o:Oper}{tm:List Ab}(hn:tm.length=n){x:Nat}(hx:x∈o.looksAt ops):(FJ n ops o tm).getD x .undef=tm.getD x .undef:=by unfold FJ;rw[VO,Wq];by_cases h:x<n;rw[Xy h];simp[hx];rw[zYa (by simp;omega),VO,zYa (by omega)];rfl
theorem IV {n:Nat}{o:Oper}{tm:List Ab}(hn:tm.length=n){x:Operand}(hx:x∈o.op.operands):rho C.G (FJ n ops o tm) x=rho C.G tm x:=by cases x with|tmp d=>simp only[rho];refine SQ hn ?_;unfold Oper.looksAt;refine Wk.2 (.inl (List.mem_filterMap.2 ⟨.tmp d,by simpa using hx,rfl⟩))|_=>rfl
theorem MH {n:Nat}{o:Oper}{tm:List Ab}(hn:tm.length=n):Io ops o (FJ n ops o tm)=Io ops o tm:=by
 unfold Io;cases hg:o.guard with
 |none=>rfl
 |some p=>obtain⟨g,want⟩:=p;simp only[];cases hd:(ops[g]?).bind (·.dst)with|none=>rfl|some d=>have:d∈o.looksAt ops:=(by unfold Oper.looksAt;rw[hg];refine Wk.2 (.inr ?_);simp[hd]);simp only[zXb];rw[SQ hn this]
theorem Inv.looks (R:Ml C ops perm t M){n:Nat}{c:Nat}{E:Env}{w:World}(I:Inv C ops perm t M E0 H0 w0 c S cv bo E w){a0:Act}(h0:AB E (t.T 0) a0.tmps.toList)(hn:(t.T 0).length=n){j i:Nat}{o:Oper}(hj:perm[j]? = some i)(ho:ops[i]? = some o)(kH:j<=M)(hS:S i=false)
  (lD:∀x,((Region.before ops).getD i 0).testBit x=true->S x=true)(hcase:(j=c/\((∀x∈perm.take (LJ ops perm),S x=true)\/∀(q k:Nat),c<=q->perm[q]? = some k->S k=false))\/((∀x∈perm.take (LJ ops perm),S x=true)/\∀(b i':Nat)(o':Oper),b<j->perm[b]? = some i'->ops[i']? = some o'->isA o'=true->∀d,o'.dst=some d->d ∉ o.looksAt ops)):AB E (FJ n ops o (t.T j)) (Do ops S cv perm a0).tmps.toList:=by
 have hsz:(Do ops S cv perm a0).tmps.size=n:=by rw[KQ,<-hn];simpa using h0.1.symm
 refine⟨by simp[FJ,hsz],λx y u h1 h2=>?_⟩;have hx:x<n:=by have:=(VJ.1 h1).1;simpa[FJ]using this
 have hy:y=if x∈o.looksAt ops then (t.T j).getD x .undef else .undef:=by unfold FJ at h1;rw[Wq,Xy hx]at h1;simpa using h1.symm
 have hu:u=(Do ops S cv perm a0).tmps.getD x undef:=by rw[Xi]at h2;simp[Wb,h2]
 rw[hy];split
 ·rename_i hl;rw[hu];have gX:Do ops S cv perm a0=Do ops S cv (perm.drop j) (Do ops S cv (perm.take j) a0):=by rw[<-Pv,WD]
  rw[gX,Tk];refine R.read h0 x j kH λj' i' o' hj' aE dP hd=>?_;obtain⟨o2,q1,q2,q3⟩:=R.spec j i hj;rw[ho]at q1;cases q1;obtain⟨o3,p1,p2,p3,p4⟩:=q3 j' i' hj' aE;rw[dP]at p1;cases p1;have hSi:S i'=true:=(by rcases p3 with p3 | p3 | ⟨_,p3,_⟩;exact lD _ p3;rcases hcase with ⟨hE,_⟩ | ⟨hE,_⟩;exact I.pre j' i' (by omega) aE;exact hE _ p3;exact zYf hl (Vb5 p3 hd).1);refine⟨hSi,I.vals j' i' o' aE dP hSi ?_⟩;by_cases mK:j'<c;exact .inl mK;rcases hcase with ⟨hE,_⟩ | ⟨_,hE⟩;omega;cases hA:isA o' with|false=>exact .inr (.inl rfl)|true=>exact zYf hl (hE j' i' o' hj' aE dP hA x hd)
  ·intro k hk hSk hd;obtain⟨q,hq,Zu⟩:=Ws hk;have iS:perm[j+q]? = some k:=(by rw[<-W5,VG hq,Zu]);cases q with
   |zero=>rw[Nat.add_zero,hj]at iS;cases iS;rw[hS]at hSk;cases hSk
   |succ q=>obtain⟨ok,q1,q2,q3⟩:=R.spec (j+(q+1)) k iS;obtain⟨o3,p1,p2,p3,p4⟩:=q3 j i (by omega) hj;rw[ho]at p1;cases p1;rw[Kj q1]at hd;rcases p3 with p3 | p3 | ⟨_,_,p3⟩;have:S i=true:=J7 (S:=λx=>S x=true) (λx ox hSx aJ=>I.closed x ox hSx aJ) k i (λox aJ=>I.closed k ox hSk aJ) p3;rw[hS]at this;cases this;rcases hcase with ⟨hE,h | h⟩ | ⟨h,_⟩;have:=h _ p3;rw[hS]at this;cases this;have:=h (j+(q+1)) k (by omega) iS;rw[hSk]at this;cases this;have:=h _ p3;rw[hS]at this;cases this;exact(Vb5 p3 hd).1 hl
 exact .undef _

end
section
variable {C:Cfg}{ops:Array Oper}{perm:zAb}{t:Tr}{M:Nat}{E0:Env}{H0:Aa}{w0:World}
theorem Veq {bf:Nat->Bool}{f:Aa->Option Ab}{v:Ab}:∀(hist:List (Nat×Aa)) (q:Nat) (e:Nat) (h:Aa),Vkz bf f v hist->hist[q]? = some (e,h)->(∀(r:Nat)(e':Nat)(h':Aa),r<=q->hist[r]? = some (e',h')->bf e'=false)->f h=some v
 |[],q,e,h,_,hq,_=>by simp at hq
 |(e1,h1)::r,q,e,h,hst,hq,hb=>by
  have h0:=hb 0 e1 h1 (by omega) rfl;simp only[Vkz,h0,VL,zYe]at hst;cases q with
  |zero=>simp at hq;obtain⟨rfl,rfl⟩:=hq;exact hst.1
  |succ q=>exact Veq r q e h hst.2 (by simpa using hq) (λr' e' h' eQ=>hb (r'+1) e' h' (by omega))
theorem Rc {cells:Option (List Ab)}{H H':Aa}{z:Ab}(h:Av cells H=some (z,H')):∃blk,H'=H++[blk]:=by
 cases cells with
 |none=>cases h
 |some cs=>
  simp only[Av,zXa]at h;split at h
  simp only[VT,Wh]at h;exact⟨_,h.2.symm⟩;cases h
theorem Vb8 {t:TypeId}{cells:Option (List Ab)}{H H':Aa}{z:Ab}(h:Ji t cells H=some (z,H')):∃blk,H'=H++[blk]:=by
 cases cells with
 |none=>cases h
 |some cs=>
  simp only[Ji,zXa]at h;split at h
  simp only[VT,Wh]at h;exact⟨_,h.2.symm⟩;cases h
theorem Vdz {sz bytes:Nat}{z0:Option (List Ab)}{l c:Ab}{H H':Aa}{z:Ab}(h:FG sz bytes z0 l c H=some (z,H')):∃blk,H'=H++[blk]:=by
 cases z0 with
 |none=>cases h
 |some cs=>
  simp only[FG,zXa]at h;split at h
  ·split at h
   simp only[VT,Wh]at h;exact⟨_,h.2.symm⟩;cases h
  cases h
theorem Oj {H H':Aa}{z:Ab}(h:EM H=some (z,H')):∃blk,H'=H++[blk]:=by simp only[EM,VT,Wh]at h;exact⟨_,h.2.symm⟩
theorem Vdj {op:Op}{r:Operand->Ab}{H H':Aa}{z:Ab}(h:CT C op r H=some (z,H')):∃blk,H'=H++[blk]:=by
 unfold CT at h;split at h
 ·split at h
  cases h
  ·split at h
   exact Vb8 h;exact Rc h
 ·split at h
  ·split at h
   cases h;exact Rc h
  cases h
 ·split at h
  ·split at h
   cases h;exact Vdz h
  cases h
 ·split at h
  exact Oj h
  ·split at h
   exact Oj h;cases h
  cases h
 cases h
theorem Ml.hists (R:Ml C ops perm t M)(pS:t.hist 0=[])(gQ:t.cur 0=t.hE 0):∀j,j<=M ->
  (∃p,t.cur j=t.hE j++p)/\∀c,c<=j->t.hE c=t.hE j\/∃(q e:Nat)(b:Nat)(o:Oper),(t.hist j)[q]? = some (e,t.hE c)/\c<=b/\b<j/\perm[b]? = some e/\ops[e]? = some o/\isE o=true /\
   ∀(r e':Nat)(h':Aa),r<=q->(t.hist j)[r]? = some (e',h')->∃(b':Nat)(o':Oper),c<=b'/\b'<j/\perm[b']? = some e'/\ops[e']? = some o'/\isE o'=true
 |0,_=>⟨⟨[],by rw[gQ];simp⟩,λc hc=>.inl (by rw[Nat.le_zero.1 hc])⟩
 |j+1,hj=>by
  obtain⟨⟨p,hp⟩,ih⟩:=R.hists pS gQ j (by omega);obtain⟨i,o,h1,h2,_,_,hst⟩:=R.step j (by omega);have lift:t.hE (j+1)=t.hE j->t.hist (j+1)=t.hist j->∀c,c<=j+1->t.hE c=t.hE (j+1)\/∃(q e:Nat)(b:Nat)(o:Oper),(t.hist (j+1))[q]? = some (e,t.hE c)/\c<=b/\b<j+1/\perm[b]? = some e/\ops[e]? = some o/\isE o=true /\
    ∀(r e':Nat)(h':Aa),r<=q->(t.hist (j+1))[r]? = some (e',h')->∃(b':Nat)(o':Oper),c<=b'/\b'<j+1/\perm[b']? = some e'/\ops[e']? = some o'/\isE o'=true:=by
   intro e1 e2 c hc;by_cases iI:c=j+1;exact .inl (by rw[iI]);rcases ih c (by omega)with h | ⟨q,e,b,ob,g1,g2,g3,g4,g5,g6,g7⟩;exact .inl (by rw[h,e1]);refine .inr ⟨q,e,b,ob,by rw[e2];exact g1,g2,by omega,g4,g5,g6,λr e' h' hr hh=>?_⟩;rw[e2]at hh;obtain⟨b',o',x1,x2,x3⟩:=g7 r e' h' hr hh;exact⟨b',o',x1,by omega,x3⟩
  rcases hst with ⟨aG,_,_,e1,e2,e3⟩ | ⟨aG,hg,e1,e3⟩ | ⟨aG,hg,e1,e3⟩;exact⟨⟨p,by rw[e2,e1];exact hp⟩,lift e1 e3⟩
  ·refine⟨?_,lift e1 e3⟩;cases hB:t.B j with
   |false=>rw[hB]at hg;simp only[gA,VL,zYe,VT,Wh]at hg;exact⟨p,by rw[<-hg.2,e1];exact hp⟩
   |true=>rw[hB]at hg;simp only[gA,zYd]at hg;have qV:=Vdj hg;obtain⟨blk,hb⟩:=qV;exact⟨p++[blk],by rw[hb,e1,hp,VP]⟩
  ·refine⟨⟨[],by rw[e1];simp⟩,λc hc=>?_⟩;by_cases iI:c=j+1;exact .inl (by rw[iI])
   ·have hEo:isE o=true:=I4.2 aG;rcases ih c (by omega)with h | ⟨q,e,b,ob,g1,g2,g3,g4,g5,g6,g7⟩;refine .inr ⟨0,i,j,o,by rw[e3,h];rfl,by omega,by omega,h1,h2,hEo,λr e' h' hr hh=>?_⟩;have:r=0:=(by omega);subst this;rw[e3]at hh;simp at hh;exact⟨j,o,by omega,by omega,by rw[<-hh.1];exact h1,by rw[<-hh.1];exact h2,hEo⟩
    ·refine .inr ⟨q+1,e,b,ob,by rw[e3];simpa using g1,g2,by omega,g4,g5,g6,λr e' h' hr hh=>?_⟩;rw[e3]at hh;cases r with
     |zero=>simp at hh;exact⟨j,o,by omega,by omega,by rw[<-hh.1];exact h1,by rw[<-hh.1];exact h2,hEo⟩
     |succ r=>obtain⟨b',o',x1,x2,x3⟩:=g7 r e' h' (by omega) (by simpa using hh);exact⟨b',o',x1,by omega,x3⟩
theorem Rd {cells:Option (List Ab)}{H:Aa}(h:Av cells H≠none)(H2:Aa):Av cells H2≠none:=by cases cells with|none=>exact h|some cs=>simp only[Av,zXa]at h⊢;split<;>simp_all
theorem Vb9 {t:TypeId}{cells:Option (List Ab)}{H:Aa}(h:Ji t cells H≠none)(H2:Aa):Ji t cells H2≠none:=by cases cells with|none=>exact h|some cs=>simp only[Ji,zXa]at h⊢;split<;>simp_all
theorem Vd0 {sz bytes:Nat}{z0:Option (List Ab)}{l c:Ab}{H:Aa}(h:FG sz bytes z0 l c H≠none)(H2:Aa):FG sz bytes z0 l c H2≠none:=by
 cases z0 with
 |none=>exact h
 |some cs=>
  simp only[FG,zXa]at h⊢;split at h
  ·split at h
   rename_i hc;rw[zYc hc];simp;exact zYf rfl h
  exact zYf rfl h
theorem Vdk {op:Op}{r:Operand->Ab}{H:Aa}(h:CT C op r H≠none)(H2:Aa):CT C op r H2≠none:=by
 cases op with
 |alloc t=>simp only[CT]at h⊢;split;rename_i hk;rw[zYc hk]at h;exact h;rename_i hk;rw[zYb hk]at h;split;rename_i lK;rw[lK]at h;exact Vb9 h H2;rename_i lK;rw[lK]at h;exact Rd h H2
 |box t x=>simp only[CT]at h⊢;cases hcs:(r x).acells with|none=>rw[hcs]at h;exact h|some cs=>rw[hcs]at h;simp only[]at h⊢;split;rename_i hk;rw[zYc hk]at h;exact h;rename_i hk;rw[zYb hk]at h;exact Rd h H2
 |makeSlice t l c=>
  simp only[CT]at h⊢;cases hu:C.P.underlying t with
  |none=>rw[hu]at h;exact h
  |some d=>
   rw[hu]at h;cases d<;>first | exact h | skip
   simp only[]at h⊢;split;rename_i hk;rw[zYc hk]at h;exact h;rename_i hk;rw[zYb hk]at h;exact Vd0 h H2
 |makeMap t x=>
  cases x with
  |none=>simp[CT,EM]
  |some y=>
   simp only[CT]at h⊢;cases hu:C.P.underlying t with
   |none=>rw[hu]at h;exact h
   |some d=>
    rw[hu]at h;cases d<;>first | exact h | skip
    simp only[]at h⊢;cases hy:r y<;>rw[hy]at h<;>first | exact h | simp[EM]
 |_=>exact h
theorem ViX (hC:Nw C){n:Nat}{out:Res×Aa}{k:List Ab->Aa->Out}{kp:Ab->List Ab->Aa->Out}{Q:Exit->Act->World->Prop}(hk:KOk C n E0 H0 w0 out k (Q .normal))(cV:Vmv C n E0 H0 w0 out kp Q)
  (R:Ml C ops perm t M)(pS:t.hist 0=[])(gQ:t.cur 0=t.hE 0)(hfin:(M=perm.length/\k (t.T M) (t.cur M)=some out)\/PK C ops (λi j=>((Region.before ops).getD j 0).testBit i) perm kp out t M){a0:Act}(hn:(t.T 0).length=n)(nL:a0.defers=[]):∀(fuel:Nat)(listed:Array Bool)(a:Act)(w:World)(c:Nat)(S:Nat->Bool)(cv:Nat->Value)(bo:Nat->Nat)(E:Env),LJ ops perm<=c->listed.size=ops.size->(∀i,S i=listed.getD i false)->((List.range ops.size).filter λi=>!listed.getD i true).length<=fuel ->
   Inv C ops perm t M E0 H0 w0 c S cv bo E w->AB E (t.T 0) a0.tmps.toList->a=Do ops S cv perm a0->wpAny C.P .any ops Q fuel listed a w:=by
 have done:∀(listed:Array Bool)(a:Act)(w:World)(c:Nat)(S:Nat->Bool)(cv:Nat->Value)(bo:Nat->Nat)(E:Env),listed.size=ops.size->(∀i,S i=listed.getD i false)->Inv C ops perm t M E0 H0 w0 c S cv bo E w->AB E (t.T 0) a0.tmps.toList->a=Do ops S cv perm a0 ->
   Region.ready .any ops listed=[]->Q .normal a w:=by
  intro listed a w c S cv bo E hsz hS I h0 ha hr;have all:∀(j i:Nat),perm[j]? = some i->S i=true:=by
   intro j
   induction j using Nat.strongRecOn with
   |_ j ih=>intro i hj;obtain⟨o,h1,h2,_⟩:=R.spec j i hj;cases hSi:S i with|true=>rfl|false=>exfalso;have hi:i<ops.size:=(Wz.1 h1).1;have hm:i∈Region.ready .any ops listed:=(by rw[mem_ready];refine⟨?_,o,h1,λe he hb=>?_⟩;have:=hS i;rw[hSi]at this;rw[Wb,Xs (by omega)]at this⊢;simpa using this.symm;obtain⟨b,gT,gS⟩:=h2 e he hb;rw[<-hS];exact ih b gT e.on gS);rw[hr]at hm;simp at hm
  rcases hfin with ⟨hM,hout⟩ | ⟨hM,i,o,x,H',h1,h2,h3,_⟩;obtain⟨E',I',hle⟩:=Inv.absorbTo R M (VM _) (λj i _ hj=>all j i hj) (M-c) c E w (by have:=I.le;omega) I;have dT:AB E' (t.T 0) a0.tmps.toList:=h0.mono hle;subst ha;refine hk E' _ _ _ w I'.glob I'.step ⟨?_,R.tlen hn M (VM _),by rw[KR];exact nL,I'.sim⟩ hout;have e:(Do ops S cv perm a0).tmps.toList.length=a0.tmps.toList.length:=(by simp[KQ]);refine⟨by rw[e,<-h0.1];exact R.tlen rfl M (VM _),λx y v hx hv=>?_⟩;have eQ:=R.read (S:=S) (cv:=cv) dT x M (VM _) λj i o hj hi ho _=>⟨all j i hi,I'.vals j i o hi ho (all j i hi) (.inl hj)⟩;rw[hM,Wx,<-hM]at eQ;rw[VO,hx,Wb]at eQ;rw[Xi]at hv;rw[hv]at eQ;exact eQ;have:=(I.noE M i o I.le h1 h2 (all M i h1)).1;rw[I4.2 h3]at this;cases this
 intro fuel
 induction fuel with
 |zero=>
  intro listed a w c S cv bo E hK0 hsz hS bX I h0 ha;have hr:Region.ready .any ops listed=[]:=by
   cases hr:Region.ready .any ops listed with
   |nil=>rfl
   |cons x l=>exfalso;have hm:x∈Region.ready .any ops listed:=(by rw[hr];simp);obtain⟨h1,o,h2,_⟩:=mem_ready.1 hm;have hx:x<ops.size:=(Wz.1 h2).1;have:x∈(List.range ops.size).filter λi=>!listed.getD i true:=(by rw[X4,XN];exact⟨hx,by rw[h1];rfl⟩);have:=List.length_pos_of_mem this;omega
  exact⟨hr,done listed a w c S cv bo E hsz hS I h0 ha hr⟩
 |succ fuel ih=>
  intro listed a w c S cv bo E hK0 hsz hS bX I h0 ha;refine⟨done listed a w c S cv bo E hsz hS I h0 ha,λi hi=>?_⟩;obtain⟨h1,o,ho,iG⟩:=mem_ready.1 hi;have aT:∀e∈o.after,Region.binds .any e=true->S e.on=true:=λe he hb=>by rw[hS];exact iG e he hb
  have aK:i<ops.size:=(Wz.1 ho).1;have hSi:S i=false:=by rw[hS];rw[Wb,Xs (by omega)]at h1⊢;simpa using h1
  have lD:∀x,((Region.before ops).getD i 0).testBit x=true->S x=true:=λx hx=>J7 (S:=λx=>S x=true) (λx ox hSx aJ=>I.closed x ox hSx aJ) i x (λox aJ=>by rw[ho]at aJ;cases aJ;exact aT) hx;have hpre:∀x∈perm.take (LJ ops perm),S x=true:=λx hx=>by obtain⟨q,hq,yB⟩:=Ws hx;rw[Yk]at yB;have iS:q<LJ ops perm/\q<perm.length:=(by simpa[Nat.lt_min]using hq);exact I.pre q x (by omega) (by rw[VG iS.2,yB])
  obtain⟨j,hj⟩:=R.pos aK;have iI:c<=j:=by rcases W4 j c with h | h;rw[I.pre j i h hj]at hSi;cases hSi;exact h
  have tY:j<perm.length:=(VJ.1 hj).1;have kH:j<=M:=by rcases hfin with ⟨h,_⟩ | ⟨_,iM,oM,x,H',g1,g2,g3,_,_,_,g7⟩;omega;rcases W4 M j with h | h;have:=(I.noE M iM oM I.le g1 g2 (lD iM (g7 j i h hj))).1;rw[I4.2 g3]at this;cases this;exact h
  have hS':∀x,(if x=i then true else S x)=(listed.setIfInBounds i true).getD x false:=by intro x;rw[Wb];by_cases hx:x=i;subst hx;rw[WR (by omega)];simp;rw[WM (λh=>hx h.symm),zYb hx,hS,Wb]
  have tC:((List.range ops.size).filter λx=>!(listed.setIfInBounds i true).getD x true).length<=fuel:=by
   have:=(Qr (p:=λx=>!listed.getD x true) (q:=λx=>!(listed.setIfInBounds i true).getD x true) (i:=i) (by rw[h1];rfl) (by rw[Wb,WR (by omega)];rfl) (λx hx=>by
    by_cases aI:x=i;subst aI;rw[h1];rfl
    ·rw[Wb,WM (λh=>aI h.symm),<-Wb]at hx;exact hx) (List.range ops.size)).2 (XN.2 aK)
   omega
  have jD:∀v,a.put o.dst v=Do ops (λx=>if x=i then true else S x) (λx=>if x=i then v else cv x) perm a0:=by intro v;rw[Qo (v:=v) hSi perm a0 j hj (λq r x h1 h2=>R.inj h1 h2) (λq x hq hx hSx d hd=>?_),<-ha,Kj ho];obtain⟨ok,q1,_,q3⟩:=R.spec q x hx;obtain⟨o3,p1,_,p3,_⟩:=q3 j i hq hj;rw[ho]at p1;cases p1;rw[Kj ho]at hd;rw[Kj q1];rcases p3 with p3 | p3 | ⟨_,p3,_⟩;have:S i=true:=J7 (S:=λx=>S x=true) (λx ox hSx aJ=>I.closed x ox hSx aJ) x i (λox aJ=>I.closed x ox hSx aJ) p3;rw[hSi]at this;cases this;have:=hpre _ p3;rw[hSi]at this;cases this;exact(Vb5 p3 hd).2
  have hsz':(listed.setIfInBounds i true).size=ops.size:=by simp[hsz]
  have next:∀(w':World)(c':Nat)(v:Value)(bo':Nat->Nat)(E':Env),c<=c'->E.le E'->Inv C ops perm t M E0 H0 w0 c' (λx=>if x=i then true else S x) (λx=>if x=i then v else cv x) bo' E' w'->wpAny C.P .any ops Q fuel (listed.setIfInBounds i true) (a.put o.dst v) w':=
   λw' c' v bo' E' hcc hle I'=>ih _ _ w' c' _ _ bo' E' (by omega) hsz' hS' tC I' (h0.mono hle) (jD v)
  cases hE:isE o with
  |true=>
   have kC:∀(b x:Nat),b<j->perm[b]? = some x->S x=true:=λb x hb hx=>(by obtain⟨oj,q1,_,q3⟩:=R.spec j i hj;rw[ho]at q1;cases q1;obtain⟨_,_,_,p3,_⟩:=q3 b x hb hx;rcases p3 with p3 | p3 | ⟨p3,_⟩;exact lD x p3;exact hpre x p3;rw[hE]at p3;cases p3);obtain⟨E1,I1,hle⟩:=Inv.absorbTo R j kH kC (j-c) c E w (by omega) I;have h01:=h0.mono hle;have hl:=I1.looks R h01 hn hj ho kH hSi lD (.inl ⟨rfl,.inl hpre⟩);rw[<-ha]at hl;have hTn:=R.tlen hn j kH;have gD:=N2 (C:=C) I1.glob hl;unfold wpOp;simp only[ho];rcases W4 j M with hlt | hge;obtain⟨i',o',g1,g2,bZ,_,hst⟩:=R.step j hlt;rw[hj]at g1;cases g1;rw[ho]at g2;cases g2;have hw:=ON (b:=t.B j) hl ((MH hTn).trans bZ);rw[hw];rcases hst with ⟨aG,_⟩ | ⟨aG,_⟩ | ⟨aG,hg,_⟩;rw[I4]at hE;rw[hE]at aG;cases aG;rw[I4]at hE;rw[hE]at aG;cases aG;cases hB:t.B j with|false=>rw[hB]at hg;simp only[gE,VL,zYe,VT,Wh,Res.ret.injEq]at hg;simp only[VL,zYe];exact next w (j+1) undef bo E1 (by omega) hle (I1.addE R hj ho hlt hE aT (by rw[<-hg.2];exact I1.sim) (by rw[<-hg.2];exact .refl _ _ _) undef (by rw[<-hg.1];exact OR))|true=>rw[hB]at hg;simp only[gE,zYd]at hg;simp only[zYd];refine .inl ?_;rw[<-QJ (r:=rho C.G (FJ n ops o (t.T j))) (λx hx=>IV hTn hx)]at hg;refine Sj hC I1.glob I1.sim gD hg (λE' w' v x hres hv q1 q2=>?_) (λE' w' v x hres=>by cases hres);cases hres;exact next w' (j+1) v bo E' (by omega) (hle.trans q2.le) (I1.addE R hj ho hlt hE aT q1 q2 v hv)
   have oS:j=M:=(by omega);rcases hfin with ⟨h,_⟩ | ⟨hM,i',o',x,H',g1,g2,g3,bZ,hg,hout,_⟩;omega;rw[<-oS]at g1 bZ hg hout;rw[hj]at g1;cases g1;rw[ho]at g2;cases g2;have hw:=ON hl ((MH hTn).trans bZ);rw[hw];simp only[zYd];refine .inl ?_;rw[<-QJ (r:=rho C.G (FJ n ops o (t.T j))) (λx hx=>IV hTn hx)]at hg;refine Sj hC I1.glob I1.sim gD hg (λE' w' v x hres=>by cases hres) (λE' w' v x hres hv q1 q2=>?_);cases hres;refine cV E' _ H' a w' _ v (I1.glob.mono q2.le) (I1.step.trans q2) ⟨⟨?_,λx' y u hy hu=>?_⟩,by simp[hTn],by rw[ha,KR];exact nL,q1⟩ hv hout;have:=hl.1;simp only[WP];rw[hTn,<-this];simp[FJ];rw[Wq]at hy;cases hq:(t.T j)[x']? with|none=>simp[hq]at hy|some q=>simp[hq]at hy;subst hy;exact .undef _
  |false=>
   have hlt:j<M:=(by rcases W4 j M with h | h;exact h;exfalso;have oS:j=M:=(by omega);rcases hfin with ⟨h,_⟩ | ⟨hM,i',o',x,H',g1,g2,g3,_⟩;omega;rw[<-oS,hj]at g1;cases g1;rw[ho]at g2;cases g2;rw[I4.2 g3]at hE;cases hE);have kF:∃(c':Nat)(E':Env),c<=c'/\c'<=j/\Inv C ops perm t M E0 H0 w0 c' S cv bo E' w/\E.le E'/\AB E' (FJ n ops o (t.T j)) (Do ops S cv perm a0).tmps.toList:=(by by_cases tF:∀(b i':Nat)(o':Oper),b<j->perm[b]? = some i'->ops[i']? = some o'->isA o'=true->∀d,o'.dst=some d->d ∉ o.looksAt ops;exact⟨c,E,VM _,iI,I,.refl E,I.looks R h0 hn hj ho kH hSi lD (.inr ⟨hpre,tF⟩)⟩;have kC:∀(b x:Nat),b<j->perm[b]? = some x->S x=true:=(by intro b x hb hx;apply Classical.byContradiction;intro hSx;apply tF;intro b1 i1 o1 gT kL Zo hA1;obtain⟨oj,q1,_,q3⟩:=R.spec j i hj;rw[ho]at q1;cases q1;obtain⟨o3,p1,_,_,p4⟩:=q3 b1 i1 gT kL;rw[Zo]at p1;cases p1;rcases p4 hA1 hE with h | h;exact h;exact zYf ((h b x hb hx).elim (lD x) (hpre x)) hSx);obtain⟨E1,I1,hle⟩:=Inv.absorbTo R j kH kC (j-c) c E w (by omega) I;exact⟨j,E1,iI,VM _,I1,hle,I1.looks R (h0.mono hle) hn hj ho kH hSi lD (.inl ⟨rfl,.inl hpre⟩)⟩);obtain⟨c',E1,hcc,iI,I,mI,hl⟩:=kF;rw[<-ha]at hl;have hTn:=R.tlen hn j kH;have gD:=N2 (C:=C) I.glob hl;unfold wpOp;simp only[ho];obtain⟨i',o',g1,g2,bZ,_,hst⟩:=R.step j hlt;rw[hj]at g1;cases g1;rw[ho]at g2;cases g2;have hw:=ON (b:=t.B j) hl ((MH hTn).trans bZ);rw[hw];rcases hst with ⟨aG,hg,qL,_⟩ | ⟨aG,hg,_⟩ | ⟨aG,_⟩
   ·have oJ:¬isA o=true:=λh=>(by rw[Pp.1 h]at aG;cases aG);cases hB:t.B j with
    |false=>rw[hB]at hg;simp only[gR,VL,zYe,VT]at hg;simp only[VL,zYe];exact next w c' undef _ E1 hcc mI (I.add R hj ho iI hlt hE aT I.sim (.refl _ _ _) undef 0 (λ_=>by rw[<-hg];exact OR) (λh=>zYf h oJ))
    |true=>
     rw[hB]at hg;simp only[gR,zYd]at hg;simp only[zYd];refine .inl ?_;obtain⟨⟨p,hp⟩,_⟩:=R.hists pS gQ c' (by omega);obtain⟨_,sK⟩:=R.hists pS gQ j kH;have hE':BR C o.op (rho C.G (t.T j)) (t.hE c')=some (t.V j):=by
      cases xY:J9 o.op with
      |false=>rw[Va8 xY (t.hE j)];exact hg
      |true=>
       rcases sK c' iI with e | ⟨q,e,b,ob,q1,q2,q3,q4,q5,q6,q7⟩;rw[e];exact hg
       ·have hst:=qL xY;rw[hB]at hst;have:=Veq (t.hist j) q e (t.hE c') hst q1 (λr e' h' hr hh=>by
         obtain⟨b',o',x1,x2,x3,x4,x5⟩:=q7 r e' h' hr hh;cases mP:((Region.before ops).getD i 0).testBit e' with
         |false=>exact mP
         |true=>have:=(I.noE b' e' o' x1 x3 x4 (lD e' mP)).1;rw[x5]at this;cases this)
        simpa[gR]using this
     have hst:=Vdi p hE';rw[<-hp,<-QI (r:=rho C.G (FJ n ops o (t.T j))) (λx hx=>IV hTn hx)]at hst;obtain⟨v,w',E',z1,z2,z3,z4⟩:=VbF hC.eq hC.map I.sim gD (λ_=>rfl) hst;unfold Oper.wp;rw[z1,Oper.upon_value];exact next w' c' v _ E' hcc (mI.trans z4.le) (I.add R hj ho iI hlt hE aT z3 z4 v 0 (λ_=>z2) (λh=>zYf h oJ))
   ·have hA:isA o=true:=Pp.2 aG;cases hB:t.B j with
    |false=>rw[hB]at hg;simp only[gA,VL,zYe,VT,Wh]at hg;simp only[VL,zYe];exact next w c' undef _ E1 hcc mI (I.add R hj ho iI hlt hE aT I.sim (.refl _ _ _) undef 0 (λ_=>by rw[<-hg.1];exact OR) (λ_ h=>by rw[hB]at h;cases h))
    |true=>
     rw[hB]at hg;simp only[gA,zYd]at hg;simp only[zYd];refine .inl ?_;rw[<-Va9 (r:=rho C.G (FJ n ops o (t.T j))) (λx hx=>IV hTn hx)]at hg;have aL:=Vdk (H2:=t.cur c') (by rw[hg];simp);cases hst:CT C o.op (rho C.G (FJ n ops o (t.T j))) (t.cur c')with
     |none=>exact zYf hst aL
     |some pz=>
      obtain⟨z,H'⟩:=pz;obtain⟨B,v,ob,f,rfl,hz,aD,z1,z2,z3⟩:=(VbG I.sim gD hst).ex;rw[aD]at hg;simp only[VT,Wh]at hg;obtain⟨l1,l2⟩:=I.sim.laid ob;unfold Oper.wp;rw[z1,Oper.upon_value];refine next _ c' v _ E1 hcc mI (I.add R hj ho iI hlt hE aT l1 l2 v w.heap.size (λh=>?_) (λ_ _=>⟨rfl,B,f,I.step.size,z2,hg.2.symm,hg.1.symm,z3⟩))
      rcases h with h | h;rw[hA]at h;cases h;rw[hB]at h;cases h
   rw[I4.2 aG]at hE;cases hE

end
def Vdw {C:Cfg}{E:Env}{r:Operand->Ab}{ρ:Operand->Value}{H:Aa}{o:Oper}{z:Ab}(hp:SD o=true)(hr:∀x,A3 E (r x) (ρ x))(h:BR C o.op r H=some z):∃v,A3 E z v/\∀w,(execOp ρ o).run C.P w=.ok (.value v) w:=by
 unfold SD at hp;simp only[VV]at hp;obtain⟨_,hp⟩:=hp;split at hp
 rename_i x aF;simp only[aF,BR,VT]at h;subst h;exact⟨ρ x,hr x,λw=>by simp only[execOp,aF];rfl⟩;rename_i x aF;simp only[aF,BR]at h;exact Vai aF (hr x) h
 ·rename_i s x f aF;simp only[aF,BR]at h;unfold Py at h;split at h
  ·rename_i fd kP;split at h
   cases h
   ·rename_i hk;obtain⟨_,hz,_⟩:=CG (P:=C.P) (t:=fd.type) (by simpa using hk);split at kP
    rename_i fs hu;obtain⟨v,h1,h2⟩:=Uj (C:=C) hu kP hz (hr x) h;exact⟨v,h1,λw=>by simp only[execOp,aF,zXf,h2];rfl⟩;simp at kP
  cases h
 cases hp
def Vif {ops:Array Oper}{perm:zAb}(h:LJ ops perm≠0):Region.noSelect ops=true:=by
 unfold LJ at h;split at h
 ·assumption
 exact zYf rfl h
section
variable {C:Cfg}{ops:Array Oper}{perm:zAb}{t:Tr}{M:Nat}{E0:Env}{H0:Aa}{w0:World}
theorem ViW (hC:Nw C){n:Nat}{out:Res×Aa}{k:List Ab->Aa->Out}{kp:Ab->List Ab->Aa->Out}{Q:Exit->Act->World->Prop}(hk:KOk C n E0 H0 w0 out k (Q .normal))(cV:Vmv C n E0 H0 w0 out kp Q)
  (hQ:∀c a d v w,Q (.panic c) (a.put d v) w->Q (.panic c) a w)
  (R:Ml C ops perm t M)(pS:t.hist 0=[])(gQ:t.cur 0=t.hE 0)(hfin:(M=perm.length/\k (t.T M) (t.cur M)=some out)\/PK C ops (λi j=>((Region.before ops).getD j 0).testBit i) perm kp out t M){a0:Act}(hn:(t.T 0).length=n)(nL:a0.defers=[])(hKM:LJ ops perm<=M):∀(d q:Nat)(done:zAb)(fuel:Nat)(listed:Array Bool)(a:Act)(w:World)(S:Nat->Bool)(cv:Nat->Value)(bo:Nat->Nat)(E:Env),q+d=LJ ops perm->(d=0\/Uc ops (perm.drop q) done=d)->(∀x,x∈done↔S x=true)->(∀(p x:Nat),q<=p->perm[p]? = some x->S x=false)->listed.size=ops.size->(∀i,S i=listed.getD i false)->((List.range ops.size).filter λi=>!listed.getD i true).length<=fuel ->
   Inv C ops perm t M E0 H0 w0 q S cv bo E w->AB E (t.T 0) a0.tmps.toList->a=Do ops S cv perm a0->wpAny C.P .any ops Q fuel listed a w:=by
 intro d
 induction d with
 |zero=>intro q done fuel listed a w S cv bo E Zk _ _ _ hsz hS bX I h0 ha;exact ViX hC hk cV R pS gQ hfin hn nL fuel listed a w q S cv bo E (by omega) hsz hS bX I h0 ha
 |succ d ih=>
  intro q done fuel listed a w S cv bo E Zk hN kR aR hsz hS bX I h0 ha;have hN:=hN.resolve_left (by omega);cases hdr:perm.drop q with
  |nil=>rw[hdr]at hN;simp[Uc]at hN
  |cons i rest=>
   rw[hdr]at hN;have hi:perm[q]? = some i:=(by have:=zYg (·[0]?) hdr;simpa using this);have eD:perm.drop (q+1)=rest:=(by rw[<-WX,hdr];rfl);unfold Uc at hN;cases ho:ops[i]? with
   |none=>rw[ho]at hN;simp at hN
   |some o=>
    rw[ho]at hN;simp only at hN;split at hN
    ·rename_i hc;simp only[VV,WC]at hc;obtain⟨⟨⟨oD,iG⟩,mE⟩,aL⟩:=hc;have hN':Uc ops rest (i::done)=d:=(by omega);have aK:i<ops.size:=(Wz.1 ho).1;have hSi:S i=false:=aR q i (VM _) hi;have aT:∀e∈o.after,Region.binds .any e=true->S e.on=true:=λe he hb=>(by have:=YC.1 iG e he;simp only[hb,Wp,zXo]at this;exact(kR _).1 (by simpa using this));have hlt:q<M:=(by omega);have aM:∀x,x<ops.size->listed.getD x true=S x:=λx hx=>(by rw[hS,Wb,Wb,Xs (by omega)];rfl);obtain⟨i',o',g1,g2,bZ,_,hst⟩:=R.step q hlt;rw[hi]at g1;cases g1;rw[ho]at g2;cases g2;have eX:o.guard=none:=(by unfold SD at oD;simp only[VV]at oD;simpa using oD.1);have mN:cls o.op=.r:=by
      unfold SD at oD;simp only[VV]at oD;have:=oD.2;split at this
      rename_i h;rw[h];rfl
      rename_i h;rw[h];rfl
      rename_i h;rw[h];rfl
      cases this
     have hB:t.B q=true:=(by unfold Io at bZ;rw[eX]at bZ;simpa using bZ.symm);have mF:isE o=false:=(by unfold isE;rw[mN]);have oJ:isA o=false:=(by unfold isA;rw[mN]);rcases hst with ⟨_,hg,_⟩ | ⟨aG,_⟩ | ⟨aG,_⟩
     ·rw[hB]at hg;simp only[gR,zYd]at hg;have lD:∀x,((Region.before ops).getD i 0).testBit x=true->S x=true:=λx hx=>J7 (S:=λx=>S x=true) (λx ox hSx aJ=>I.closed x ox hSx aJ) i x (λox aJ=>by rw[ho]at aJ;cases aJ;exact aT) hx;have hl:=I.looks R h0 hn hi ho (by omega) hSi lD (.inl ⟨rfl,.inr aR⟩);rw[<-ha]at hl;have hTn:=R.tlen hn q (by omega);have gD:=N2 (C:=C) I.glob hl;rw[<-QI (r:=rho C.G (FJ n ops o (t.T q))) (λx hx=>IV hTn hx)]at hg;obtain⟨v,hv,aC⟩:=Vdw oD gD hg;have hy:Yields C.P ops o v a:=.inl ⟨by unfold Region.wanted;rw[eX],aC⟩;have zA:((List.range ops.size).filter λx=>!(listed.setIfInBounds i true).getD x true).length<((List.range ops.size).filter λx=>!listed.getD x true).length:=
       (Qr (p:=λx=>!listed.getD x true) (q:=λx=>!(listed.setIfInBounds i true).getD x true) (i:=i) (by rw[aM i aK,hSi];rfl) (by rw[Wb,WR (by omega)];rfl) (λx hx=>by
        by_cases aI:x=i;subst aI;rw[aM x aK,hSi];rfl
        ·rw[Wb,WM (λh=>aI h.symm),<-Wb]at hx;exact hx) (List.range ops.size)).2 (XN.2 aK)
      cases fuel with
      |zero=>omega
      |succ fuel=>refine wpAny_take ho (Vif (perm:=perm) (by omega)) ?_ ?_ (λc a w h=>hQ c a o.dst v w h) hy ?_;unfold Region.free;rw[ho];simp only;rw[Wf]at aL⊢;intro x hx;have h1:=aL x hx;simp only[WQ]at h1⊢;refine h1.imp (λh=>h.imp id λh=>?_) id;rw[aM x (XN.1 hx)];exact(kR x).1 (by simpa using h);have:i∈Region.ready .any ops listed:=mem_ready.2 ⟨by rw[aM i aK,hSi],o,ho,λe he hb=>by rw[<-hS];exact aT e he hb⟩;simpa using this;have hS':∀x,(if x=i then true else S x)=(listed.setIfInBounds i true).getD x false:=(by intro x;rw[Wb];by_cases hx:x=i;subst hx;rw[WR (by omega)];simp;rw[WM (λh=>hx h.symm),zYb hx,hS,Wb]);have I1:=I.add (o:=o) (bo:=bo) R hi ho (VM _) hlt mF aT I.sim (.refl _ _ _) v 0 (λ_=>hv) (λh=>by rw[oJ]at h;cases h);obtain⟨E',I2,hle⟩:=I1.absorb R hlt hi (by simp);refine ih (q+1) (i::done) fuel _ _ w _ _ _ E' (by omega) (.inr (by rw[eD];exact hN')) (λx=>?_) (λp x hp hx=>?_) (by simp[hsz]) hS' (by omega) I2 (h0.mono hle) ?_;by_cases hx:x=i;simp[hx];simp[hx,kR x];have:x≠i:=λe=>(by subst e;have:=R.inj hx hi;omega);simp only[zYb this];exact aR p x (by omega) hx;rw[Qo (v:=v) hSi perm a0 q hi (λq r x h1 h2=>R.inj h1 h2) (λp x hp hx hSx d hd=>by rw[aR p x (by omega) hx]at hSx;cases hSx),<-ha,Kj ho]
     rw[mN]at aG;cases aG;rw[mN]at aG;cases aG
    omega

end
def Vjt {P:Program}{ops:Array Oper}{Q Q':Exit->Act->World->Prop}{md:Region.Mode}(hQ:∀e a w,Q e a w->Q' e a w):∀(fuel:Nat)(listed:Array Bool)(a:Act)(w:World),wpAny P md ops Q fuel listed a w->wpAny P md ops Q' fuel listed a w:=by
 intro fuel
 induction fuel with
 |zero=>exact λ_ _ _ h=>⟨h.1,hQ _ _ _ h.2⟩
 |succ fuel ih=>
  intro listed a w h;refine⟨λh1=>hQ _ _ _ (h.1 h1),λi hi=>?_⟩;have h2:=h.2 i hi;unfold wpOp at h2⊢;cases ho:ops[i]? with
  |none=>rw[ho]at h2;exact ih _ _ _ h2
  |some o=>
   rw[ho]at h2;simp only at h2⊢;split
   ·rename_i hw;rw[zYc hw]at h2;rcases h2 with h2 | ⟨h2,a2,w2,h3⟩
    ·refine .inl (Oper.wp_mono (λa w h=>ih _ a w h) ?_);unfold Oper.wp at *;generalize (execOp a.eval o).run P w=r at *;cases r with
     |ok v w'=>
      cases v with
      |enter f args=>
       refine Calls.mono (R:=_) h2 λe w2 he=>?_;cases e with
       |returned v=>exact he
       |panicked c=>exact hQ _ _ _ he
       |outgrown=>obtain⟨a2,w3,h3⟩:=he;exact⟨_,w3,hQ _ _ _ h3⟩
      |_=>exact h2
     |halt e w'=>cases e<;>first | exact hQ _ _ _ h2 | exact h2
    exact .inr ⟨h2,_,w2,hQ _ _ _ h3⟩
   rename_i hw;rw[zYb hw]at h2;exact ih _ _ _ h2
def VcV (Q:Exit->Act->World->Prop)(e:Exit)(a:Act)(w:World):Prop:=
 match e with
 |.panic c=>∀a':Act,a'.tmps.size=a.tmps.size->a'.defers=a.defers->Q (.panic c) a' w
 |e=>Q e a w
def Vb7 {Q:Exit->Act->World->Prop}(e:Exit)(a:Act)(w:World)(h:VcV Q e a w):Q e a w:=by cases e<;>first | exact h _ rfl rfl | exact h
theorem VdP {Q:Exit->Act->World->Prop}(c:List PanicEntry)(a:Act)(d:Option Tmp)(v:Value)(w:World)(h:VcV Q (.panic c) (a.put d v) w):VcV Q (.panic c) a w:=
 λa' h1 h2=>h a' (by rw[h1,VbW]) (by rw[h2,O3])
def Vbn {C:Cfg}{pb:Bool}(hC:Nw C){n:Nat}{E0:Env}{H0:Aa}{w0:World}{out:Res×Aa}{ops:Array Oper}{perm:zAb}{k:List Ab->Aa->Out}{kp:Ab->List Ab->Aa->Out}{Q:Exit->Act->World->Prop}{E:Env}{tm:List Ab}{H:Aa}{a:Act}{w:World}
  (hk:KOk C n E0 H0 w0 out k (Q .normal))(cV:Vmv C n E0 H0 w0 out kp Q)(hok:KH ops perm=true)(hG:DS C.G E)(st:Cf E0 H0 w0 E H w)(hf:In n E H tm a w)
  (h:GJ C pb ops (λi j=>((Region.before ops).getD j 0).testBit i) k kp perm [] H H tm=some out):wpAny C.P .any ops Q ops.size (Array.replicate ops.size false) a {w with drawn:=w.drawn+1}:=by
 obtain⟨t,M,q1,q2,q3,q4,q5,q6,q7⟩:=OO perm [] H H tm h;simp only[KH,VV,beq_iff_eq]at hok;obtain⟨⟨hl,cM⟩,hfrom⟩:=hok;have R:Ml C ops perm t M:=by
  refine⟨hl,λi hi=>?_,q5,λx j hx=>?_,q6⟩;have:=Wf.1 cM i (XN.2 hi);simpa using this
  ·obtain⟨oj,y1,y2,y3⟩:=QK perm [] hfrom x j hx;refine⟨oj,y1,λe he hb=>?_,λb i hb hi=>?_⟩
   case refine_2=>obtain⟨oi,z1,z2,z3,z4⟩:=y3 i (.inr ⟨b,hb,hi⟩);exact⟨oi,z1,z2,z3,λha he=>(z4 ha he).imp id λh b' i' hb' aE=>h i' (.inr ⟨b',hb',aE⟩)⟩
   rcases y2 e he hb with h | h;simp at h;exact h
 obtain⟨d1,d2⟩:=hf.sim.drew (w.drawn+1);have hKl:∀(rest done:zAb)(j:Nat),j<Uc ops rest done->∃i o,rest[j]? = some i/\ops[i]? = some o/\SD o=true:=by
  intro rest
  induction rest with
  |nil=>intro done j h;simp[Uc]at h
  |cons i rest ih=>
   intro done j h;unfold Uc at h;cases ho:ops[i]? with
   |none=>rw[ho]at h;simp at h
   |some o=>
    rw[ho]at h;simp only at h;split at h
    ·rename_i hc;simp only[VV]at hc;cases j with
     |zero=>exact⟨i,o,rfl,ho,hc.1.1.1⟩
     |succ j=>obtain⟨i',o',g1,g2⟩:=ih (i::done) j (by omega);exact⟨i',o',by simpa using g1,g2⟩
    omega
 have hKN:LJ ops perm<=Uc ops perm []:=by unfold LJ;split<;>omega
 have hKM:LJ ops perm<=M:=by
  rcases W4 M (LJ ops perm)with h | h
  ·exfalso;obtain⟨i,o,g1,g2,g3⟩:=hKl perm [] M (by omega);rcases q7 with ⟨e,_⟩ | ⟨_,i',o',x,H',e1,e2,e3,_⟩;have:=(VJ.1 g1).1;omega
   ·rw[g1]at e1;cases e1;rw[g2]at e2;cases e2;unfold SD at g3;simp only[VV]at g3;have:=g3.2;split at this<;>rename_i aF<;>first | (rw[aF]at e3;cases e3) | cases this
  exact h
 refine Vjt Vb7 _ _ _ _ ?_;refine ViW (E0:=E0) (H0:=H0) (w0:=w0) (Q:=VcV Q) hC (λE tm H a w h1 h2 h3 h4=>hk E tm H a w h1 h2 h3 h4) (kp:=λv tm H=>chk (∀x∈tm,x=.undef) (kp v tm H)) ?_ VdP R q4 (by rw[q2,q3]) ?_ (a0:=a) (by rw[q1];exact hf.len) hf.defers hKM (LJ ops perm) 0 [] ops.size _ a _ (λ_=>false) (λ_=>undef) (λ_=>0) E (by omega) ?_ (λx=>by simp) (λ_ _ _ _=>rfl) (by simp) (λi=>?_) ?_ ?_ (by rw[q1];exact hf.rel) ?_
 ·intro E1 tm1 H1 a1 w1 x v h1 h2 h3 h4 h5 a' hs hd;simp only[chk]at h5;split at h5
  rename_i hu;refine cV E1 tm1 H1 a' w1 x v h1 h2 ⟨⟨?_,λj y u hy _=>?_⟩,h3.len,by rw[hd];exact h3.defers,h3.sim⟩ h4 h5;have:=h3.rel.1;simp only[Array.length_toList]at this⊢;rw[hs];exact this;rw[hu y (Wo hy)];exact .undef _;cases h5
 rcases q7 with e | ⟨e,i,o,x,H',e1,e2,e3,e4,e5,e6,e7⟩;exact .inl e;refine .inr ⟨e,i,o,x,H',e1,e2,e3,e4,e5,?_,e7⟩;simp only[chk];rw[zYc (λy hy=>by obtain⟨_,_,rfl⟩:=WZ.1 hy;rfl)];exact e6;unfold LJ;split;exact .inr rfl;exact .inl rfl;rw[Wb,Array.getElem?_replicate];split<;>rfl
 exact Wg (Xh _ _) (by simp);refine⟨Wi _,λj i h=>by omega,λj i o _ _ _ h=>(by cases h),λj o h=>(by cases h),hG,by rw[q3];exact st.trans d2,by rw[q3];exact d1,λj i o _ _ h=>(by cases h),λj i o _ _ _ h=>(by cases h),λj i j' i' o o' _ _ _ _ _ _ h=>(by cases h)⟩
 ·have:∀l:zAb,Do ops (λ_=>false) (λ_=>undef) l a=a:=by
   intro l
   induction l with
   |nil=>rfl
   |cons x l ih=>rw[D4];simpa using ih
  exact(this perm).symm
theorem Vg6 {C:Cfg}(hC:Nw C)(hm:C.P.follows .mixedOrders=true):Vdc C:=
 λ_ _ _ _ _ _ _ _ _ _ _ _ _ _ _ _ _ hk cV hok hG st hf h=>wp_region_any hm (Vbn hC hk cV hok hG st hf h)
def QE (v:Ab)(want:Bool):Option Bool:=
 match (some v:Option Ab)with
 |some (.bool b)=>some (b==want)
 |some (.tup [])=>some false
 |_=>none
def gk (c:Ab)(w:Bool)(x:Option Ab)(k:Ab->Out):Out:=(QE c w).bind λb=>(gR b x).bind k
def gkc (c:Ab)(w:Bool)(x:Option Ab)(p:Bool->Ab->Prop)(k:Ab->Out):Out:=(QE c w).bind λb=>(gR b x).bind λv=>chk (p b v) (k v)
def gkA (c:Ab)(w:Bool)(H:Aa)(x:Option (Ab×Aa))(k:Ab->Aa->Out):Out:=(QE c w).bind λb=>Al (gA b H x) k
def gbE (c:Ab)(w:Bool)(H:Aa)(x:Out)(k:Ab->Aa->Out)(kp:Ab->Aa->Out):Out:=(QE c w).bind λb=>Im (gE b H x) k kp
def bC (x:Option Ab)(p:Ab->Prop)(k:Ab->Out):Out:=x.bind λv=>chk (p v) (k v)
def GG (all:Array Oper)(o:Oper)(tm:List Ab):Option (Option (Ab×Bool)):=
 match o.guard with
 |none=>some none
 |some (j,want)=>match (all[j]?).bind (·.dst)with
  |some d=>some (some (tm.getD d .undef,want))
  |none=>none
def RY (all:Array Oper)(o:Oper)(tm:List Ab):Io all o tm=match GG all o tm with
  |none=>none
  |some none=>some true
  |some (some (c,w))=>QE c w:=by
 unfold Io GG;cases o.guard with
 |none=>rfl
 |some p=>obtain⟨j,want⟩:=p;simp only[];cases(all[j]?).bind (·.dst)with|none=>rfl|some d=>simp only[zXb,QE];cases tm.getD d .undef<;>rfl
def stR (g:Option (Option (Ab×Bool)))(x:Option Ab)(k:Ab->Out):Out:=
 match g with
 |none=>none
 |some none=>x.bind k
 |some (some (c,w))=>gk c w x k
def stC (g:Option (Option (Ab×Bool)))(x:Option Ab)(p:Bool->Ab->Prop)(k:Ab->Out):Out:=
 match g with
 |none=>none
 |some none=>bC x (p true) k
 |some (some (c,w))=>gkc c w x p k
def stA (g:Option (Option (Ab×Bool)))(H:Aa)(x:Option (Ab×Aa))(k:Ab->Aa->Out):Out:=
 match g with
 |none=>none
 |some none=>Al x k
 |some (some (c,w))=>gkA c w H x k
def stE (g:Option (Option (Ab×Bool)))(H:Aa)(x:Out)(k:Ab->Aa->Out)(kp:Ab->Aa->Out):Out:=
 match g with
 |none=>none
 |some none=>Im x k kp
 |some (some (c,w))=>gbE c w H x k kp
def Vm6 (o:Oper):Option Operand:=
 match o.guard,o.op with
 |none,.move x=>some x
 |none,.assign x=>some x
 |_,_=>none
def Vf7 {C:Cfg}{o:Oper}{x:Operand}(h:Vm6 o=some x):o.guard=none/\cls o.op=.r/\J9 o.op=false/\∀r H,BR C o.op r H=some (r x):=by
 unfold Vm6 at h;split at h
 rename_i h1 h2;cases h;rw[h2];exact⟨h1,rfl,rfl,λ_ _=>rfl⟩;rename_i h1 h2;cases h;rw[h2];exact⟨h1,rfl,rfl,λ_ _=>rfl⟩;cases h
def Vlj (C:Cfg)(all:Array Oper):List Oper->(List Ab->Aa->Out)->(Ab->List Ab->Aa->Out)->List Ab->Aa->Out
 |[],k,_,tm,H=>k tm H
 |o::rest,k,kp,tm,H=>
  match Vm6 o with
  |some x=>Vlj C all rest k kp (GW tm o.dst (rho C.G tm x)) H
  |none=>
  match cls o.op with
  |.r=>stR (GG all o tm) (BR C o.op (rho C.G tm) H) λv=>Vlj C all rest k kp (GW tm o.dst v) H
  |.a=>stA (GG all o tm) H (CT C o.op (rho C.G tm) H) λv H=>Vlj C all rest k kp (GW tm o.dst v) H
  |.e=>stE (GG all o tm) H (FP C o.op (rho C.G tm) H) (λv H=>Vlj C all rest k kp (GW tm o.dst v) H) (λv H=>kp v tm H)
theorem VjD (C:Cfg)(all:Array Oper)(k:List Ab->Aa->Out)(kp:Ab->List Ab->Aa->Out):∀(os:List Oper)(tm:List Ab)(H:Aa),Pz C all os k kp tm H=Vlj C all os k kp tm H
 |[],tm,H=>rfl
 |o::rest,tm,H=>by
  have ih:=VjD C all k kp rest;unfold Vlj;simp only[Pz];cases hm:Vm6 o with
  |some x=>obtain⟨h1,h2,_,h3⟩:=Vf7 (C:=C) hm;simp only[Io,h1,zXa,h2,gR,zYd,h3,ih]
  |none=>
   rw[RY];cases hg:GG all o tm with
   |none=>cases cls o.op<;>rfl
   |some g=>
    cases g with
    |none=>cases cls o.op<;>simp only[zXa,gR,gA,gE,zYd,stR,stA,stE,ih]
    |some p=>obtain⟨c,w⟩:=p;cases cls o.op<;>simp only[stR,stA,stE,gk,gkA,gbE,ih]
def P7 (C:Cfg)(pb:Bool)(ops:Array Oper)(bf:Nat->Nat->Bool)(k:List Ab->Aa->Out)(kp:Ab->List Ab->Aa->Out):zAb->List (Nat×Aa)->Aa->Aa->List Ab->Out
 |[],_,_,cur,tm=>k tm cur
 |i::rest,hist,hE,cur,tm=>
  match ops[i]? with
  |none=>none
  |some o=>
   match Vm6 o with
   |some x=>P7 C pb ops bf k kp rest hist hE cur (GW tm o.dst (rho C.G tm x))
   |none=>
   match cls o.op with
   |.r=>if J9 o.op then stC (GG ops o tm) (BR C o.op (rho C.G tm) hE) (λw v=>Vkz (λe=>bf e i) (λh=>gR w (BR C o.op (rho C.G tm) h)) v hist) λv=>P7 C pb ops bf k kp rest hist hE cur (GW tm o.dst v)
     else stR (GG ops o tm) (BR C o.op (rho C.G tm) hE) λv=>P7 C pb ops bf k kp rest hist hE cur (GW tm o.dst v)
   |.a=>stA (GG ops o tm) cur (CT C o.op (rho C.G tm) cur) λv H=>P7 C pb ops bf k kp rest hist hE H (GW tm o.dst v)
   |.e=>stE (GG ops o tm) cur (FP C o.op (rho C.G tm) cur) (λv H=>P7 C pb ops bf k kp rest ((i,hE)::hist) H H (GW tm o.dst v)) (λv H=>match rest.all (λj=>pb&&bf i j)with | true=>kp v (tm.map λ_=>.undef) H | false=>none)
theorem Vg7 (C:Cfg)(pb:Bool)(ops:Array Oper)(bf:Nat->Nat->Bool)(k:List Ab->Aa->Out)(kp:Ab->List Ab->Aa->Out):∀(perm:zAb)(hist:List (Nat×Aa)) (hE cur:Aa) (tm:List Ab),GJ C pb ops bf k kp perm hist hE cur tm=P7 C pb ops bf k kp perm hist hE cur tm
 |[],_,_,_,_=>rfl
 |i::rest,hist,hE,cur,tm=>by
  have ih:=Vg7 C pb ops bf k kp rest;unfold P7;simp only[GJ];cases ho:ops[i]? with
  |none=>rfl
  |some o=>
   simp only[];cases hm:Vm6 o with
   |some x=>obtain⟨h1,h2,h4,h3⟩:=Vf7 (C:=C) hm;simp only[Io,h1,zXa,h2,gR,zYd,h3,h4,VL,zYe,ih]
   |none=>
    rw[RY];cases hg:GG ops o tm with
    |none=>cases cls o.op<;>(try rfl);simp only[stR,stC];split<;>rfl
    |some g=>
     cases g with
     |none=>cases hc:cls o.op<;>cases hr:J9 o.op<;>simp only[zXa,gR,gA,gE,zYd,VL,zYe,stR,stC,bC,stA,stE,ih]<;>rfl
     |some p=>obtain⟨c,w⟩:=p;cases hc:cls o.op<;>cases hr:J9 o.op<;>simp only[zYd,VL,zYe,stR,stC,stA,stE,gk,gkc,gkA,gbE,ih]<;>rfl
def ev2 (C:Cfg)(n:Nat):Code->Ann->Rt->List Ab->Aa->Out
 |.skip,_,K,tm,H=>K .normal tm H
 |.label _,_,K,tm,H=>K .normal tm H
 |.ret,_,K,tm,H=>K .ret tm H
 |.exit id,_,K,tm,H=>K (.exit id) tm H
 |.region _ ops false,_,K,tm,H=>Vlj C ops ops.toList (λtm H=>K .normal tm H) (λv tm H=>K (.pan v) tm H) tm H
 |.region _ ops true,.reg perm,K,tm,H=>if KH ops perm then P7 C false ops (λi j=>((Region.before ops).getD j 0).testBit i) (λtm H=>K .normal tm H) (λv tm H=>K (.pan v) tm H) perm [] H H tm else none
 |.region _ ops true,.regp perm,K,tm,H=>if KH ops perm then P7 C true ops (λi j=>((Region.before ops).getD j 0).testBit i) (λtm H=>K .normal tm H) (λv tm H=>K (.pan v) tm H) perm [] H H tm else none
 |.seq a b,.tw x y,K,tm,H=>ev2 C n a x (VjP (λtm H=>ev2 C n b y K tm H) K) tm H
 |.seq a b,.join L x y,K,tm,H=>AL (λj=>ev2 C n a x (VjP (λtm H=>j (IP L tm) H) K) tm H) (λvs H=>ev2 C n b y K (OV n L vs) H)
 |.cond c a b,.tw x y,K,tm,H=>Ai (rho C.G tm c) (ev2 C n a x K tm H) (ev2 C n b y K tm H)
 |.block id a,.one x,K,tm,H=>ev2 C n a x (VfR id K) tm H
 |.loop a,.loop L x,K,tm,H=>An (λrec vs H=>ev2 C n a x (VjP (λtm H=>rec (IP L tm) H) K) (OV n L vs) H) AI (IP L tm) H
 |_,_,_,_,_=>none
def ViV (C:Cfg)(n:Nat):∀(c:Code)(ann:Ann)(K:Rt)(tm:List Ab)(H:Aa),evC C n c ann K tm H=ev2 C n c ann K tm H:=by
 intro c
 induction c with
 |region id ops draw=>intro ann K tm H;cases draw with|false=>simp only[evC,ev2,VjD]|true=>cases ann<;>simp only[evC,ev2,Vg7]
 |seq a b iha ihb=>intro ann K tm H;cases ann<;>simp only[evC,ev2,iha,ihb]
 |cond c a b iha ihb=>intro ann K tm H;cases ann<;>simp only[evC,ev2,iha,ihb]
 |block id a ih=>intro ann K tm H;cases ann<;>simp only[evC,ev2,ih]
 |loop a ih=>intro ann K tm H;cases ann<;>simp only[evC,ev2,ih]
 |_=>intro ann K tm H;cases ann<;>simp only[evC,ev2]
def fn2 (C:Cfg)(fn:Func)(body:Code)(ann:Ann)(m:Fd)(args:List Ab)(H:Aa):Out:=
 ev2 C fn.ntmps body ann (λe tm H'=>match e with
  |.normal=>(FS C fn.results.toList tm H').bind λv=>fin m H (.ret v) H'
  |.ret=>(FS C fn.results.toList tm H').bind λv=>fin m H (.ret v) H'
  |.pan v=>fin m H (.pan v) H'
  |.exit _=>none) (args++List.replicate (fn.ntmps-args.length) .undef) H
def VpH (C:Cfg)(fn:Func)(body:Code)(ann:Ann)(m:Fd)(args:List Ab)(H:Aa):fnA C fn body ann m args H=fn2 C fn body ann m args H:=by unfold fnA fn2;rw[ViV];rfl
def O7 (P:Program)(t:TypeId):Bool:=match P.underlying t with | some (.int _)=>true | _=>false
def Vcv (P:Program)(t:TypeId)(n:Nat):Bool:=match P.underlying t with | some (.array m e)=>O7 P e&&Au P e==1&&m==n&&Au P t==n | _=>false
def eqB (P:Program)(t:TypeId):Bool:=
 !P.eqGuardType P.depth t&&(match P.underlying t with
 |some (.array n _)=>Vcv P t n
 |some (.struct fs)=>(match fs.toList with
  |[f,g]=>f.name != "_" && g.name != "_" && O7 P f.type&&f.offset==0&&g.offset==1 && !P.stoodInHeld t&&(match P.underlying g.type with | some (.array n _)=>Vcv P g.type n&&Au P t==n+1 | _=>false)
  |_=>false)
 |_=>false)
def Vl5 (P:Program)(t:TypeId):Bool:=eqB P t||O7 P t
section
variable {P:Program}
theorem Fs {t:TypeId}(h:O7 P t=true):∃k,P.underlying t=some (.int k):=by
 unfold O7 at h;split at h
 exact⟨_,by assumption⟩;cases h
theorem J2 {t:TypeId}{n:Nat}(h:Vcv P t n=true):∃e k,P.underlying t=some (.array n e)/\P.underlying e=some (.int k)/\Au P e=1/\Au P t=n:=by
 unfold Vcv at h;split at h
 rename_i m e hu;simp only[VV,beq_iff_eq]at h;obtain⟨⟨⟨h1,h2⟩,h3⟩,h4⟩:=h;obtain⟨k,hk⟩:=Fs h1;subst h3;exact⟨e,k,hu,hk,h2,h4⟩;cases h
theorem VfU {t:TypeId}{k:IntKind}(h:P.underlying t=some (.int k))(w:World):(isAgg t).run P w=.ok false w:=by simp[isAgg,zXf,run_underlying h,zXg]
theorem Kb {t:TypeId}{k:IntKind}(h:P.underlying t=some (.int k))(w:World){vs:Array Value}{off:Nat}{v:Value}(hv:vs[off]? = some v):(part t vs off).run P w=.ok v w:=by simp[part,zXf,VfU h,zXg,hv]
theorem QV {E:Env}{a b:Ab}{r:Bool}{u v:Value}(h:HA a b=some r)(ha:A3 E a u)(hb:A3 E b v):∃k x y,a=.int k x/\b=.int k y/\u=.int k x/\v=.int k y/\r=(x==y):=by
 unfold HA at h;split at h
 ·rename_i k x k' y;split at h
  rename_i hk;subst hk;injection h with h;exact⟨k,x,y,rfl,rfl,ha.int_inv,hb.int_inv,h.symm⟩;cases h
 cases h
theorem Qt {t:TypeId}{k:IntKind}(h:P.underlying t=some (.int k))(d:Nat)(j:IntKind)(x y:Int)(w:World):(Op.equalIn (d+1) t (.int j x) (.int j y)).run P w=.ok (x==y) w:=run_equalIn_int w d t j k x y h
theorem Vmk {e:TypeId}{k:IntKind}(he:P.underlying e=some (.int k))(d:Nat)(w:World){E:Env}(xs ys:Array Value):∀(vas bs:List Ab)(s:Nat)(r:Bool),AB E vas (xs.toList.drop s)->AB E bs (ys.toList.drop s)->Cg vas bs=some r ->
  (Op.eqItems (d+1) e 1 xs ys (List.range' s vas.length)).run P w=.ok r w:=by
 intro vas
 induction vas with
 |nil=>intro bs s r h1 h2 h3;cases bs with|nil=>simp only[Cg,VT]at h3;subst h3;simp[Op.eqItems]|cons b bs=>cases h3
 |cons a vas ih=>
  intro bs s r h1 h2 h3;cases bs with
  |nil=>cases h3
  |cons b bs=>
   simp only[Cg]at h3;cases hc:HA a b with
   |none=>simp[hc]at h3
   |some q=>
    simp only[hc,zXa]at h3;cases hr:Cg vas bs with
    |none=>simp[hr]at h3
    |some q2=>
     simp only[hr,zXa,VT]at h3;obtain⟨u,g1,g2⟩:=h1.get (i:=0) (c:=a) rfl;obtain⟨v,g3,g4⟩:=h2.get (i:=0) (c:=b) rfl;obtain⟨j,x,y,rfl,rfl,rfl,rfl,rfl⟩:=QV hc g2 g4;have hx:xs[s]? = some (.int j x):=(by rw[W5]at g1;simpa using g1);have hy:ys[s]? = some (.int j y):=(by rw[W5]at g3;simpa using g3);have t1:AB E vas (xs.toList.drop (s+1)):=by
      have:=h1.drop 1
      rwa [WX]at this
     have t2:AB E bs (ys.toList.drop (s+1)):=by
      have:=h2.drop 1
      rwa [WX]at this
     rw[zXj,YD];simp only[Op.eqItems,Wa,zXf,Kb he w hx,Kb he w hy,zXg,Qt he];cases hxy:(x==y)with|false=>rw[hxy]at h3;simp only[WL]at h3;subst h3;simp|true=>rw[hxy]at h3;simp only[zXn]at h3;subst h3;have:=ih bs (s+1) q2 t1 t2 hr;simp[this]
theorem QU:∀ {vas bs:List Ab} {r:Bool},Cg vas bs=some r->vas.length=bs.length
 |[],[],_,_=>rfl
 |[],_::_,_,h=>by cases h
 |_::_,[],_,h=>by cases h
 |a::vas,b::bs,r,h=>by
  simp only[Cg]at h;cases hc:HA a b with
  |none=>simp[hc]at h
  |some q=>cases hr:Cg vas bs with|none=>simp[hc,hr]at h|some q2=>simp[QU hr]
theorem V0 {t e:TypeId}{k:IntKind}{n:Nat}(hu:P.underlying t=some (.array n e))(he:P.underlying e=some (.int k))(hz:Au P e=1)(d:Nat)(w:World){E:Env}{vas bs:List Ab}{xs ys:Array Value}{r:Bool}(h1:AB E vas xs.toList)(h2:AB E bs ys.toList)(hn:vas.length=n)(h3:Cg vas bs=some r):(Op.equalIn (d+2) t (.agg xs) (.agg ys)).run P w=.ok r w:=by
 obtain⟨i,hi,hsz⟩:=Gn he;have hc:P.cellsOf e=1:=by simp[Program.cellsOf,hi,hsz,hz]
 rw[run_equalIn_array w (d+1) xs ys hu hi,hc,<-hn,Yz];exact Vmk he d w xs ys vas bs 0 r (by simpa using h1) (by simpa using h2) h3
theorem Tu {t:TypeId}(h:eqB P t=true)(d:Nat)(w:World){E:Env}{vas bs:List Ab}{xs ys:Array Value}{r:Bool}(h1:AB E vas xs.toList)(h2:AB E bs ys.toList)(hn:vas.length=Au P t)(h3:Cg vas bs=some r):(Op.equalIn (d+3) t (.agg xs) (.agg ys)).run P w=.ok r w:=by
 unfold eqB at h;simp only[VV]at h;obtain⟨_,h⟩:=h;split at h
 rename_i n e hu;obtain⟨e',k,q1,q2,q3,q4⟩:=J2 h;exact V0 q1 q2 q3 (d+1) w h1 h2 (by rw[hn,q4]) h3
 ·rename_i fs hu;split at h
  ·rename_i f g pW;simp only[VV,bne_iff_ne,ne_eq,beq_iff_eq,WC]at h;obtain⟨⟨⟨⟨⟨⟨hf,hg⟩,dZ⟩,hf0⟩,pT⟩,hst⟩,jK⟩:=h;split at jK
   ·rename_i n e Z1;simp only[VV,beq_iff_eq]at jK;obtain⟨jK,hsz⟩:=jK;obtain⟨e',k,q1,q2,q3,q4⟩:=J2 jK;obtain⟨kf,pR⟩:=Fs dZ;have yU:P.fieldsOf t=fs:=(by simp[Program.fieldsOf,hu]);rw[run_equalIn_struct w (d+2) t xs ys (by rw[yU];exact hu) hst,yU,pW];rw[hsz]at hn;cases vas with
    |nil=>simp at hn
    |cons a vas=>
     cases bs with
     |nil=>cases h3
     |cons b bs=>
      simp only[Cg]at h3;cases hc:HA a b with
      |none=>simp[hc]at h3
      |some q=>
       simp only[hc,zXa]at h3;cases hr:Cg vas bs with
       |none=>simp[hr]at h3
       |some qq=>
        simp only[hr,zXa,VT]at h3;obtain⟨u,g1,g2⟩:=h1.get (i:=0) (c:=a) rfl;obtain⟨v,g3,g4⟩:=h2.get (i:=0) (c:=b) rfl;obtain⟨j,x,y,rfl,rfl,rfl,rfl,rfl⟩:=QV hc g2 g4;have hx:xs[0]? = some (.int j x):=(by simpa using g1);have hy:ys[0]? = some (.int j y):=(by simpa using g3);have hl:vas.length=n:=(by simpa using hn);have cT:xs.size=n+1:=(by have:=h1.1;simp at this;omega);have hlb:vas.length=bs.length:=QU hr;have gO:ys.size=n+1:=(by have:=h2.1;simp at this;omega);have part_arr:∀vs:Array Value,vs.size=n+1->(part g.type vs 1).run P w=.ok (.agg (vs.toList.drop 1).toArray) w:=λvs pJ=>by
         have hagg:(isAgg g.type).run P w=.ok true w:=(by simp[isAgg,zXf,run_underlying q1,zXg]);simp only[part,zXf,hagg,zXg,zYd,Dp q1,q4,Sem.run_pure]
         congr 2
         apply Yu;simp[XU];rw[VW (by simp;omega)]
        have e2:=V0 (P:=P) q1 q2 q3 d w (E:=E) (vas:=vas) (bs:=bs) (xs:=(xs.toList.drop 1).toArray) (ys:=(ys.toList.drop 1).toArray) (by simpa using h1.drop 1) (by simpa using h2.drop 1) hl hr;simp only[Op.eqFields,hf,hg,ne_eq,zYk,zYd,hf0,pT,zXf,Kb pR w hx,Kb pR w hy,zXg,Qt pR];cases hxy:(x==y)with|false=>rw[hxy]at h3;simp only[WL]at h3;subst h3;simp|true=>rw[hxy]at h3;simp only[zXn]at h3;subst h3;cases qq<;>simp[-List.drop_one,zXf,part_arr _ cT,part_arr _ gO,e2]
   cases jK
  cases h
 cases h
theorem Vg1 {t:TypeId}(h:eqB P t=true):P.eqGuardType P.depth t=false:=by unfold eqB at h;simp only[VV,WC]at h;exact h.1

end
section
variable {P:Program}
theorem I6 {t:TypeId}(h:eqB P t=true):BX P t=true/\∃n e,(P.underlying t=some (.array n e))\/∃fs,P.underlying t=some (.struct fs):=by
 unfold eqB at h;simp only[VV]at h;obtain⟨_,h⟩:=h;split at h
 rename_i n e hu;exact⟨by simp[BX,hu],n,e,.inl hu⟩;rename_i fs hu;exact⟨by simp[BX,hu],0,0,.inr ⟨fs,hu⟩⟩;cases h
theorem J1 {t:TypeId}(h:O7 P t=true):BX P t=false:=by obtain⟨k,hk⟩:=Fs h;simp[BX,hk]
inductive Re (P:Program) (E:Env) (t:TypeId) (k:Ab) (kc:List Ab) (v:Value):Prop
 |agg {vs:Array Value} (he:eqB P t=true) (hk:k=.agg kc) (hv:v=.agg vs) (hr:AB E kc vs.toList) (hl:kc.length=Au P t) (ho:kc.all VfT=true)
 |int {K:IntKind} {i:Int} (hi:O7 P t=true) (hk:k=.int K i) (hc:kc=[.int K i]) (hv:v=.int K i)
theorem Vct {E:Env}{t:TypeId}(ht:Vl5 P t=true){k:Ab}{kc:List Ab}{v:Value}(h:Eg (BX P t) (Au P t) k=some kc)(hv:A3 E k v):Re P E t k kc v:=by
 unfold Vl5 at ht;unfold Eg at h;split at h
 ·rename_i a0 k0 cs ha;split at h
  rename_i hl;injection h with h;subst h;obtain⟨vs,rfl,hr⟩:=hv.agg_cells;refine .agg ?_ rfl rfl hr hl.1 hl.2;simp only[WQ]at ht;rcases ht with ht | ht;exact ht;rw[J1 ht]at ha;cases ha;cases h
 rename_i a0 k0 K i ha;injection h with h;subst h;refine .int ?_ rfl rfl hv.int_inv;simp only[WQ]at ht;rcases ht with ht | ht;rw[(I6 ht).1]at ha;cases ha;exact ht;cases h
theorem VfQ {E:Env}{t:TypeId}{k k':Ab}{kc kc':List Ab}{v v':Value}(h:Re P E t k kc v)(h':Re P E t k' kc' v'){b:Bool}(hc:Cg kc kc'=some b)(w:World):(Op.equal t v v').run P w=.ok b w:=by
 cases h with
 |agg he hk hv hr hl ho=>cases h' with|agg dU hk' aQ eQ eT dP=>subst hv;subst aQ;exact Tu he 9997 w hr eQ hl hc|int hi hk' cE aQ=>have:=(I6 he).1;rw[J1 hi]at this;cases this
 |int hi hk hcc hv=>
  cases h' with
  |agg dU hk' aQ eQ eT dP=>have:=(I6 dU).1;rw[J1 hi]at this;cases this
  |int aE hk' hcc' aQ=>
   subst hv;subst aQ;subst hcc;subst hcc';obtain⟨q,hq⟩:=Fs hi;simp only[Cg,HA]at hc;split at hc
   rename_i e;subst e;simp at hc;subst hc;exact Qt hq 9999 _ _ _ w;simp at hc
theorem PB:∀ {vas bs:List Ab},Cg vas bs=some true->vas=bs
 |[],[],_=>rfl
 |[],_::_,h=>by cases h
 |_::_,[],h=>by cases h
 |a::vas,b::bs,h=>by
  simp only[Cg]at h;cases hc:HA a b with
  |none=>simp[hc]at h
  |some q=>
   cases hr:Cg vas bs with
   |none=>simp[hc,hr]at h
   |some q2=>
    simp only[hc,hr,zXa,VT,VV]at h;obtain⟨rfl,rfl⟩:=h;rw[PB hr];unfold HA at hc;split at hc
    ·split at hc
     rename_i e;subst e;simp at hc;subst hc;rfl
     cases hc
    cases hc
theorem Vc9 {w:World}(f:Nat->Sem Unit):∀(l:zAb),(∀i∈l,(f i).run P w=.ok () w)->(forIn l PUnit.unit λi _=>do f i;pure (ForInStep.yield PUnit.unit)).run P w=.ok PUnit.unit w
 |[],_=>by simp
 |i::l,h=>by simp only[List.forIn_cons,zXf,h i (by simp),zXg,Sem.run_pure];exact Vc9 f l λj hj=>h j (by simp[hj])
theorem Q1 {em:Bool}{n:Nat}{t:TypeId}{K:IntKind}(h:P.underlying t=some (.int K))(v:Value)(w:World)(hv:∀(d:TypeId)(x:Value),v≠Value.iface d x):(Instr.checkKey em (n+1) t v).run P w=.ok () w:=by cases v<;>simp[Instr.checkKey,run_underlying h]
theorem V8 {em:Bool}{d n:Nat}{t e:TypeId}{K:IntKind}(hu:P.underlying t=some (.array n e))(he:P.underlying e=some (.int K))(hz:Au P e=1)(vs:Array Value)(hl:vs.size=n)(hv:∀(i:Nat)(v:Value),vs[i]? = some v->∀(d:TypeId)(x:Value),v≠Value.iface d x)(w:World):(Instr.checkKey em (d+2) t (.agg vs)).run P w=.ok () w:=by
 unfold Instr.checkKey;simp only[zXf,run_underlying hu,zXg];simp only[Std.Legacy.Range.forIn_eq_forIn_range',Std.Legacy.Range.size,Nat.sub_zero,Nat.add_one_sub_one,Nat.div_one];have:=Vc9 (P:=P) (w:=w) (λi=>do
  let s ← sizeOf e
  let a ← part e vs (i*s)
  Instr.checkKey em (d+1) e a) (List.range' 0 n) (λi hi=>by have aE:i<vs.size:=(by simp at hi;omega);have hx:vs[i]? = some vs[i]:=(by simp[aE]);simp only[zXf,Gv (P:=P) (t:=e) (by omega),hz,Wa,zXg,Kb he w hx,Q1 he _ w (hv i _ hx)])
 simp at this;simp[this]
def Vcu (kc:List Ab):Bool:=kc.all VfT
theorem Ok {E:Env}{kc:List Ab}(h:Vcu kc=true){vs:List Value}(hr:AB E kc vs)(i:Nat)(v:Value)(hv:vs[i]? = some v):∃K n,v=.int K n:=by
 have hi:i<kc.length:=by have:=(VJ.1 hv).1;have:=hr.1;omega
 have h1:=hr.2 i kc[i] v (VG hi) hv;have h2:=(Wf.1 h) kc[i] (VY hi);revert h1 h2;generalize kc[i]=c;intro h1 h2;cases c<;>first | exact⟨_,_,h1.int_inv⟩ | cases h2
theorem V7 {E:Env}{t:TypeId}{k:Ab}{kc:List Ab}{v:Value}(h:Re P E t k kc v)(em:Bool)(w:World):(Instr.checkKey em 10000 t v).run P w=.ok () w:=by
 cases h with
 |int hi hk hc hv=>subst hv;obtain⟨q,hq⟩:=Fs hi;exact Q1 hq _ w (by simp)
 |agg he hk hv hr hl ho=>
  rename_i vs;subst hv;have hi:Vcu kc=true:=ho;have bT:∀(i:Nat)(v:Value),vs[i]? = some v->∀(d:TypeId)(x:Value),v≠Value.iface d x:=λi v hv d x e=>by obtain⟨K,n,h⟩:=Ok hi hr i v (by simpa using hv);rw[h]at e;cases e
  have hsz:vs.size=Au P t:=by have:=hr.1;simp at this;omega
  unfold eqB at he;simp only[VV]at he;obtain⟨_,he⟩:=he;split at he
  rename_i n e hu;obtain⟨e',q,q1,q2,q3,q4⟩:=J2 he;exact V8 (d:=9998) q1 q2 q3 vs (by omega) bT w
  ·rename_i fs hu;split at he
   ·rename_i f g pW;simp only[VV,bne_iff_ne,ne_eq,beq_iff_eq,WC]at he;obtain⟨⟨⟨⟨⟨⟨hf,hg⟩,dZ⟩,hf0⟩,pT⟩,hst⟩,jK⟩:=he;split at jK
    ·rename_i n e Z1;simp only[VV,beq_iff_eq]at jK;obtain⟨jK,Za⟩:=jK;obtain⟨e',q,q1,q2,q3,q4⟩:=J2 jK;obtain⟨kf,pR⟩:=Fs dZ;have hx:vs[0]? = some (vs[0]'(by omega)):=(by simp);have tT:(part g.type vs 1).run P w=.ok (.agg (vs.toList.drop 1).toArray) w:=by
      have hagg:(isAgg g.type).run P w=.ok true w:=(by simp[isAgg,zXf,run_underlying q1,zXg]);simp only[part,zXf,hagg,zXg,zYd,Dp q1,q4,Sem.run_pure]
      congr 2
      apply Yu;simp[XU];rw[VW (by simp;omega)]
     have c1:=Q1 (P:=P) (em:=em) (n:=9998) pR (vs[0]'(by omega)) w (bT 0 _ hx);have c2:=V8 (P:=P) (em:=em) (d:=9997) q1 q2 q3 (vs.toList.drop 1).toArray (by simp;omega) (λi v hv=>bT (1+i) v (by simpa[-List.drop_one]using hv)) w;unfold Instr.checkKey;simp only[zXf,run_underlying hu,zXg];rw[<-Array.forIn_toList,pW];simp only[List.forIn_cons,List.forIn_nil,hf,hg,ne_eq,zYk,zYd,hf0,pT,zXf,Kb pR w hx,tT,zXg,c1,c2,Sem.run_pure]
    cases jK
   cases he
  cases he
def OJ (E:Env)(es:List (Ab×Ab))(en:List MapEntry):Prop:=en.length=es.length/\∀(i:Nat)(k v:Ab),es[i]? = some (k,v)->∃e,en[i]? = some e/\A3 E k e.key/\A3 E v e.val
theorem OJ.tail {E:Env}{p:Ab×Ab}{es:List (Ab×Ab)}{e:MapEntry}{en:List MapEntry}(h:OJ E (p::es) (e::en)):OJ E es en:=
 ⟨by simpa using h.1,λi k v hi=>by simpa using h.2 (i+1) k v (by simpa using hi)⟩
theorem VcA {E:Env}{t:TypeId}(ht:Vl5 P t=true){k:Ab}{kc:List Ab}{v:Value}(hk:Re P E t k kc v)(w:World):∀(es:List (Ab×Ab)) (en:List MapEntry) (i:Nat) (r:Option Ab),OJ E es en->EZ (BX P t) (Au P t) es kc=some r ->
  ∃res:Option (Nat×Value),(Instr.findAsking t v en i).run P w=.ok res w/\(∀K n,v=.int K n->∀q,P.underlying t=some (.int q)->Instr.findNow (.int q) v en i=some res) /\
   (match res with
   |none=>r=none/\∀x,DH (BX P t) (Au P t) es k kc x=some (es++[(k,x)])
   |some (j,u)=>∃j' k' y,j=i+j'/\es[j']? = some (k',y)/\r=some y/\A3 E y u/\k'=k/\∀x,DH (BX P t) (Au P t) es k kc x=some (es.set j' (k',x)))
 |[],en,i,r,h,hl=>by have:en=[]:=We (by simpa using h.1);subst this;simp only[EZ,VT]at hl;subst hl;exact⟨none,by simp[Instr.findAsking],λ_ _ _ _ _=>by simp[Instr.findNow],rfl,λx=>rfl⟩
 |(k',y)::es,en,i,r,h,hl=>by
  cases en with
  |nil=>have:=h.1;simp at this
  |cons e en=>
   obtain⟨e',h1,h2,h3⟩:=h.2 0 k' y rfl;simp at h1;subst h1;simp only[EZ]at hl;cases iC:Eg (BX P t) (Au P t) k' with
   |none=>simp[iC]at hl
   |some kc'=>
    simp only[iC,zXa]at hl;cases hb:Cg kc kc' with
    |none=>simp[hb]at hl
    |some b=>
     simp only[hb,zXa]at hl;have hk':=Vct ht iC h2;have heq:=VfQ hk hk' hb w;have rB:∀K n,v=.int K n->∀q,Instr.sameNow (.int q) v e.key=some b:=by
      intro K n hv q;cases hk with
      |agg he iU hv0 hr hl0 ho=>rw[hv0]at hv;cases hv
      |int hi iU gQ hv0=>
       cases hk' with
       |agg dU _ _ _ _ _=>have:=(I6 dU).1;rw[J1 hi]at this;cases this
       |int aE jI hc0' hv0'=>
        rw[hv0,hv0'];subst gQ;subst hc0';simp only[Cg,HA]at hb;split at hb
        rename_i ee;subst ee;simp at hb;subst hb;simp[Instr.sameNow];simp at hb
     cases b with
     |true=>
      simp only[zYd,VT]at hl;subst hl;have iB:kc=kc':=PB hb;have hk2:k'=k:=by
       subst iB;cases hk with
       |agg he iU _ _ _ _=>cases hk' with|agg _ jI _ _ _ _=>rw[iU,jI]|int aE _ _ _=>have:=(I6 he).1;rw[J1 aE]at this;cases this
       |int hi iU gQ _=>cases hk' with|agg dU _ _ _ _ _=>have:=(I6 dU).1;rw[J1 hi]at this;cases this|int _ jI hc0' _=>rw[iU,jI];rw[gQ]at hc0';simpa using hc0'.symm
      refine⟨some (i,e.val),by simp[Instr.findAsking,zXf,heq,zXg],λK n hv q _=>by simp[Instr.findNow,rB K n hv q],0,k',y,rfl,rfl,rfl,h3,hk2,λx=>?_⟩;simp only[DH,iC,zXa,hb,zYd,List.set_cons_zero]
     |false=>
      simp only[VL,zYe]at hl;obtain⟨res,r1,r2,r3⟩:=VcA ht hk w es en (i+1) r h.tail hl;refine⟨res,by simp[Instr.findAsking,zXf,heq,zXg,r1],λK n hv q hq=>by simp[Instr.findNow,rB K n hv q,r2 K n hv q hq],?_⟩;cases res with
      |none=>obtain⟨s1,s2⟩:=r3;exact⟨s1,λx=>by simp[DH,iC,hb,s2 x]⟩
      |some p=>obtain⟨j,u⟩:=p;obtain⟨j',k2,y2,s1,s2,s3,s4,s5,s6⟩:=r3;exact⟨j'+1,k2,y2,by omega,by simpa using s2,s3,s4,s5,λx=>by simp[DH,iC,hb,s6 x]⟩
theorem VcB {E:Env}{t:TypeId}(ht:Vl5 P t=true){k:Ab}{kc:List Ab}{v:Value}(hk:Re P E t k kc v)(w:World){es:List (Ab×Ab)}{en:List MapEntry}{r:Option Ab}(h:OJ E es en)(hl:EZ (BX P t) (Au P t) es kc=some r):∃res:Option (Nat×Value),(Instr.findKey t v en).run P w=.ok res w /\
   (match res with
   |none=>r=none/\∀x,DH (BX P t) (Au P t) es k kc x=some (es++[(k,x)])
   |some (j,u)=>∃k' y,es[j]? = some (k',y)/\r=some y/\A3 E y u/\k'=k/\∀x,DH (BX P t) (Au P t) es k kc x=some (es.set j (k',x))):=by
 obtain⟨res,h1,h2,h3⟩:=VcA ht hk w es en 0 r h hl;refine⟨res,?_,?_⟩
 ·cases hk with
  |agg he iU hv0 hr hl0 ho=>obtain⟨_,n,e,hu⟩:=I6 he;rw[run_findKey_eq w (by rcases hu with hu | ⟨fs,hu⟩ <;> simp[hu])];exact h1
  |int hi iU gQ hv0=>obtain⟨q,hq⟩:=Fs hi;simp[Instr.findKey,zXf,run_underlying hq,zXg,h2 _ _ hv0 q hq]
 ·cases res with
  |none=>exact h3
  |some p=>obtain⟨j,u⟩:=p;obtain⟨j',k',y,s1,s2,s3,s4,s5,s6⟩:=h3;have:j=j':=(by omega);subst this;exact⟨k',y,s2,s3,s4,s5,s6⟩

end
section
variable {P:Program}{E:Env}{H:Aa}{w:World}
theorem NE {b:Nat}{en:Array MapEntry}{ck:Nat}(h:w.heap[b]? = some (.map en ck)):(getObj b).run P w=.ok (.map en ck) w:=by simp[getObj,Sem.run,h]
theorem Sm {b:Nat}{en:Array MapEntry}{ck:Nat}{o':Obj}(h:w.heap[b]? = some (.map en ck)):(setObj b o').run P w=.ok () {w with heap:=w.heap.setIfInBounds b o'}:=by simp[setObj,Sem.run,h]
theorem Vpg {t:TypeId}{k:Ab}{kc:List Ab}{v v':Value}(h:Re P E t k kc v)(h':Re P E t k kc v'):(Instr.keyThatStays v' v).run P w=.ok v w:=by
 have hs:Instr.sameBits 10000 v' v=true:=by
  cases h with
  |int hi hk hc hv=>
   cases h' with
   |int _ hk' _ aQ=>rw[hk]at hk';injection hk' with e1 e2;subst hv;subst aQ;subst e1;subst e2;simp[Instr.sameBits]
   |agg dU _ _ _ _ _=>have:=(I6 dU).1;rw[J1 hi]at this;cases this
  |agg he hk hv hr hl ho=>
   rename_i vs;cases h' with
   |int aE _ _ _=>have:=(I6 he).1;rw[J1 aE]at this;cases this
   |agg _ _ aQ eQ _ _=>
    rename_i us _ _ _ _;subst hv;subst aQ;have e:us.toList=vs.toList:=by
     apply Xm;intro i;have l1:=hr.1;have l2:=eQ.1;by_cases hi:i<kc.length
     ·obtain⟨a,a1,a2⟩:=hr.get (VG hi);obtain⟨b,b1,b2⟩:=eQ.get (VG hi);have hii:=Wf.1 ho kc[i] (VY hi);rw[a1,b1];revert a2 b2 hii;generalize kc[i]=c;intro a2 b2 hii;cases c<;>first | (exact(by rw[a2.int_inv,b2.int_inv])) | cases hii
     rw[zYa (by omega),zYa (by omega)]
    have e':us=vs:=Yu e;subst e';simp only[Instr.sameBits,zYj,zXn,Wf];rintro⟨x,y⟩ hxy;obtain⟨i,hi,aI⟩:=Ws hxy;simp only[List.getElem_zip,Wh]at aI;obtain⟨rfl,rfl⟩:=aI;have hlt:i<us.toList.length:=(by simp at hi;simpa using hi);obtain⟨K,n,hKn⟩:=Ok (kc:=kc) ho hr i us.toList[i] (VG hlt);rw[hKn];simp[Instr.sameBits]
 simp[Instr.keyThatStays,hs]
theorem Jy {a:Bool}{n:Nat}{k:Ab}{kc:List Ab}{x:Ab}:∀ {es es':List (Ab×Ab)},DH a n es k kc x=some es'->∃r,EZ a n es kc=some r
 |[],_,_=>⟨none,rfl⟩
 |(k',v)::es,es',h=>by
  simp only[DH]at h;simp only[EZ];cases hk:Eg a n k' with
  |none=>simp[hk]at h
  |some kc'=>
   simp only[hk,zXa]at h⊢;cases hb:Cg kc kc' with
   |none=>simp[hb]at h
   |some b=>
    simp only[hb,zXa]at h⊢;cases b with
    |true=>exact⟨_,rfl⟩
    |false=>simp only[VL,zYe]at h⊢;cases hu:DH a n es k kc x with|none=>simp[hu]at h|some e2=>exact Jy hu
theorem QN (hs:Sim E H w){id:Nat}{es:List (Ab×Ab)}(hH:H[id]? = some (.map es)):∃b en ck,E.φ id 0=some b/\w.heap[b]? = some (.map en ck)/\OJ E es en.toList:=by obtain⟨b,en,ck,h1,h2,h3,h4⟩:=hs.blk id _ hH;refine⟨b,en,ck,h1,h2,by simpa using h3,λi k v hi=>?_⟩;obtain⟨e,q1,q2,q3⟩:=h4 i k v hi;exact⟨e,by simpa using q1,q2,q3⟩
theorem VdT {t:TypeId}{z:Ab}(h:Uz P t=some z):∃v,(zeroValue t).run P w=.ok v w/\A3 E z v:=by
 unfold Uz at h;cases hi:P.info? t with
 |none=>simp[hi]at h
 |some i=>cases hz:i.zero with|none=>simp[hi,hz]at h|some v=>simp[hi,hz]at h;subst h;exact⟨v,Mu hi hz w,VcZ E v⟩
theorem Viy {C:Cfg}(hC:C.key=Vl5 C.P)(t kt e:TypeId)(ok:Bool)(E:Env)(H:Aa)(w:World)(m k z:Ab)(u v:Value)(hu:C.P.underlying t=some (.map kt e))(hk:C.key kt=true)(hs:Sim E H w)(hm:A3 E m u)(hv:A3 E k v)
  (h:FA (BX C.P kt) (Au C.P kt) (Uz C.P e) ok m k H=some z):BL E C.P w (Instr.lookup t u v ok) z:=by
 rw[hC]at hk;unfold FA at h;cases hz:Uz C.P e with
 |none=>simp[hz]at h
 |some z0=>
  simp only[hz,zXa]at h;cases iC:Eg (BX C.P kt) (Au C.P kt) k with
  |none=>simp[iC]at h
  |some kc=>
   simp only[iC,zXa]at h;obtain⟨zv,jA,pH⟩:=VdT (w:=w) (E:=E) hz;have jG:=Vct hk iC hv;split at h
   ·rename_i id;split at h
    ·rename_i es hH;obtain⟨b,en,ck,h1,h2,h3⟩:=QN hs hH;have pO:u=.map (some b):=(by cases hm with | mp hx=>rw[h1]at hx;cases hx;rfl);subst pO;cases hl:EZ (BX C.P kt) (Au C.P kt) es kc with
     |none=>simp[hl]at h
     |some r=>
      obtain⟨res,f1,f2⟩:=VcB hk jG w h3 hl;have nN:=V7 jG en.isEmpty w;simp only[hl,zXb,VT]at h;cases res with
      |none=>obtain⟨rfl,_⟩:=f2;refine⟨if ok then .tuple #[zv,.bool false]else zv,by unfold Instr.lookup;simp[zXf,run_underlying hu,NE h2,nN,f1,jA],?_⟩;subst h;cases ok;exact pH;exact .tup_of (.cons pH (.cons (.bool false) (.nil E)))
      |some p=>obtain⟨j,x⟩:=p;obtain⟨k',y,_,rfl,q2,_,_⟩:=f2;refine⟨if ok then .tuple #[x,.bool true]else x,by unfold Instr.lookup;simp[zXf,run_underlying hu,NE h2,nN,f1],?_⟩;subst h;cases ok;exact q2;exact .tup_of (.cons q2 (.cons (.bool true) (.nil E)))
    cases h
   cases h
theorem Vlv {C:Cfg}(hC:C.key=Vl5 C.P)(t kt e:TypeId)(E:Env)(H H':Aa)(w:World)(m k x:Ab)(u v y:Value)(hu:C.P.underlying t=some (.map kt e))(hk:C.key kt=true)(hs:Sim E H w)(hm:A3 E m u)(hv:A3 E k v)(hx:A3 E x y)
  (h:Ev (BX C.P kt) (Au C.P kt) m k x H=some H'):∃w',(Instr.mapUpdate t u v y).run C.P w=.ok () w'/\Sim E H' w'/\Cf E H w E H' w':=by
 rw[hC]at hk;unfold Ev at h;cases iC:Eg (BX C.P kt) (Au C.P kt) k with
 |none=>simp[iC]at h
 |some kc=>
  simp only[iC,zXa]at h;have jG:=Vct hk iC hv;split at h
  ·rename_i id;split at h
   ·rename_i es hH;obtain⟨b,en,ck,h1,h2,h3⟩:=QN hs hH;have pO:u=.map (some b):=(by cases hm with | mp hx=>rw[h1]at hx;cases hx;rfl);subst pO;have hbl:b<w.heap.size:=(Wz.1 h2).1;cases aM:DH (BX C.P kt) (Au C.P kt) es k kc x with
    |none=>simp[aM]at h
    |some es'=>
     simp only[aM,zXb,VT]at h;subst h;obtain⟨r,hl⟩:=Jy aM;obtain⟨res,f1,f2⟩:=VcB hk jG w h3 hl;have nN:=V7 jG false w;have fin:∀(en':Array MapEntry)(ck':Nat),OJ E es' en'.toList->Sim E (H.set id (.map es')) {w with heap:=w.heap.setIfInBounds b (.map en' ck')}/\Cf E H w E (H.set id (.map es')) {w with heap:=w.heap.setIfInBounds b (.map en' ck')}:=(by intro en' ck' hr;refine hs.upd hH (.refl E) ⟨b,en',ck',h1,by simp[hbl],by simpa using hr.1,λi k v hi=>?_⟩ (λ_ _ _ _ h=>h) (λ_ _ _ _ h=>h) (λy hy hne=>?_) (λ_ _ _=>rfl) (λy o vv hv hcase=>?_) (λy hy=>.inl hy) (λn hB=>by cases hB) rfl rfl rfl (by simp);obtain⟨e,q1,q2,q3⟩:=hr.2 i k v hi;exact⟨e,by simpa using q1,q2,q3⟩;have:b≠y:=λe=>hne (by rw[<-e];exact h1);simp[WM this];exfalso;rcases hcase with hcase | hcase;have:=hs.imm_lt hv;omega;simp only[CE]at hcase;rw[h1]at hcase;cases hcase;have:=hs.imm _ _ _ hv;simp[World.cell?,h2]at this);cases res with
     |none=>
      obtain⟨_,q⟩:=f2;rw[q x]at aM;injection aM with aM;subst aM;obtain⟨s1,s2⟩:=fin (en.push { key:=v,val:=y,born:=ck}) (ck+1) ⟨by simp[h3.1],λi k1 v1 hi=>by
       rw[W7]at hi;rw[Array.toList_push,W7];have hl:=h3.1;split at hi
       rename_i hlt;rw[zYc (by omega)];exact h3.2 i k1 v1 hi
       ·rename_i hlt;rw[zYb (by omega)];cases hq:i-es.length with
        |zero=>rw[hq]at hi;simp at hi;obtain⟨rfl,rfl⟩:=hi;rw[hl,hq];exact⟨_,rfl,hv,hx⟩
        |succ n=>rw[hq]at hi;simp at hi⟩
      refine⟨_,?_,s1,s2⟩;unfold Instr.mapUpdate;simp only[zXf,run_underlying hu,zXg];simp[zXf,NE h2,nN,f1,Sm h2]
     |some p=>
      obtain⟨j,z⟩:=p;obtain⟨k',y0,q1,_,q3,q4,q⟩:=f2;rw[q x]at aM;injection aM with aM;subst aM;subst q4;obtain⟨ej,p1,p2,p3⟩:=h3.2 j k' y0 q1;have sF:=Vct hk iC p2;have tY:j<es.length:=(VJ.1 q1).1;have yW:en[j]? = some ej:=(by simpa using p1);obtain⟨s1,s2⟩:=fin (en.modify j λe=>{e with key:=v,val:=y}) ck ⟨by simp[h3.1],λi k1 v1 hi=>by
       rw[Y9]at hi;rw[Xi,Xr];split at hi
       rename_i hij;subst hij;simp at hi;obtain⟨rfl,rfl⟩:=hi;rw[yW];exact⟨_,by simp;rfl,hv,hx⟩
       ·rename_i hij;rw[zYb (by omega)];obtain⟨e,q1,q2,q3⟩:=h3.2 i k1 v1 hi;exact⟨e,by simpa using q1,q2,q3⟩⟩
      refine⟨_,?_,s1,s2⟩;have hst:=Vpg (w:=w) jG sF;unfold Instr.mapUpdate;simp only[zXf,run_underlying hu,zXg];simp[zXf,NE h2,nN,f1,yW,hst,Sm h2]
   cases h
  cases h

end
def mkC (P:Program)(G:ID)(mu:Bool)(orc:Orc):Cfg:=⟨P,G,eqB P,Vl5 P,mu,orc⟩
theorem Vlr {P:Program}{G:ID}{mu:Bool}{orc:Orc}(ho:G4 P G orc):Nw (mkC P G mu orc):=
 ⟨⟨λt h=>Vg1 h,λt h E vas bs vs us b w h1 h2 h3 h4=>Tu h 9997 w h1 h2 h3 h4⟩,⟨λt kt e ok E H w m k z u v=>Viy rfl t kt e ok E H w m k z u v,λt kt e E H H' w m k x u v y=>Vlv rfl t kt e E H H' w m k x u v y⟩,ho⟩
def Vov (m:Fd)(H0:Aa)(x:Out)(k:Ab->Aa->Out):Out:=Im x k (λv H=>fin m H0 (.pan v) H)
def AH (x:Out)(k:Ab->Aa->Out):Out:=Im x k (λ_ _=>none)
abbrev LK:=List Ab->Aa->Out
def ag (vs:List Ab)(i:Nat):Ab:=vs.getD i .undef
def bK (H0:Aa)(x:Out)(k:Ab->Aa->Out):Out:=Im x k (λv H=>fin .keep H0 (.pan v) H)
def bP (H0:Aa)(x:Out)(k:Ab->Aa->Out):Out:=Im x k (λv H=>fin .pure H0 (.pan v) H)
def rK (H0:Aa)(v:Ab)(H:Aa):Out:=fin .keep H0 (.ret v) H
def rP (H0:Aa)(v:Ab)(H:Aa):Out:=fin .pure H0 (.ret v) H
def rKN (H0:Aa)(v:Ab)(H:Aa):Out:=fin .keepN H0 (.ret v) H
def rPN (H0:Aa)(v:Ab)(H:Aa):Out:=fin .pureN H0 (.ret v) H
def gbK (H0:Aa)(c:Ab)(w:Bool)(H:Aa)(x:Out)(k:Ab->Aa->Out):Out:=gbE c w H x k (λv H=>fin .keep H0 (.pan v) H)
def gbP (H0:Aa)(c:Ab)(w:Bool)(H:Aa)(x:Out)(k:Ab->Aa->Out):Out:=gbE c w H x k (λv H=>fin .pure H0 (.pan v) H)
def gbN (c:Ab)(w:Bool)(H:Aa)(x:Out)(k:Ab->Aa->Out):Out:=gbE c w H x k (λ_ _=>none)
def TZ:List (Option Ab)->Option (List Ab)
 |[]=>some []
 |x::xs=>x.bind λv=>(TZ xs).map (v::·)
def BV (xs:List (Option Ab)):Option Ab:=(TZ xs).map .tup
def Bj (b:Bool)(sz:Nat)(x:Ab)(H:Aa):Option (Ab×Aa):=
 match x.acells with
 |some cs=>if !b\/cs.length≠sz then none else Av (some cs) H
 |none=>none
def Vpw (x:Ab)(H:Aa):Out:=
 match x with
 |.iface t v=>some (.pan (.iface t v),H)
 |_=>none
def DP (orc:Orc)(f:Ab)(args:List Ab)(H:Aa):Out:=
 match f with
 |.fn g caps=>orc g (args++caps) H
 |.bfn g first=>orc g (first++args) H
 |_=>none
def noO:Orc:=λ_ _ _=>none
def ent (g:FuncId)(f:List Ab->Aa->Out)(o:Orc):Orc:=λh a H=>if h=g then f a H else o h a H
def ap0 (f:Aa->Out):List Ab->Aa->Out
 |[],H=>f H
 |_,_=>none
def ap1 (f:Ab->Aa->Out):List Ab->Aa->Out
 |[a],H=>f a H
 |_,_=>none
def ap2 (f:Ab->Ab->Aa->Out):List Ab->Aa->Out
 |[a,b],H=>f a b H
 |_,_=>none
def ap3 (f:Ab->Ab->Ab->Aa->Out):List Ab->Aa->Out
 |[a,b,c],H=>f a b c H
 |_,_=>none
def ap4 (f:Ab->Ab->Ab->Ab->Aa->Out):List Ab->Aa->Out
 |[a,b,c,d],H=>f a b c d H
 |_,_=>none
def ap5 (f:Ab->Ab->Ab->Ab->Ab->Aa->Out):List Ab->Aa->Out
 |[a,b,c,d,e],H=>f a b c d e H
 |_,_=>none
def Ek (fn:Func):Code:=fn.body.getD .skip
def AC (P:Program)(G:ID)(g:FuncId)(f:List Ab->Aa->Out):Prop:=∀args H res H',f args H=some (res,H')->Vhm P G g args H res H'
theorem Aq (P:Program)(G:ID):G4 P G noO:=λg a H res H' h=>by cases h
def Ag {P:Program}{G:ID}{g:FuncId}{f:List Ab->Aa->Out}{o:Orc}(hf:AC P G g f)(ho:G4 P G o):G4 P G (ent g f o):=by
 intro h a H res H' hx;unfold ent at hx;split at hx
 rename_i e;subst e;exact hf a H res H' hx;exact ho h a H res H' hx
def FC {P:Program}{f:FuncId}{fn:Func}(hf:P.funcs[f]? = some fn)(hb:fn.body.isNone=false)(hn:(fn.name == "runtime.NumGoroutine")=false)(vs:Array Value)(w:World):(callFunc f vs).run P w=.ok (.enter f vs) w:=by
 have h2:¬fn.name = "runtime.NumGoroutine" := λh=>by rw[h]at hn;simp at hn
 have h3:¬fn.body=none:=λh=>by rw[h]at hb;cases hb
 simp[callFunc,program,zXf,Sem.run,Result.andThen,hf,h2,h3]
def NG {P:Program}{G:ID}{mu:Bool}{orc:Orc}(ho:G4 P G orc)(hm:P.follows .mixedOrders=true){f:FuncId}{fn:Func}{ann:Ann}{m:Fd}(hf:P.funcs[f]? = some fn)(hb:fn.body.isNone=false)(hn:(fn.name == "runtime.NumGoroutine")=false)
  {args:List Ab}{H:Aa}{res:Res}{H':Aa}(h:fn2 (mkC P G mu orc) fn (Ek fn) ann m args H=some (res,H'))(hl:args.length<=fn.ntmps):Vhm P G f args H res H':=by
 have hb':fn.body=some (Ek fn):=by unfold Ek;cases hx:fn.body with|none=>rw[hx]at hb;cases hb|some b=>rfl
 rw[<-VpH]at h;exact VpG (C:=mkC P G mu orc) (Vlr ho) (Vg6 (Vlr ho) hm) hf hb' (FC hf hb hn) h hl
def fnB (n:Nat)(fn:Func):Bool:=fn.body.isSome && !(fn.name == "runtime.NumGoroutine")&&decide (n<=fn.ntmps)
def FW {n:Nat}{fn:Func}(h:fnB n fn=true):fn.body.isNone=false/\(fn.name == "runtime.NumGoroutine")=false/\n<=fn.ntmps:=by simp only[fnB,VV,WC,zXe]at h;obtain⟨⟨h1,h2⟩,h3⟩:=h;refine⟨?_,h2,h3⟩;cases hx:fn.body with|none=>rw[hx]at h1;cases h1|some b=>rfl
def T0 (P:Program)(G:ID)(mu:Bool)(orc:Orc)(fn:Func)(ann:Ann)(m:Fd)(F:Aa->Out):Prop:=∀H,fn2 (mkC P G mu orc) fn (Ek fn) ann m [] H=F H
def T1 (P:Program)(G:ID)(mu:Bool)(orc:Orc)(fn:Func)(ann:Ann)(m:Fd)(F:Ab->Aa->Out):Prop:=∀a H,fn2 (mkC P G mu orc) fn (Ek fn) ann m [a] H=F a H
def T2 (P:Program)(G:ID)(mu:Bool)(orc:Orc)(fn:Func)(ann:Ann)(m:Fd)(F:Ab->Ab->Aa->Out):Prop:=∀a b H,fn2 (mkC P G mu orc) fn (Ek fn) ann m [a,b] H=F a b H
def T3 (P:Program)(G:ID)(mu:Bool)(orc:Orc)(fn:Func)(ann:Ann)(m:Fd)(F:Ab->Ab->Ab->Aa->Out):Prop:=∀a b c H,fn2 (mkC P G mu orc) fn (Ek fn) ann m [a,b,c] H=F a b c H
def T4 (P:Program)(G:ID)(mu:Bool)(orc:Orc)(fn:Func)(ann:Ann)(m:Fd)(F:Ab->Ab->Ab->Ab->Aa->Out):Prop:=∀a b c d H,fn2 (mkC P G mu orc) fn (Ek fn) ann m [a,b,c,d] H=F a b c d H
def T5 (P:Program)(G:ID)(mu:Bool)(orc:Orc)(fn:Func)(ann:Ann)(m:Fd)(F:Ab->Ab->Ab->Ab->Ab->Aa->Out):Prop:=∀a b c d e H,fn2 (mkC P G mu orc) fn (Ek fn) ann m [a,b,c,d,e] H=F a b c d e H
section
variable {P:Program}{G:ID}{mu:Bool}{orc:Orc}{f:FuncId}{fn:Func}{ann:Ann}{m:Fd}
theorem Vob (hm:P.follows .mixedOrders=true)(ho:G4 P G orc){F:Aa->Out}(hf:P.funcs[f]? = some fn)(hb:fnB 0 fn=true)(h:T0 P G mu orc fn ann m F):AC P G f (ap0 F):=by
 obtain⟨b1,b2,b3⟩:=FW hb;intro args H res H' hx;unfold ap0 at hx;split at hx
 exact NG ho hm hf b1 b2 (by rw[h];exact hx) b3;cases hx
theorem VjV (hm:P.follows .mixedOrders=true)(ho:G4 P G orc){F:Ab->Aa->Out}(hf:P.funcs[f]? = some fn)(hb:fnB 1 fn=true)(h:T1 P G mu orc fn ann m F):AC P G f (ap1 F):=by
 obtain⟨b1,b2,b3⟩:=FW hb;intro args H res H' hx;unfold ap1 at hx;split at hx
 exact NG ho hm hf b1 b2 (by rw[h];exact hx) b3;cases hx
theorem Qp (hm:P.follows .mixedOrders=true)(ho:G4 P G orc){F:Ab->Ab->Aa->Out}(hf:P.funcs[f]? = some fn)(hb:fnB 2 fn=true)(h:T2 P G mu orc fn ann m F):AC P G f (ap2 F):=by
 obtain⟨b1,b2,b3⟩:=FW hb;intro args H res H' hx;unfold ap2 at hx;split at hx
 exact NG ho hm hf b1 b2 (by rw[h];exact hx) b3;cases hx
theorem Vgs (hm:P.follows .mixedOrders=true)(ho:G4 P G orc){F:Ab->Ab->Ab->Aa->Out}(hf:P.funcs[f]? = some fn)(hb:fnB 3 fn=true)(h:T3 P G mu orc fn ann m F):AC P G f (ap3 F):=by
 obtain⟨b1,b2,b3⟩:=FW hb;intro args H res H' hx;unfold ap3 at hx;split at hx
 exact NG ho hm hf b1 b2 (by rw[h];exact hx) b3;cases hx
theorem Vcf {F:Ab->Ab->Ab->Aa->Out}(h:∀a b c H,F a b c H=none):AC P G f (ap3 F):=by
 intro args H res H' hx;unfold ap3 at hx;split at hx
 rw[h]at hx;cases hx;cases hx
theorem VjU (hm:P.follows .mixedOrders=true)(ho:G4 P G orc){F:Ab->Ab->Ab->Ab->Aa->Out}(hf:P.funcs[f]? = some fn)(hb:fnB 4 fn=true)(h:T4 P G mu orc fn ann m F):AC P G f (ap4 F):=by
 obtain⟨b1,b2,b3⟩:=FW hb;intro args H res H' hx;unfold ap4 at hx;split at hx
 exact NG ho hm hf b1 b2 (by rw[h];exact hx) b3;cases hx
theorem Tl (hm:P.follows .mixedOrders=true)(ho:G4 P G orc){F:Ab->Ab->Ab->Ab->Ab->Aa->Out}(hf:P.funcs[f]? = some fn)(hb:fnB 5 fn=true)(h:T5 P G mu orc fn ann m F):AC P G f (ap5 F):=by
 obtain⟨b1,b2,b3⟩:=FW hb;intro args H res H' hx;unfold ap5 at hx;split at hx
 exact NG ho hm hf b1 b2 (by rw[h];exact hx) b3;cases hx
theorem Pa {F:Ab->Ab->Ab->Ab->Ab->Aa->Out}(h:∀a b c d e H,F a b c d e H=none):AC P G f (ap5 F):=by
 intro args H res H' hx;unfold ap5 at hx;split at hx
 rw[h]at hx;cases hx;cases hx

end
def TR {α:Type}:Code->Nat->List (zAb)->(Ann->Nat->List (zAb)->α)->α
 |.region _ ops true,c,L,k=>(match L with
  |[]::L=>k (.reg (List.range ops.size)) c L
  |(x::l)::L=>(match Nat.beq x ops.size with
   |true=>k (.regp l) c L
   |false=>k (.reg (x::l)) c L)
  |[]=>k .lf c [])
 |.seq a b,c,L,k=>(match L with
  |(x::l)::L'=>(match Nat.beq x (1000000+c)with
   |true=>TR a (c+1) L' λp c L=>TR b c L λq c L=>k (.join l p q) c L
   |false=>TR a (c+1) L λp c L=>TR b c L λq c L=>k (.tw p q) c L)
  |_=>TR a (c+1) L λp c L=>TR b c L λq c L=>k (.tw p q) c L)
 |.cond _ a b,c,L,k=>TR a (c+1) L λp c L=>TR b c L λq c L=>k (.tw p q) c L
 |.block _ a,c,L,k=>TR a c L λp c L=>k (.one p) c L
 |.loop a,c,L,k=>(match L with
  |l::L=>TR a c L λp c L=>k (.loop l p) c L
  |[]=>k .lf c [])
 |_,c,L,k=>k .lf c L
def Vmn (b:Code)(L:List (zAb)):Ann:=TR b 0 L λa _ _=>a
section
variable {P:Program}{G:ID}{orc:Orc}{f:FuncId}{fn:Func}
theorem mk0 (m:Fd)(ho:G4 P G orc)(L:List (zAb))(hf:P.funcs[f]? = some fn){F:Aa->Out}(hm:P.follows .mixedOrders=true:=by kernel_rfl)(hb:fnB 0 fn=true:=by kernel_rfl)(h:T0 P G false orc fn (Vmn (Ek fn) L) m F:=by unfold T0;intros;kernel_rfl):AC P G f (ap0 F):=Vob hm ho hf hb h
theorem mk1 (m:Fd)(ho:G4 P G orc)(L:List (zAb))(hf:P.funcs[f]? = some fn){F:Ab->Aa->Out}(hm:P.follows .mixedOrders=true:=by kernel_rfl)(hb:fnB 1 fn=true:=by kernel_rfl)(h:T1 P G false orc fn (Vmn (Ek fn) L) m F:=by unfold T1;intros;kernel_rfl):AC P G f (ap1 F):=VjV hm ho hf hb h
theorem mv1 (m:Fd)(ho:G4 P G orc)(L:List (zAb))(hf:P.funcs[f]? = some fn){F:Ab->Aa->Out}(hm:P.follows .mixedOrders=true:=by kernel_rfl)(hb:fnB 1 fn=true:=by kernel_rfl)(h:T1 P G true orc fn (Vmn (Ek fn) L) m F:=by unfold T1;intros;kernel_rfl):AC P G f (ap1 F):=VjV hm ho hf hb h
theorem mk2 (m:Fd)(ho:G4 P G orc)(L:List (zAb))(hf:P.funcs[f]? = some fn){F:Ab->Ab->Aa->Out}(hm:P.follows .mixedOrders=true:=by kernel_rfl)(hb:fnB 2 fn=true:=by kernel_rfl)(h:T2 P G false orc fn (Vmn (Ek fn) L) m F:=by unfold T2;intros;kernel_rfl):AC P G f (ap2 F):=Qp hm ho hf hb h
theorem mk3 (m:Fd)(ho:G4 P G orc)(L:List (zAb))(hf:P.funcs[f]? = some fn){F:Ab->Ab->Ab->Aa->Out}(hm:P.follows .mixedOrders=true:=by kernel_rfl)(hb:fnB 3 fn=true:=by kernel_rfl)(h:T3 P G false orc fn (Vmn (Ek fn) L) m F:=by unfold T3;intros;kernel_rfl):AC P G f (ap3 F):=Vgs hm ho hf hb h
theorem mk4 (m:Fd)(ho:G4 P G orc)(L:List (zAb))(hf:P.funcs[f]? = some fn){F:Ab->Ab->Ab->Ab->Aa->Out}(hm:P.follows .mixedOrders=true:=by kernel_rfl)(hb:fnB 4 fn=true:=by kernel_rfl)(h:T4 P G false orc fn (Vmn (Ek fn) L) m F:=by unfold T4;intros;kernel_rfl):AC P G f (ap4 F):=VjU hm ho hf hb h
theorem mk5 (m:Fd)(ho:G4 P G orc)(L:List (zAb))(hf:P.funcs[f]? = some fn){F:Ab->Ab->Ab->Ab->Ab->Aa->Out}(hm:P.follows .mixedOrders=true:=by kernel_rfl)(hb:fnB 5 fn=true:=by kernel_rfl)(h:T5 P G false orc fn (Vmn (Ek fn) L) m F:=by unfold T5;intros;kernel_rfl):AC P G f (ap5 F):=Tl hm ho hf hb h

end
abbrev A6:TypeId:=48
abbrev AO:TypeId:=169
abbrev Cs:TypeId:=4
abbrev Ch:TypeId:=147
abbrev G8:TypeId:=3
abbrev Jr:TypeId:=127
abbrev DE:TypeId:=9
abbrev BJ:TypeId:=96
def Gs:ID:=λ_=>none
section
variable {m:Fd}{H0 H G:Aa}{k:Ab->Aa->Out}
@[simp] theorem Vot (v:Ab):Vov m H0 (some (.ret v,H)) k=k v H:=(rfl)
@[simp] theorem IJ (v:Ab):AH (some (.ret v,H)) k=k v H:=(rfl)
@[simp] theorem Vou (v:Ab):Vov m H0 (some (.pan v,H)) k=fin m H0 (.pan v) H:=(rfl)
@[simp] theorem BD (v:Ab):Al (some (v,H)) k=k v H:=(rfl)
@[simp] theorem Vmz (b w:Bool):QE (.bool b) w=some (b==w):=(rfl)
@[simp] theorem Vmy (w:Bool):QE (.tup []) w=some false:=(rfl)
@[simp] theorem Vbf (x:Option Ab):gR true x=x:=(rfl)
@[simp] theorem Pu (x:Option Ab):gR false x=some C9:=(rfl)
@[simp] theorem VpD (x:Out):gE true H x=x:=(rfl)
@[simp] theorem VoN (x:Out):gE false H x=some (.ret C9,H):=(rfl)
@[simp] theorem VpE (x:Option (Ab×Aa)):gA true H x=x:=(rfl)
@[simp] theorem VoO (x:Option (Ab×Aa)):gA false H x=some (C9,H):=(rfl)
@[simp] theorem CN (a b:Ab):Ay (.bool true) a b=some a:=(rfl)
@[simp] theorem CI (a b:Ab):Ay (.bool false) a b=some b:=(rfl)
@[simp] theorem Bb (a b:Out):Ai (.bool true) a b=a:=(rfl)
@[simp] theorem AM (a b:Out):Ai (.bool false) a b=b:=(rfl)
@[simp] theorem VoQ (r:Res):fin .keep H0 r H=some (r,H):=(rfl)
theorem E8 {v:Ab}(h:H.take H0.length=H0):fin .pure H0 (.ret v) H=(frz H H0.length 8 v).map λv=>(.ret v,H0):=by simp only[fin,chk,h,zYd]
@[simp] theorem Vas {K:IntKind}{n:Int}:fin .pure H0 (.ret (.int K n)) (H0++G)=some (.ret (.int K n),H0):=by rw[E8 (by simp)];simp[frz]
@[simp] theorem Ui {b:Bool}:fin .pure H0 (.ret (.bool b)) (H0++G)=some (.ret (.bool b),H0):=by rw[E8 (by simp)];simp[frz]
@[simp] theorem Var {s:zAa}:fin .pure H0 (.ret (.str s)) (H0++G)=some (.ret (.str s),H0):=by rw[E8 (by simp)];simp[frz]
@[simp] theorem Uh {K:IntKind}{n:Int}:fin .pure H0 (.ret (.int K n)) H0=some (.ret (.int K n),H0):=by rw[E8 (by simp)];simp[frz]
@[simp] theorem To {b:Bool}:fin .pure H0 (.ret (.bool b)) H0=some (.ret (.bool b),H0):=by rw[E8 (by simp)];simp[frz]
@[simp] theorem Ug {s:zAa}:fin .pure H0 (.ret (.str s)) H0=some (.ret (.str s),H0):=by rw[E8 (by simp)];simp[frz]
@[simp] theorem VeE (v:Ab):Vqf (some v) H=some (.ret v,H):=(rfl)
@[simp] theorem IG:As (some H)=some (.ret .undef,H):=(rfl)
@[simp] theorem Hn (v:Ab):Cd (some (v,H))=some (.ret v,H):=(rfl)

end
section
variable {ek:EqK}{k:IntKind}{a b:Int}
@[simp] theorem D9:Af ek .add (.int k a) (.int k b)=some (.int k (k.wrap (a+b))):=by simp[Af,D7,FK]
@[simp] theorem EF:Af ek .sub (.int k a) (.int k b)=some (.int k (k.wrap (a-b))):=by simp[Af,D7,FK]
@[simp] theorem RV:Af ek .mul (.int k a) (.int k b)=some (.int k (k.wrap (a*b))):=by simp[Af,D7,FK]
@[simp] theorem Fc:Af ek .eql (.int k a) (.int k b)=some (.bool (a==b)):=by simp[Af,D7,FK]
@[simp] theorem NQ:Af ek .neq (.int k a) (.int k b)=some (.bool (a != b)):=by simp[Af,D7,FK]
@[simp] theorem Bz:Af ek .lss (.int k a) (.int k b)=some (.bool (decide (a<b))):=by simp[Af,D7,FK]
@[simp] theorem VgY:Af ek .leq (.int k a) (.int k b)=some (.bool (decide (a<=b))):=by simp[Af,D7,FK]
@[simp] theorem FD:Af ek .gtr (.int k a) (.int k b)=some (.bool (decide (a>b))):=by simp[Af,D7,FK]
@[simp] theorem RW:Af ek .geq (.int k a) (.int k b)=some (.bool (decide (a>=b))):=by simp[Af,D7,FK]
variable {s u:zAa}
@[simp] theorem Kz:Af ek .eql (.str s) (.str u)=some (.bool (s==u)):=(rfl)
@[simp] theorem VoY:Af ek .neq (.str s) (.str u)=some (.bool (!(s==u))):=(rfl)
@[simp] theorem Sa {c:Bool}:unA .not (.bool c)=some (.bool (!c)):=(rfl)
@[simp] theorem CW:BG (.str s)=some (.i6 s.length):=(rfl)
@[simp] theorem Vqg {es:List (List Ab)}{tk:Tok}:A9 (.sl es tk)=some (.i6 es.length):=(rfl)
@[simp] theorem VjJ {id g off len cap sz:Nat}{ex:Bool}:A9 (.ms id g off len cap sz ex)=some (.i6 len):=(rfl)
@[simp] theorem Aj {off id g o:Nat}:Ac off (.ptr id g o)=some (.ptr id g (o+off)):=(rfl)
@[simp] theorem A2 {off o:Nat}{cs:List Ab}:Ac off (.cptr cs o)=some (.cptr cs (o+off)):=(rfl)

end
section
variable {H0 H:Aa}{k:Ab->Aa->Out}{kv:Ab->Out}
@[simp] theorem At (v:Ab)(l:List Ab):ag (v::l) 0=v:=(rfl)
@[simp] theorem Ak (v:Ab)(l:List Ab)(i:Nat):ag (v::l) (i+1)=ag l i:=(rfl)
@[simp] theorem FE (a v:Ab)(l:List Ab):ag (a::v::l) 1=v:=(rfl)
@[simp] theorem Gb (a b v:Ab)(l:List Ab):ag (a::b::v::l) 2=v:=(rfl)
@[simp] theorem Mj (a b c v:Ab)(l:List Ab):ag (a::b::c::v::l) 3=v:=(rfl)
@[simp] theorem Od (a b c d v:Ab)(l:List Ab):ag (a::b::c::d::v::l) 4=v:=(rfl)
@[simp] theorem Vkj (a b c d e v:Ab)(l:List Ab):ag (a::b::c::d::e::v::l) 5=v:=(rfl)
@[simp] theorem Il (v:Ab):bK H0 (some (.ret v,H)) k=k v H:=(rfl)
@[simp] theorem Ds (v:Ab):bP H0 (some (.ret v,H)) k=k v H:=(rfl)
@[simp] theorem UX (v:Ab):rK H0 v H=some (.ret v,H):=(rfl)
theorem UW (v:Ab)(h:H.take H0.length=H0):rP H0 v H=(frz H H0.length 8 v).map λv=>(.ret v,H0):=E8 h
@[simp] theorem Ih {G:Aa}{K:IntKind}{n:Int}:rP H0 (.int K n) (H0++G)=some (.ret (.int K n),H0):=Vas
@[simp] theorem Ey {G:Aa}{b:Bool}:rP H0 (.bool b) (H0++G)=some (.ret (.bool b),H0):=Ui
@[simp] theorem VeL {G:Aa}{s:zAa}:rP H0 (.str s) (H0++G)=some (.ret (.str s),H0):=Var
@[simp] theorem Vpu {K:IntKind}{n:Int}:rP H0 (.int K n) H0=some (.ret (.int K n),H0):=Uh
@[simp] theorem VoH {b:Bool}:rP H0 (.bool b) H0=some (.ret (.bool b),H0):=To
@[simp] theorem Vpt {s:zAa}:rP H0 (.str s) H0=some (.ret (.str s),H0):=Ug
@[simp] theorem J3 (x:Option Ab):gk (.bool true) true x kv=x.bind kv:=(rfl)
@[simp] theorem VnM (x:Option Ab):gk (.bool true) false x kv=kv C9:=(rfl)
@[simp] theorem QR (x:Option Ab):gk (.bool false) true x kv=kv C9:=(rfl)
@[simp] theorem QS (x:Option Ab):gk (.bool false) false x kv=x.bind kv:=(rfl)
@[simp] theorem Vp9 (w:Bool)(x:Option Ab):gk (.tup []) w x kv=kv C9:=(rfl)
@[simp] theorem VpC (w:Bool)(x:Out):gbK H0 (.tup []) w H x k=k C9 H:=(rfl)
@[simp] theorem VpA (w:Bool)(x:Out):gbP H0 (.tup []) w H x k=k C9 H:=(rfl)
@[simp] theorem VpB (w:Bool)(x:Out):gbN (.tup []) w H x k=k C9 H:=(rfl)
@[simp] theorem VnX (x:Out):gbK H0 (.bool true) true H x k=bK H0 x k:=(rfl)
@[simp] theorem VnY (x:Out):gbK H0 (.bool true) false H x k=k C9 H:=(rfl)
@[simp] theorem VnZ (x:Out):gbK H0 (.bool false) true H x k=k C9 H:=(rfl)
@[simp] theorem Voa (x:Out):gbK H0 (.bool false) false H x k=bK H0 x k:=(rfl)
@[simp] theorem VnP (x:Out):gbP H0 (.bool true) true H x k=bP H0 x k:=(rfl)
@[simp] theorem VnQ (x:Out):gbP H0 (.bool true) false H x k=k C9 H:=(rfl)
@[simp] theorem VnR (x:Out):gbP H0 (.bool false) true H x k=k C9 H:=(rfl)
@[simp] theorem VnS (x:Out):gbP H0 (.bool false) false H x k=bP H0 x k:=(rfl)
@[simp] theorem VnT (x:Out):gbN (.bool true) true H x k=AH x k:=(rfl)
@[simp] theorem VnU (x:Out):gbN (.bool true) false H x k=k C9 H:=(rfl)
@[simp] theorem VnV (x:Out):gbN (.bool false) true H x k=k C9 H:=(rfl)
@[simp] theorem VnW (x:Out):gbN (.bool false) false H x k=AH x k:=(rfl)

end
def Am {n:Int}(h0:-9223372036854775808<=n)(h:n<=9223372036854775807):I_.wrap n=n:=by have h1:I_.bits=64:=(rfl);have h2:I_.signed=true:=(rfl);unfold IntKind.wrap;simp only[h1,h2,zXn,zXe];split<;>omega
theorem Bx {G:LK->LK}(n:Nat)(vs:List Ab)(H:Aa):An G (n+1) vs H=G (An G n) vs H:=(rfl)
def Dx {G:(List Ab->Aa->Out)->List Ab->Aa->Out}{n:Nat}(h:0<n)(vs:List Ab)(H:Aa):An G n vs H=G (An G (n-1)) vs H:=by cases n with|zero=>omega|succ n=>rfl
def Eh:0<AI:=by rw[Cw];decide
def Bf {σ:Type}{G:LK->LK}(Inv:σ->Prop)(st:σ->List Ab)(hp:σ->Aa)(μ:σ->Nat)(res:σ->Out)
  (step:∀(s:σ)(rec:LK),Inv s->(∀s',Inv s'->μ s'<μ s->rec (st s') (hp s')=res s')->G rec (st s) (hp s)=res s)
  (s:σ)(hs:Inv s)(hm:μ s<1152921504606846976):An G AI (st s) (hp s)=res s:=by
 have key:∀(n:Nat)(s:σ),Inv s->μ s<n->An G n (st s) (hp s)=res s:=by
  intro n
  induction n with
  |zero=>intro s _ h;omega
  |succ n ih=>intro s hi h;rw[Bx];exact step s _ hi λs' aE h'=>ih s' aE (by omega)
 exact key AI s hs (by rw[Cw];exact hm)
def Ct {G:LK->LK}(N:Nat)(st:Nat->List Ab)(hp:Nat->Aa)(out:Out)(hN:N<1152921504606846976)
  (turn:∀(rec:LK)(i:Nat),i<N->G rec (st i) (hp i)=rec (st (i+1)) (hp (i+1)))(last:∀rec:LK,G rec (st N) (hp N)=out):An G AI (st 0) (hp 0)=out:=by
 refine Bf (σ:=Nat) (λi=>i<=N) st hp (λi=>N-i) (λ_=>out) (λi rec hi hrec=>?_) 0 (Wi _) (by omega);by_cases h:i<N;rw[turn rec i h];exact hrec (i+1) h (by omega)
 ·have:i=N:=by omega
  subst this;exact last rec
def Fp {G:LK->LK}(N:Nat)(I:Nat->List Ab->Aa->Prop)(hN:N<1152921504606846976)
  (turn:∀(i:Nat)(vs:List Ab)(H:Aa),i<N->I i vs H->∃vs' H',I (i+1) vs' H'/\∀rec:LK,G rec vs H=rec vs' H')
  {vs:List Ab}{H:Aa}(h0:I 0 vs H):∃vs' H',I N vs' H'/\∃rec,An G AI vs H=G rec vs' H':=by
 have key:∀(d i:Nat)(n:Nat)(vs:List Ab)(H:Aa),i+d=N->d<n->I i vs H->∃vs' H',I N vs' H'/\∃rec,An G n vs H=G rec vs' H':=by
  intro d
  induction d with
  |zero=>intro i n vs H hi hn hI;cases n with|zero=>omega|succ n=>exact⟨vs,H,by have:i=N:=(by omega);rw[<-this];exact hI,An G n,Bx n vs H⟩
  |succ d ih=>
   intro i n vs H hi hn hI;cases n with
   |zero=>omega
   |succ n=>obtain⟨vs1,H1,h1,h2⟩:=turn i vs H (by omega) hI;obtain⟨vs2,H2,h3,rec,h4⟩:=ih (i+1) n vs1 H1 (by omega) (by omega) h1;exact⟨vs2,H2,h3,rec,by rw[Bx,h2,h4]⟩
 exact key N 0 AI vs H (by omega) (by rw[Cw];exact hN) h0
theorem Vgl (k:Nat)(hk:k<1152921504606846976):∃n,AI=n+k:=⟨1152921504606846976-k,by rw[Cw];omega⟩
def DW {n:Int}(h0:0<=n)(h:n<256):J_.wrap n=n:=by have h1:J_.bits=8:=rfl;have h2:J_.signed=false:=rfl;unfold IntKind.wrap;simp only[h1,h2,WL,VL,zYe];omega
def CX {n:Int}(h0:0<=n)(h:n<4294967296):K_.wrap n=n:=by have h1:K_.bits=32:=rfl;have h2:K_.signed=false:=rfl;unfold IntKind.wrap;simp only[h1,h2,WL,VL,zYe];omega
def BT {n:Int}(h0:0<=n)(h:n<18446744073709551616):IntKind.u64.wrap n=n:=by have h1:IntKind.u64.bits=64:=rfl;have h2:IntKind.u64.signed=false:=rfl;unfold IntKind.wrap;simp only[h1,h2,WL,VL,zYe];omega
@[simp] theorem wr0:I_.wrap 0=0:=by decide
@[simp] theorem wr1:I_.wrap 1=1:=by decide
@[simp] theorem wr2:I_.wrap 2=2:=by decide
@[simp] theorem wr3:I_.wrap 3=3:=by decide
@[simp] theorem wr4:I_.wrap 4=4:=by decide
@[simp] theorem Vq9:I_.wrap (-1) = -1:=by decide
@[simp] theorem Vq8:I_.wrap (-2) = -2:=by decide
theorem HL {ek:EqK}{k:IntKind}{a b:Int}(h:b≠0):Af ek .rem (.int k a) (.int k b)=some (.int k (a.tmod b)):=by simp[Af,D7,FK,h]
def NP {ek:EqK}{k:IntKind}{a b:Int}(h:b≠0):Af ek .quo (.int k a) (.int k b)=some (.int k (k.wrap (a.tdiv b))):=by simp[Af,D7,FK,h]
@[simp] theorem VoZ {ek:EqK}{k:IntKind}{a:Nat}{b:Nat}[h:NeZero b]:Af ek .rem (.int k (a:Int)) (.int k (b:Int))=some (.int k ((a%b:Nat):Int)):=by rw[HL (by have:=h.out;omega)];rfl
theorem AV {k k':IntKind}{n:Int}:A5 k (.int k' n)=some (.int k (k.wrap n)):=(rfl)
def Jh (p q:Bool):Af .bool .eql (.bool p) (.bool q)=some (.bool (p==q)):=by cases p<;>cases q<;>rfl
def Vjs (p q:Bool):Af .bool .neq (.bool p) (.bool q)=some (.bool (p != q)):=by cases p<;>cases q<;>rfl
def RA {k:IntKind}{a b:Int}:Hf Jw (.int k a) [.int k b]=some (.int k (max a b)):=by simp only[Hf,Jw,zXa];congr 2;omega
def Vls {k:IntKind}{a b:Int}:Hf SO (.int k a) [.int k b]=some (.int k (min a b)):=by simp only[Hf,SO,zXa];congr 2;omega
def Dj {ek:EqK}{a b:zAa}(h:a.length+b.length<=1152921504606846976):Af ek .add (.str a) (.str b)=some (.str (a++b)):=by simp[Af,VbE,h]
def AQ {s:zAa}{i:Nat}{K:IntKind}(h:i<s.length):Bc (.str s) (.int K (i:Int))=some (.int .u8 (s[i].toNat:Int)):=by simp[Bc,h]
def Tf {c:UInt8}{s:zAa}{K:IntKind}:Bc (.str (c::s)) (.int K 0)=some (.int .u8 (c.toNat:Int)):=by simp[Bc]
def OQ {s:zAa}{h:Nat}{K:IntKind}(hh:h<=s.length):BP (.str s) none (some (.int K (h:Int)))=some (.str (s.take h)):=by simp[BP,B5,hh]
def D0 {s:zAa}{l:Nat}{K:IntKind}(hl:l<=s.length):BP (.str s) (some (.int K (l:Int))) none=some (.str (s.drop l)):=by simp[BP,B5,hl]
def IF {s:zAa}{l h:Nat}{K K':IntKind}(hl:l<=h)(hh:h<=s.length):BP (.str s) (some (.int K (l:Int))) (some (.int K' (h:Int)))=some (.str ((s.take h).drop l)):=by simp[BP,B5,hl,hh]
def enL {α:Type}(f:α->List Ab)(l:List α):List (List Ab):=l.map f
class Sz {α:Type} (f:α->List Ab) (n:outParam Nat):Prop where
 len:∀a,(f a).length=n
abbrev cB (b:Bool):List Ab:=[.bool b]
abbrev cU (n:Nat):List Ab:=[.int .u32 (n:Int)]
abbrev cI (n:Int):List Ab:=[.i6 n]
abbrev cN (n:Nat):List Ab:=[.i6 (n:Int)]
abbrev cY (b:UInt8):List Ab:=[.int .u8 (b.toNat:Int)]
abbrev cS (s:zAa):List Ab:=[.str s]
instance:Sz cB 1:=⟨λ_=>rfl⟩
instance:Sz cU 1:=⟨λ_=>rfl⟩
instance:Sz cI 1:=⟨λ_=>rfl⟩
instance:Sz cN 1:=⟨λ_=>rfl⟩
instance:Sz cY 1:=⟨λ_=>rfl⟩
instance:Sz cS 1:=⟨λ_=>rfl⟩
section
variable {α:Type}{f:α->List Ab}{l m:List α}{tk:Tok}{i sz:Nat}{K:IntKind}
theorem HI:enL f []=[]:=rfl
theorem VdG:enL f (l++m)=enL f l++enL f m:=by simp[enL]
@[simp] theorem VmD:(enL f l).length=l.length:=by simp[enL]
@[simp] theorem Ax:A9 (.sl (enL f l) tk)=some (.i6 (l.length:Int)):=by simp[enL]
theorem Vhg [h:Sz f sz]:((enL f l).all λe=>e.length==sz)=true:=by simp[enL,h.len]
theorem A4 [hf:Sz f sz](h:i<l.length):Aw sz (.sl (enL f l) tk) (.int K (i:Int))=some (.cptr (f l[i]) 0):=by simp[Aw,enL,h,hf.len]
theorem VbH [hf:Sz f sz]{h:Nat}(hh:h<=l.length):B7 sz (.sl (enL f l) tk) none (some (.int K (h:Int))) none=some (.sl (enL f (l.take h)) (FQ tk 0 h l.length false)):=by
 simp[B7,B5,enL,hf.len,hh,List.map_take]
theorem Ow [hf:Sz f sz]{b:Nat}(hb:b<=l.length):B7 sz (.sl (enL f l) tk) (some (.int K (b:Int))) none none=some (.sl (enL f (l.drop b)) (FQ tk b l.length l.length false)):=by
 have:List.take l.length (l.map f)=l.map f:=VW (by simp);simp[B7,B5,enL,hf.len,hb,List.map_drop,this]

end
def RT (b:Bool):AK 1 [.bool b]=some (.sl (enL cB [b]) .ti):=by simp[AK,Df,KP,Cq,Ab.acells,enL]
def Vbv (n:Nat):AK 1 [.int .u32 (n:Int)]=some (.sl (enL cU [n]) .ti):=by simp[AK,Df,KP,Cq,Ab.acells,enL]
def Vmg (n:Nat):AK 1 [.i6 (n:Int)]=some (.sl (enL cN [n]) .ti):=by simp[AK,Df,KP,Cq,Ab.acells,enL]
def RR (s:zAa):AK 1 [.str s]=some (.sl (enL cS [s]) .ti):=by simp[AK,Df,KP,Cq,Ab.acells,enL]
def VgU (b:UInt8):AK 1 [.int .u8 (b.toNat:Int)]=some (.sl (enL cY [b]) .ti):=by simp[AK,Df,KP,Cq,Ab.acells,enL]
def Vbu (s:zAa):I9 (enL cY s)=some s:=by
 induction s with
 |nil=>rfl
 |cons b s ih=>simp only[enL,Xo,I9]at ih⊢;simp[ih]
@[simp] theorem PN {s:zAa}{tk:Tok}{H:Aa}:CR (.sl (enL cY s) tk) H=some (.str s):=by simp[CR,Vbu]
@[simp] theorem AA {sz o:Nat}{cs:List Ab}{H:Aa}:Ad false sz (.cptr cs o) H=cs[o]? := (rfl)
@[simp] theorem alloc_eq {cs:List Ab}{H:Aa}(h:cs.all Ab.isScal=true):Av (some cs) H=some (.ptr H.length 0 0,H++[.c0 cs]):=by simp only[Av,zXa,h,zYd]
section
variable {H G:Aa}{a:Bool}{sz k g o:Nat}{b:Blk}{cs:List Ab}{v:Ab}
@[simp] theorem Vbe:AD (H++G) (H.length+k) g=AD G k g:=by
 have:(H++G)[H.length+k]? = G[k]? := by rw[Wt (by omega)];congr 1;omega
 unfold AD;rw[this]
@[simp] theorem Vc8:AD (H++G) H.length g=AD G 0 g:=Vbe (k:=0)
theorem VlD {i:Nat}(h:i<H.length):AD (H++G) i g=AD H i g:=by simp[AD,VN h]
@[simp] theorem Vc6:AD (b::G) (k+1) g=AD G k g:=by simp[AD]
@[simp] theorem Kf:AD (.cel g cs::G) 0 g=some cs:=by simp[AD]
@[simp] theorem Vi5:Ad a sz (.ptr (H.length+k) g o) (H++G)=Ad a sz (.ptr k g o) G:=by simp only[Ad,Vbe]
@[simp] theorem EP:Ad a sz (.ptr H.length g o) (H++G)=Ad a sz (.ptr 0 g o) G:=by simp only[Ad,Vc8]
@[simp] theorem VfF:Ad a sz (.ptr (k+1) g o) (b::G)=Ad a sz (.ptr k g o) G:=by simp only[Ad,Vc6]
@[simp] theorem Hr:Ad false sz (.ptr 0 g o) (.cel g cs::G)=cs[o]? := by simp only[Ad,Kf];rfl
theorem Vd4:Ad true sz (.ptr 0 g o) (.cel g cs::G)=if o+sz<=cs.length then some (.agg ((cs.drop o).take sz))else none:=by simp only[Ad,Kf];rfl
@[simp] theorem SR (h:cs.length=sz):Ad true sz (.ptr 0 g 0) (.cel g cs::G)=some (.agg cs):=by simp[Vd4,h,VW (XL h)]
theorem Sn:FR (H++G) (H.length+k) g cs=H++FR G k g cs:=by
 have:(H++G)[H.length+k]? = G[k]? := by rw[Wt (by omega)];congr 1;omega
 unfold FR;rw[this];split<;>(rw[Wy _ _ (by omega)];congr 2<;>omega)
theorem UL:FR (b::G) (k+1) g cs=b::FR G k g cs:=by unfold FR;simp only[List.getElem?_cons_succ,List.set_cons_succ];split<;>simp_all
@[simp] theorem U8:Ae sz (.ptr (H.length+k) g o) v (H++G)=(Ae sz (.ptr k g o) v G).map (H++·):=by
 simp only[Ae,Vbe];cases AD G k g with
 |none=>rfl
 |some cs=>
  simp only[zXa];cases v.acells with
  |none=>rfl
  |some vs=>
   simp only[zXa];split;simp[Sn]
   ·rfl
@[simp] theorem IL:Ae sz (.ptr H.length g o) v (H++G)=(Ae sz (.ptr 0 g o) v G).map (H++·):=U8 (k:=0)
@[simp] theorem Vdh:Ae sz (.ptr (k+1) g o) v (b::G)=(Ae sz (.ptr k g o) v G).map (b::·):=by
 simp only[Ae,Vc6];cases AD G k g with
 |none=>rfl
 |some cs=>
  simp only[zXa];cases v.acells with
  |none=>rfl
  |some vs=>
   simp only[zXa];split;simp[UL]
   ·rfl
@[simp] theorem Sg:Ae sz (.ptr 0 g o) v (.cel g cs::G)=v.acells.bind λvs=>if vs.length=sz/\o+sz<=cs.length then some (.cel g (D3 cs o sz vs)::G)else none:=by simp only[Ae,Kf,zXa,FR,zXh,List.set_cons_zero]
@[simp] theorem VdQ {K:IntKind}{n:Int}:(Ab.int K n).acells=some [.int K n]:=(rfl)
@[simp] theorem Vmt {t:Bool}:(Ab.bool t).acells=some [.bool t]:=(rfl)
@[simp] theorem VmG {s:zAa}:(Ab.str s).acells=some [.str s]:=(rfl)
@[simp] theorem QC {es:List (List Ab)}{tk:Tok}:(Ab.sl es tk).acells=some [.sl es tk]:=(rfl)
@[simp] theorem Vo0 {id g off len cap sz:Nat}{ex:Bool}:(Ab.ms id g off len cap sz ex).acells=some [.ms id g off len cap sz ex]:=(rfl)
@[simp] theorem VmH {id g off:Nat}:(Ab.ptr id g off).acells=some [.ptr id g off]:=(rfl)
@[simp] theorem Vms:Ab.nilp.acells=some [.nilp]:=(rfl)
@[simp] theorem Vo1 {id:Nat}:(Ab.mp id).acells=some [.mp id]:=(rfl)
@[simp] theorem Vo2 {f:FuncId}{caps:List Ab}:(Ab.fn f caps).acells=some [.fn f caps]:=(rfl)
theorem C0 {cs:List Ab}(h:cs.all Ab.isScal=true):(Ab.agg cs).acells=some cs:=by simp[Ab.acells,h]

end
section
variable {K:IntKind}{n:Int}{t:Bool}{s:zAa}{es:List (List Ab)}{tk:Tok}{id g off len cap sz:Nat}{ex:Bool}{f:FuncId}{caps:List Ab}
@[simp] theorem VoG:(Ab.int K n).isScal=true:=(rfl)
@[simp] theorem VmZ:(Ab.bool t).isScal=true:=(rfl)
@[simp] theorem VoE:(Ab.str s).isScal=true:=(rfl)
@[simp] theorem Vpk:(Ab.sl es tk).isScal=true:=(rfl)
@[simp] theorem Vpl:(Ab.ms id g off len cap sz ex).isScal=true:=(rfl)
@[simp] theorem VoF:(Ab.ptr id g off).isScal=true:=(rfl)
@[simp] theorem Vpm:(Ab.mp id).isScal=true:=(rfl)
@[simp] theorem VmY:Ab.nilp.isScal=true:=(rfl)
@[simp] theorem Vpn:(Ab.fn f caps).isScal=true:=(rfl)

end
open Classical in
theorem Voo (p:Prop)(x:Out):chk p x=if p then x else none:=rfl
def Vbt {p:Prop}(h:p)(x:Out):chk p x=x:=by rw[Voo,zYc h]
def Jc (H:Aa)(n d:Nat)(v:Ab):Option Ab:=(frz H n d v).map fgt
def Gq (H:Aa)(n d:Nat)(vs:List Ab):Option (List Ab):=(Ei H n d vs).map (List.map fgt)
def Ft (H:Aa)(n d:Nat)(v:Ab):Option Ab:=(frz H n d v).map E9
def IZ (H:Aa)(n d:Nat)(vs:List Ab):Option (List Ab):=(Ei H n d vs).map (List.map E9)
def Hv (H:Aa)(n d:Nat)(v:Ab):Option Ab:=(frz H n d v).map forget
section
variable {H H0 G:Aa}{n d:Nat}{v:Ab}{vs cs:List Ab}
theorem Fl (h:H.take H0.length=H0):rPN H0 v H=(Hv H H0.length 8 v).map λv=>(.ret v,H0):=by simp only[rPN,fin,Vbt h,Hv,XZ];rfl
@[simp] theorem CD:rPN H0 v (H0++G)=(Hv (H0++G) H0.length 8 v).map λv=>(.ret v,H0):=Fl (by simp)
@[simp] theorem M8:rPN H0 v H0=(Hv H0 H0.length 8 v).map λv=>(.ret v,H0):=Fl (by simp)
@[simp] theorem VeM:rKN H0 v H=some (.ret (forget v),H):=(rfl)
theorem Vgm {es:List (List Ab)}{tk:Tok}:∃tk',frz H n (d+1) (.sl es tk)=some (.sl es tk'):=by cases tk with|no=>exact⟨.no,by simp[frz]⟩|ti=>exact⟨.ti,by simp[frz]⟩|own t=>by_cases h:t<n;exact⟨.own t,by simp[frz,h]⟩;exact⟨.no,by simp[frz,h]⟩
@[simp] theorem CH:Hv H n (d+1) (.tup vs)=(IZ H n d vs).map .tup:=by simp only[Hv,IZ,frz,XZ];rfl
@[simp] theorem ViU:Hv H n (d+1) (.agg cs)=(Gq H n d cs).map .agg:=by simp only[Hv,Gq,frz,XZ];rfl
@[simp] theorem VoW {K:IntKind}{i:Int}:Hv H n (d+1) (.int K i)=some (.int K i):=by simp[Hv,frz,forget,E9,fgt]
@[simp] theorem Vod {t:Bool}:Hv H n (d+1) (.bool t)=some (.bool t):=by simp[Hv,frz,forget,E9,fgt]
@[simp] theorem VoV {s:zAa}:Hv H n (d+1) (.str s)=some (.str s):=by simp[Hv,frz,forget,E9,fgt]
@[simp] theorem GI {es:List (List Ab)}{tk:Tok}:Hv H n (d+1) (.sl es tk)=some (.sl es .no):=by obtain⟨tk',h⟩:=Vgm (H:=H) (n:=n) (d:=d) (es:=es) (tk:=tk);simp[Hv,h,forget,E9,fgt]
@[simp] theorem BY:IZ H n (d+1) []=some []:=by simp[IZ,Ei]
@[simp] theorem BC:IZ H n (d+1) (v::vs)=(Ft H n d v).bind λv'=>(IZ H n (d+1) vs).map (v'::·):=by simp only[IZ,Ft,Ei];cases frz H n d v with|none=>rfl|some x=>cases Ei H n (d+1) vs<;>rfl
@[simp] theorem Gp:Gq H n (d+1) []=some []:=by simp[Gq,Ei]
@[simp] theorem Fw:Gq H n (d+1) (v::vs)=(Jc H n d v).bind λv'=>(Gq H n (d+1) vs).map (v'::·):=by simp only[Gq,Jc,Ei];cases frz H n d v with|none=>rfl|some x=>cases Ei H n (d+1) vs<;>rfl
@[simp] theorem Ht:Ft H n (d+1) (.agg cs)=(Gq H n d cs).map .agg:=by simp only[Ft,Gq,frz,XZ];rfl
@[simp] theorem Da {K:IntKind}{i:Int}:Ft H n (d+1) (.int K i)=some (.int K i):=by simp[Ft,frz,E9,fgt]
@[simp] theorem Hs {t:Bool}:Ft H n (d+1) (.bool t)=some (.bool t):=by simp[Ft,frz,E9,fgt]
@[simp] theorem Vgo {s:zAa}:Ft H n (d+1) (.str s)=some (.str s):=by simp[Ft,frz,E9,fgt]
@[simp] theorem Ja {es:List (List Ab)}{tk:Tok}:Ft H n (d+1) (.sl es tk)=some (.sl es .no):=by obtain⟨tk',h⟩:=Vgm (H:=H) (n:=n) (d:=d) (es:=es) (tk:=tk);simp[Ft,h,E9,fgt]
@[simp] theorem Vgz {K:IntKind}{i:Int}:Jc H n (d+1) (.int K i)=some (.int K i):=by simp[Jc,frz,fgt]
@[simp] theorem KU {t:Bool}:Jc H n (d+1) (.bool t)=some (.bool t):=by simp[Jc,frz,fgt]
@[simp] theorem Vgy {s:zAa}:Jc H n (d+1) (.str s)=some (.str s):=by simp[Jc,frz,fgt]
@[simp] theorem Jb {es:List (List Ab)}{tk:Tok}:Jc H n (d+1) (.sl es tk)=some (.sl es .no):=by obtain⟨tk',h⟩:=Vgm (H:=H) (n:=n) (d:=d) (es:=es) (tk:=tk);simp[Jc,h,fgt]
@[simp] theorem Vx {es:List (List Ab)}{tk:Tok}:forget (.sl es tk)=.sl es .no:=(rfl)
@[simp] theorem VmB:forget (.agg cs)=.agg (cs.map fgt):=(rfl)
@[simp] theorem Vm9:forget (.tup cs)=.tup (cs.map E9):=(rfl)
@[simp] theorem VoU:E9 (.agg cs)=.agg (cs.map fgt):=(rfl)
@[simp] theorem VpK {es:List (List Ab)}{tk:Tok}:E9 (.sl es tk)=.sl es .no:=(rfl)
@[simp] theorem VoT {K:IntKind}{i:Int}:E9 (.int K i)=.int K i:=(rfl)
@[simp] theorem Voc {t:Bool}:E9 (.bool t)=.bool t:=(rfl)
@[simp] theorem VoS {s:zAa}:E9 (.str s)=.str s:=(rfl)
@[simp] theorem Vqj {es:List (List Ab)}{tk:Tok}:fgt (.sl es tk)=.sl es .no:=(rfl)
@[simp] theorem VpJ {K:IntKind}{i:Int}:fgt (.int K i)=.int K i:=(rfl)
@[simp] theorem VoR {t:Bool}:fgt (.bool t)=.bool t:=(rfl)
@[simp] theorem VpI {s:zAa}:fgt (.str s)=.str s:=(rfl)
@[simp] theorem Bl:TZ []=some []:=(rfl)
@[simp] theorem AW {x:Option Ab}{xs:List (Option Ab)}:TZ (x::xs)=x.bind λv=>(TZ xs).map (v::·):=(rfl)
@[simp] theorem B2 {xs:List (Option Ab)}:BV xs=(TZ xs).map .tup:=(rfl)
@[simp] theorem Ba:Ao 0 (.tup (v::vs))=some v:=(rfl)
@[simp] theorem Bd {w:Ab}:Ao 1 (.tup (v::w::vs))=some w:=(rfl)
@[simp] theorem NK {w u:Ab}:Ao 2 (.tup (v::w::u::vs))=some u:=(rfl)

end
def JB:Ab->Bool
 |.int _ _=>true
 |.bool _=>true
 |.str _=>true
 |_=>false
def JA:Ab->Bool
 |.tup vs=>vs.all JB
 |v=>JB v
section
variable {H H0 G:Aa}{n d:Nat}{v:Ab}{vs:List Ab}{K:IntKind}{i:Int}{t:Bool}{s:zAa}
@[simp] theorem Vm5:JB (.int K i)=true:=(rfl)
@[simp] theorem Vlb:JB (.bool t)=true:=(rfl)
@[simp] theorem Vm4:JB (.str s)=true:=(rfl)
@[simp] theorem Vm1:JA (.tup vs)=vs.all JB:=(rfl)
@[simp] theorem Vm3:JA (.int K i)=true:=(rfl)
@[simp] theorem Vla:JA (.bool t)=true:=(rfl)
@[simp] theorem Vm2:JA (.str s)=true:=(rfl)
theorem Vd9 (h:JB v=true):frz H n (d+1) v=some v:=by cases v<;>first | (simp[JB]at h;done) | simp[frz]
theorem Tj:∀(vs:List Ab),vs.all JB=true->Ei H n (d+2) vs=some vs
 |[],_=>by simp[Ei]
 |v::vs,h=>by simp only[List.all_cons,VV]at h;simp[Ei,Vd9 h.1,Tj vs h.2]
theorem Gw (h:JA v=true)(ht:H.take H0.length=H0):rP H0 v H=some (.ret v,H0):=by rw[UW v ht];cases v<;>first | (simp[JA,JB]at h;done) | (simp[frz];done) | (rename_i vs;simp[frz,Tj vs (by simpa[JA]using h)])
@[simp] theorem VbR (h:JA v=true):rP H0 v (H0++G)=some (.ret v,H0):=Gw h (by simp)
@[simp] theorem Vng (h:JA v=true):rP H0 v H0=some (.ret v,H0):=Gw h (by simp)

end
section
variable {α:Type}{f:α->List Ab}{H:Aa}{ty:TypeId}{sz bytes:Nat}{l m:List α}{tk:Tok}
theorem De [hf:Sz f sz](hm:m≠[])(hb:(l.length+m.length)*bytes<=140737488355328)(hn:l.length+m.length<=140737488355328):AS ty sz bytes (.sl (enL f l) .ti) (.sl (enL f m) tk) H=some (.sl (enL f (l++m)) (.own H.length),H++[.tok (l.length+m.length) ty sz]):=by
 simp[AS,C8,enL,hf.len,hm,hb,hn]
theorem F5 [hf:Sz f sz]{t:Nat}(hm:m≠[])(hH:H[t]? = some (.tok l.length ty sz))(hb:(l.length+m.length)*bytes<=140737488355328)(hn:l.length+m.length<=140737488355328):AS ty sz bytes (.sl (enL f l) (.own t)) (.sl (enL f m) tk) H=some (.sl (enL f (l++m)) (.own t),H.set t (.tok (l.length+m.length) ty sz)):=by
 simp[AS,C8,enL,hf.len,hm,hb,hn,hH]
theorem F6 {x:Ab}(hx:(C8 sz x H).isSome=true):AS ty sz bytes x (.sl [] tk) H=some (x,H):=by cases h:C8 sz x H with|none=>simp[h]at hx|some es=>simp only[AS,h];simp[C8]
def Eo (f:α->List Ab)(B:Aa):List α->Ab
 |[]=>.sl [] .ti
 |l=>.sl (enL f l) (.own B.length)
def Ee (f:α->List Ab)(ty:TypeId)(sz:Nat)(B:Aa):List α->Aa
 |[]=>B
 |l=>B++[.tok l.length ty sz]
def VoJ (B:Aa):List α->Tok
 |[]=>.ti
 |_=>.own B.length
theorem Gc (B:Aa)(l:List α):Eo f B l=.sl (enL f l) (VoJ B l):=by cases l<;>rfl
theorem GD (B:Aa)(l:List α):∃G,Ee f ty sz B l=B++G:=by cases l with|nil=>exact⟨[],by simp[Ee]⟩|cons a l=>exact⟨_,rfl⟩
theorem DR [hf:Sz f sz]{B:Aa}(hm:m≠[])(hb:(l.length+m.length)*bytes<=140737488355328)(hn:l.length+m.length<=140737488355328):AS ty sz bytes (Eo f B l) (.sl (enL f m) tk) (Ee f ty sz B l)=some (Eo f B (l++m),Ee f ty sz B (l++m)):=by
 obtain⟨x,m',rfl⟩:∃x m',m=x::m':=by cases m with | nil=>exact zYf rfl hm | cons x m'=>exact⟨x,m',rfl⟩
 cases l with|nil=>have:=De (f:=f) (l:=[]) (ty:=ty) (tk:=tk) (H:=B) hm hb hn;simpa[Eo,Ee,HI]using this|cons a l=>have:=F5 (f:=f) (l:=a::l) (ty:=ty) (tk:=tk) (H:=B++[.tok (a::l).length ty sz]) (t:=B.length) hm (by simp) hb hn;simp only[Eo,Ee,List.cons_append]at this⊢;rw[this];simp;omega

end
end Go.Gm
