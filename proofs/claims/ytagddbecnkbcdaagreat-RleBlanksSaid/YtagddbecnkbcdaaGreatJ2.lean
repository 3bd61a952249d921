/- Texts of this proof, joined. -/
import Derived.Test.YtagddbecnkbcdaaGreatJ1
import Derived.Orders
import Derived.Laws.StructEq
import Derived.ChangeKeysEq
import Derived.WideKeyRuns
import Derived.KernelRfl
set_option linter.all false
namespace Go.Gm
structure MC (C:Cfg):Prop where
 eq:VpH C
 map:Vo2 C
 orc:G6 C.P C.G C.orc
section
variable {C:Cfg}{E:Env}{H:Aa}{w:World}
theorem Vjs {ρ:Operand->Value}{o:Oper}{c:Call}{f:Operand}{g:FuncId}{vs:Array Value}(ho:o.op=.call c)(hc:c.callee=.value f)(hf:ρ f=.func (.func g) #[] vs):execOp ρ o=callFunc g (c.args.map ρ++vs):=by
 unfold execOp;rw[ho];simp only[resolve,hc,Deferred.ofValue,hf,pure_bind,invoke]
 congr 1
 simp
theorem VgS {ρ:Operand->Value}{o:Oper}{c:Call}{f:Operand}{g:FuncId}{vs:Array Value}(ho:o.op=.call c)(hc:c.callee=.value f)(hf:ρ f=.func (.func g) vs #[]):execOp ρ o=callFunc g (vs++c.args.map ρ):=by
 unfold execOp;rw[ho];simp only[resolve,hc,Deferred.ofValue,hf,pure_bind,invoke]
 congr 1
theorem RK (hC:MC C)(hG:DM C.G E)(hs:Sim E H w){a:Act}{r:Operand->Ab}(hr:∀x,Au E (r x) (a.eval x)){o:Oper}{res:Res}{H':Aa}(h:Fy C o.op r H=some (res,H')){next:Act->World->Prop}{Q:Exit->Act->World->Prop}
  (hn:∀E' w' v x,res=.ret x->Au E' x v->Sim E' H' w'->BL E H w E' H' w'->next (a.put o.dst v) w')
  (hp:∀E' w' v x,res=.pan x->Au E' x v->Sim E' H' w'->BL E H w E' H' w'->Q (.panic [{ v,recovered:=false }]) a w'):o.wp C.P a w next Q:=by
 unfold Oper.wp;have skip:∀w',(execOp a.eval o).run C.P w=.ok .skip w'->res=.ret .undef->Sim E H' w'->BL E H w E H' w'->o.upon C.P a next Q ((execOp a.eval o).run C.P w):=by intro w' aC hres h1 h2;rw[aC,Oper.upon_skip];exact hn E w' undef .undef hres (.undef _) h1 h2
 have value:∀v w' E' x,(execOp a.eval o).run C.P w=.ok (.value v) w'->res=.ret x->Au E' x v->Sim E' H' w'->BL E H w E' H' w'->o.upon C.P a next Q ((execOp a.eval o).run C.P w):=by intro v w' E' x aC hres hv h1 h2;rw[aC,Oper.upon_value];exact hn E' w' v x hres hv h1 h2
 cases aD:o.op with
 |store t x v=>
  simp only[aD,Fy]at h;split at h
  ·cases h
  ·rename_i hk;obtain⟨_,hz,_⟩:=Cz (P:=C.P) (t:=t) (by simpa using hk);cases hst:Ai (Aq C.P t) (r x) (r v) H with
   |none=>simp[hst,AE]at h
   |some H1=>simp only[hst,AE,zXb,Vv,VC]at h;obtain⟨rfl,rfl⟩:=h;obtain⟨w',h1,h2,h3⟩:=Vhy hs hz (hr x) (hr v) hst;exact skip w' (by simp[execOp,aD,zXf,h1,Result.andThen]) rfl h2 h3
 |mapUpdate t m k x=>
  simp only[aD,Fy]at h;split at h
  ·rename_i kt e hu;split at h
   ·rename_i hk;cases hst:Ec (BF C.P kt) (Aq C.P kt) (r m) (r k) (r x) H with
    |none=>simp[hst,AE]at h
    |some H1=>simp only[hst,AE,zXb,Vv,VC]at h;obtain⟨rfl,rfl⟩:=h;obtain⟨w',h1,h2,h3⟩:=hC.map.upd t kt e E H _ w _ _ _ _ _ _ hu hk hs (hr m) (hr k) (hr x) hst;exact skip w' (by simp[execOp,aD,zXf,h1,Result.andThen]) rfl h2 h3
   ·cases h
  ·cases h
 |insert t m k x=>
  simp only[aD,Fy]at h;split at h
  ·rename_i kt e hu;split at h
   ·rename_i hk;cases hst:Ec (BF C.P kt) (Aq C.P kt) (r m) (r k) (r x) H with
    |none=>simp[hst,AE]at h
    |some H1=>simp only[hst,AE,zXb,Vv,VC]at h;obtain⟨rfl,rfl⟩:=h;obtain⟨w',h1,h2,h3⟩:=hC.map.upd t kt e E H _ w _ _ _ _ _ _ hu hk hs (hr m) (hr k) (hr x) hst;exact skip w' (by simp[execOp,aD,zXf,h1,Result.andThen]) rfl h2 h3
   ·cases h
  ·cases h
 |range t x=>
  simp only[aD,Fy]at h;split at h
  ·rename_i hu;cases hst:N7 (r x) H with
   |none=>simp[hst,Cy]at h
   |some p=>obtain⟨z,H1⟩:=p;simp only[hst,Cy,zXb,Vv,VC]at h;obtain⟨rfl,rfl⟩:=h;obtain⟨u,w',E',h1,h2,h3,h4⟩:=VhH hs hu (hr x) hst;exact value u w' E' z (by simp[execOp,aD,zXf,h1,Result.andThen]) rfl h2 h3 h4
  ·cases h
 |next x isStr=>
  simp only[aD,Fy]at h;split at h
  ·rename_i kD;cases hst:Oq (r x) H with
   |none=>simp[hst,Cy]at h
   |some p=>obtain⟨z,H1⟩:=p;simp only[hst,Cy,zXb,Vv,VC]at h;obtain⟨rfl,rfl⟩:=h;obtain⟨u,w',h1,h2,h3,h4⟩:=Vlr (ty:=o.type) (C:=C) hs (hr x) hst;exact value u w' E z (by simp[execOp,aD,zXf,kD,h1,Result.andThen]) rfl h2 h3 h4
  ·cases h
 |panic x=>
  simp only[aD,Fy]at h;split at h
  ·rename_i t y hx;simp only[Vv,VC]at h;obtain⟨rfl,rfl⟩:=h;have hx':=hr x;rw[hx]at hx';obtain⟨u,hu,hv⟩:=hx'.iface_inv;have aC:(execOp a.eval o).run C.P w=.halt (.panic (.iface t u)) w:=by have h0:(Instr.panic (.iface t u)).run C.P w=.halt (.panic (.iface t u)) w:=rfl;simp[execOp,aD,hu,zXf,h0,Result.andThen]
   rw[aC,Oper.upon_panic];exact hp E w _ _ rfl (.iface hv) hs (.refl _ _ _)
  ·cases h
 |call c=>
  simp only[aD,Fy]at h;split at h
  ·rename_i hb;split at h
   ·rename_i x y t ty ha ht;have jQ:=VpS ha;have dM:=VpS ht;split at h
    ·rename_i e e' hu iS;split at h
     ·cases h
     ·rename_i hk;have hk1:okT C.P e=true:=by cases hq:okT C.P e <;> simp_all
      have hk2:t=ty:=by
       by_cases hq:t=ty
       ·exact hq
       ·exact absurd (.inr hq) hk
      subst hk2;by_cases oJ:C.mu=true
      ·rw[if_pos oJ]at h;cases hst:FK e (Aq C.P e) (Fx C.P e) (r x) (r y) H with
       |none=>simp[hst,Cy]at h
       |some p=>
        obtain⟨z,H1⟩:=p;simp only[hst,Cy,zXb,Vv,VC]at h;obtain⟨rfl,rfl⟩:=h;have cJ:∀s,r y≠.str s:=λs h2=>by simp[FK,h2,Cw]at hst
        obtain⟨q,w',E',h1,h2,h3,h4⟩:=Tq (ty:=o.type) (u2:=t) hs hu hk1 (hr x) (hr y) (.inl ⟨rfl,cJ⟩) (Vhe cJ hst);refine value q w' E' z ?_ rfl h2 h3 h4;rw[DH aD hb,jQ,dM,show (#[x,y]:Array Operand).map a.eval = #[a.eval x,a.eval y] from by simp];exact JM h1
      ·rw[if_neg oJ]at h;cases hst:Bf e (Aq C.P e) (Fx C.P e) (r x) (r y) H with
       |none=>simp[hst,Cy]at h
       |some p=>
        obtain⟨z,H1⟩:=p;simp only[hst,Cy,zXb,Vv,VC]at h;obtain⟨rfl,rfl⟩:=h;have cJ:∀q s,Cw (Aq C.P e) q H≠none->q≠.str s:=λq s h1 h2=>by subst h2;exact h1 rfl
        have hx1:Cw (Aq C.P e) (r y) H≠none:=λhq=>by simp[Bf,hq]at hst
        have hx2:Cw (Aq C.P e) (r x) H≠none:=λhq=>by unfold Bf at hst;rw[hq]at hst;cases lY:Cw (Aq C.P e) (r y) H <;> simp[lY]at hst
        obtain⟨q,w',E',h1,h2,h3,h4⟩:=Vhc (ty:=o.type) hs hu hk1 (hr x) (hr y) (λs=>cJ _ s hx2) (λs=>cJ _ s hx1) hst;refine value q w' E' z ?_ rfl h2 h3 h4;rw[DH aD hb,jQ,dM,show (#[x,y]:Array Operand).map a.eval = #[a.eval x,a.eval y] from by simp];exact JM h1
    ·rename_i e hu iS;split at h
     ·cases h
     ·rename_i hk;have hk1:okT C.P e=true:=by cases hq:okT C.P e <;> simp_all
      cases hst:VbA e (Aq C.P e) (Fx C.P e) (r x) (r y) H with
      |none=>simp[hst,Cy]at h
      |some p=>obtain⟨z,H1⟩:=p;simp only[hst,Cy,zXb,Vv,VC]at h;obtain⟨rfl,rfl⟩:=h;obtain⟨s,lR,mU⟩:=Vb9 hst;obtain⟨q,w',E',h1,h2,h3,h4⟩:=Tq (ty:=o.type) (u2:=ty) hs hu hk1 (hr x) (hr y) (.inr ⟨iS,s,lR⟩) mU;refine value q w' E' z ?_ rfl h2 h3 h4;rw[DH aD hb,jQ,dM,show (#[x,y]:Array Operand).map a.eval = #[a.eval x,a.eval y] from by simp];exact JM h1
    ·cases h
   ·cases h
  ·rename_i hb;split at h
   ·rename_i x t ha ht;have jQ:=VmU ha;have dM:=VmU ht;split at h
    ·rename_i e hu;split at h
     ·cases h
     ·rename_i hk;cases hst:Ky (Aq C.P e) (GC C.P e) (r x) H with
      |none=>simp[hst,AE]at h
      |some H1=>simp only[hst,AE,zXb,Vv,VC]at h;obtain⟨rfl,rfl⟩:=h;obtain⟨w',h1,h2,h3⟩:=Vjp (ty:=o.type) hs hu (by simpa using hk) (hr x) hst;refine value (.tuple #[]) w' E .undef ?_ rfl (.undef _) h2 h3;rw[DH aD hb,jQ,dM,show (#[x]:Array Operand).map a.eval = #[a.eval x] from by simp];exact JM h1
    ·cases h
   ·cases h
  ·rename_i f hf;split at h
   ·rename_i g caps hg;have iP:=hr f;rw[hg]at iP;generalize nQ:a.eval f=fv at iP;cases iP with
    |fn oI aU=>
     rename_i vs;have aC:=Vjs (ρ:=a.eval) aD hf (g:=g) (vs:=vs) nQ;have dQ:A1 E (c.args.toList.map r++caps) (c.args.map a.eval++vs).toList:=by rw[Xg,X4];exact A1.append (A1.map _ _ _ λx _=>hr x) ⟨by simpa using oI,λi c v h1 h2=>aU i c v h1 (by simpa using h2)⟩
     rw[aC];rcases hC.orc g _ H res H' h E w _ hG hs dQ with ⟨h1,h2⟩ | ⟨v,w',h1,E',h2,h3,h4⟩
     ·rw[h1,Oper.upon_enter];refine h2.mono λe w' hh=>?_;obtain⟨E',h3,h4,h5⟩:=hh;cases e with
      |returned v=>
       cases res with
       |ret x=>exact hn E' w' v x rfl h3 h4 h5
       |pan x=>exact h3.elim
      |panicked chain=>
       cases res with
       |ret x=>exact h3.elim
       |pan x=>obtain⟨v,rfl,hv⟩:=h3;exact hp E' w' v x rfl hv h4 h5
      |outgrown=>cases res <;> exact h3.elim
     ·rw[h1,Oper.upon_value];cases res with
      |ret x=>exact hn E' w' v x rfl h2 h3 h4
      |pan x=>exact h2.elim
   ·rename_i g first hg
    have iP:=hr f;rw[hg]at iP;generalize nQ:a.eval f=fv at iP;cases iP with
    |bfn oI aU=>
     rename_i vs;have aC:=VgS (ρ:=a.eval) aD hf (g:=g) (vs:=vs) nQ;have dQ:A1 E (first++c.args.toList.map r) (vs++c.args.map a.eval).toList:=by rw[Xg,X4];exact A1.append ⟨by simpa using oI,λi c v h1 h2=>aU i c v h1 (by simpa using h2)⟩ (A1.map _ _ _ λx _=>hr x)
     rw[aC];rcases hC.orc g _ H res H' h E w _ hG hs dQ with ⟨h1,h2⟩ | ⟨v,w',h1,E',h2,h3,h4⟩
     ·rw[h1,Oper.upon_enter];refine h2.mono λe w' hh=>?_;obtain⟨E',h3,h4,h5⟩:=hh;cases e with
      |returned v=>
       cases res with
       |ret x=>exact hn E' w' v x rfl h3 h4 h5
       |pan x=>exact h3.elim
      |panicked chain=>
       cases res with
       |ret x=>exact h3.elim
       |pan x=>obtain⟨v,rfl,hv⟩:=h3;exact hp E' w' v x rfl hv h4 h5
      |outgrown=>cases res <;> exact h3.elim
     ·rw[h1,Oper.upon_value];cases res with
      |ret x=>exact hn E' w' v x rfl h2 h3 h4
      |pan x=>exact h2.elim
   ·cases h
  ·cases h
 |_=>simp[aD,Fy]at h

end
structure HF (n:Nat)(E:Env)(H:Aa)(tm:List Ab)(a:Act)(w:World):Prop where
 rel:A1 E tm a.tmps.toList
 len:tm.length=n
 defers:a.defers=[]
 sim:Sim E H w
section
variable {C:Cfg}{E:Env}{H:Aa}{w:World}
theorem J5 {tm:List Ab}{ts:Array Value}(h:A1 E tm ts.toList)(t:Nat):Au E (tm.getD t .undef) (ts.getD t undef):=by
 rw[Vm];cases ht:tm[t]? with
 |none=>exact .undef _
 |some x=>
  obtain⟨v,h1,h2⟩:=h.get ht;have:ts.getD t undef=v:=by
   have eB:ts[t]? = some v:=by simpa using h1
   simp[V3,eB]
  rw[this];exact h2
theorem MI (hG:DM C.G E){tm:List Ab}{a:Act}(h:A1 E tm a.tmps.toList)(x:Operand):Au E (rho C.G tm x) (a.eval x):=by
 cases x with
 |tmp t=>exact J5 h t
 |const v=>exact Vds E v
 |global g=>
  simp only[rho,Act.eval];cases hg:C.G g with
  |none=>exact .undef _
  |some cs=>exact hG g cs hg
 |func f=>exact .fn rfl λi c v h=>by simp at h
theorem VkZ {tm:List Ab}{a:Act}(h:A1 E tm a.tmps.toList){x:Ab}{v:Value}(hv:Au E x v)(d:Option Tmp):A1 E (GA tm d x) (a.put d v).tmps.toList:=by
 cases d with
 |none=>exact h
 |some d=>simp only[GA,Act.put,Array.toList_setIfInBounds];exact h.set d hv
theorem NA (a:Act)(d:Option Tmp)(v:Value):(a.put d v).defers=a.defers:=by cases d <;> rfl
theorem HF.put {tm:List Ab}{a:Act}{n:Nat}(h:HF n E H tm a w){E':Env}{H':Aa}{w':World}(hle:E.le E')(hs:Sim E' H' w'){x:Ab}{v:Value}(hv:Au E' x v)(d:Option Tmp):HF n E' H' (GA tm d x) (a.put d v) w':=
 ⟨VkZ (h.rel.mono hle) hv d,by cases d <;> simp[GA,h.len],by rw[NA];exact h.defers,hs⟩
theorem Oe:Au E Cf undef:=.tup (by simp) λi c v h=>by simp at h
theorem NW {tm:List Ab}{a:Act}(h:A1 E tm a.tmps.toList){ops:Array Oper}{o:Oper}{b:Bool}(hw:HG ops o tm=some b):Region.wanted o (yielded ops a.tmps)=b:=by
 unfold HG at hw;unfold Region.wanted;cases hg:o.guard with
 |none=>simp[hg]at hw;simp[hw]
 |some p=>
  obtain⟨j,want⟩:=p;simp only[hg]at hw;split at hw
  ·rename_i b' hb';injection hw with hw;subst hw;cases hd:(ops[j]?).bind (·.dst)with
   |none=>simp[hd]at hb'
   |some d=>
    simp only[hd,zXb,Vv]at hb';have hr:=J5 h d;rw[hb']at hr;have hv:=hr.bool_inv;have hlt:d<a.tmps.size:=by
     rcases VT d a.tmps.size with hlt | hge
     ·exact hlt
     ·rw[V3,XW hge]at hv;cases hv
    have bL:a.tmps[d]? = some (.bool b'):=by rw[V3,Xa hlt]at hv;rw[Xa hlt];simpa using hv
    simp only[yielded,hd,zXa,bL];cases b' <;> cases want <;> rfl
  ·rename_i hb';injection hw with hw;subst hw;cases hd:(ops[j]?).bind (·.dst)with
   |none=>simp[hd]at hb'
   |some d=>
    simp only[hd,zXb,Vv]at hb';have hr:=J5 h d;rw[hb']at hr;obtain⟨vs,hv,_⟩:=hr.tup_cells;have hy:yielded ops a.tmps j=none:=by
     unfold yielded;rw[hd];simp only[zXa];cases bL:a.tmps[d]? with
     |none=>rfl
     |some u=>
      have:u=.tuple vs:=by rw[V3,bL]at hv;simpa using hv
      subst this;rfl
    simp only[hy];rfl
  ·cases hw
def KOk (C:Cfg)(n:Nat)(E0:Env)(H0:Aa)(w0:World)(out:Res×Aa)(k:List Ab->Aa->Out)(Q:Act->World->Prop):Prop:=
 ∀E tm H a w,DM C.G E->BL E0 H0 w0 E H w->HF n E H tm a w->k tm H=some out->Q a w
def Vm7 (C:Cfg)(n:Nat)(E0:Env)(H0:Aa)(w0:World)(out:Res×Aa)(k:Ab->List Ab->Aa->Out)(Q:Exit->Act->World->Prop):Prop:=
 ∀E tm H a w x v,DM C.G E->BL E0 H0 w0 E H w->HF n E H tm a w->Au E x v->k x tm H=some out->Q (.panic [{ v,recovered:=false }]) a w
theorem VcN (hC:MC C){n:Nat}{E0:Env}{H0:Aa}{w0:World}{out:Res×Aa}{ops:Array Oper}{k:List Ab->Aa->Out}{kp:Ab->List Ab->Aa->Out}{Q:Exit->Act->World->Prop}
  (hk:KOk C n E0 H0 w0 out k (Q .normal))(eX:Vm7 C n E0 H0 w0 out kp Q) :
  ∀(os:List Oper) (i:Nat) (E:Env) (tm:List Ab) (H:Aa) (a:Act) (w:World),(∀j,j<os.length->ops[i+j]? = os[j]?)->DM C.G E->BL E0 H0 w0 E H w->HF n E H tm a w->OE C ops os k kp tm H=some out ->
   wpOps C.P ops Q (List.range' i os.length) a w
 |[],i,E,tm,H,a,w,_,hG,st,hf,h=>hk E tm H a w hG st hf h
 |o::os,i,E,tm,H,a,w,ho,hG,st,hf,h=>by
  rw[zXj,List.range'_succ,wpOps_cons];have hi:ops[i]? = some o:=by have:=ho 0 (by simp);simpa using this
  have cZ:∀j,j<os.length->ops[i+1+j]? = os[j]? := λj hj=>by have:=ho (j+1) (by simp;omega);rw[show i+1+j=i+(j+1) from by omega,this];rfl
  have ih:=VcN (ops:=ops) hC hk eX os (i+1);unfold wpOp;simp only[hi];simp only[OE]at h;cases hw:HG ops o tm with
  |none=>simp[hw]at h
  |some b=>
   simp only[hw,zXa]at h;rw[NW hf.rel hw];have hr:=MI (C:=C) hG hf.rel;cases b with
   |false=>simp only[Vq,if_false];have dJ:=hf.put (.refl E) hf.sim (x:=Cf) (v:=undef) Oe o.dst;cases hc:cls o.op <;> simp only[hc,gR,gA,gE,Vq,if_false,zXa,Ao,HE]at h <;> exact ih E _ H _ w cZ hG st dJ h
   |true=>
    simp only[if_true];refine .inl ?_;cases hc:cls o.op with
    |r=>
     simp only[hc,gR,if_true]at h;cases hst:BA C o.op (rho C.G tm) H with
     |none=>simp[hst]at h
     |some z=>simp only[hst,zXa]at h;obtain⟨v,w',E',h1,h2,h3,h4⟩:=VbO hC.eq hC.map hf.sim hr (λ_=>rfl) hst;unfold Oper.wp;rw[h1,Oper.upon_value];exact ih E' _ H _ w' cZ (hG.mono h4.le) (st.trans h4) (hf.put h4.le h3 h2 o.dst) h
    |a=>
     simp only[hc,gA,if_true]at h;cases hst:CH C o.op (rho C.G tm) H with
     |none=>simp[hst,Ao]at h
     |some p=>obtain⟨z,H'⟩:=p;simp only[hst,Ao,zXa]at h;obtain⟨B,v,ob,f,rfl,hz,_,h1,h2,h3⟩:=(VbP hf.sim hr hst).ex;obtain⟨l1,l2⟩:=hf.sim.laid ob;obtain⟨t1,t2⟩:=h2.take l1 l2 (Vo _);have g2:=h3 (E.setφ H.length 0 w.heap.size) H.length (by simp[Env.setφ]);rw[<-hz]at g2;unfold Oper.wp;rw[h1,Oper.upon_value];exact ih _ _ _ _ _ cZ (hG.mono t2.le) (st.trans t2) (hf.put t2.le t1 g2 o.dst) h
    |e=>
     simp only[hc,gE,if_true]at h;cases hst:Fy C o.op (rho C.G tm) H with
     |none=>simp[hst,HE]at h
     |some p=>
      obtain⟨res,H'⟩:=p;simp only[hst,HE,zXa]at h;refine RK hC hG hf.sim hr hst (λE' w' v x hres hv h1 h2=>?_) (λE' w' v x hres hv h1 h2=>?_)
      ·subst hres;exact ih E' _ H' _ w' cZ (hG.mono h2.le) (st.trans h2) (hf.put h2.le h1 hv o.dst) h
      ·subst hres;exact eX E' tm H' a w' x v (hG.mono h2.le) (st.trans h2) ⟨hf.rel.mono h2.le,hf.len,hf.defers,h1⟩ hv h

end
def VpT (E:Env):Vhn->Exit->Prop
 |.normal,.normal=>True
 |.exit i,.exit j=>i=j
 |.ret,.ret=>True
 |.pan x,.panic chain=>∃v,chain=[{ v,recovered:=false }]/\Au E x v
 |_,_=>False
def Ty (C:Cfg)(n:Nat)(E0:Env)(H0:Aa)(w0:World)(out:Res×Aa)(K:Rf)(e:Exit)(a:Act)(w:World):Prop:=
 ∃E H tm x,DM C.G E/\BL E0 H0 w0 E H w/\HF n E H tm a w/\VpT E x e/\K x tm H=some out
section
variable {C:Cfg}{n:Nat}{E0:Env}{H0:Aa}{w0:World}{out:Res×Aa}
theorem Ty.mk {K:Rf}{E:Env}{H:Aa}{tm:List Ab}{a:Act}{w:World}{x:Vhn}{e:Exit}(hG:DM C.G E)(st:BL E0 H0 w0 E H w)(hf:HF n E H tm a w)(hx:VpT E x e)(h:K x tm H=some out):Ty C n E0 H0 w0 out K e a w:=
 ⟨E,H,tm,x,hG,st,hf,hx,h⟩
theorem Vfn (L:zAb)(tm:List Ab)(n i:Nat):(Og n L (Ip L tm)).getD i .undef=.undef\/(Og n L (Ip L tm)).getD i .undef=tm.getD i .undef:=by
 unfold Og Ip;rw[Vm,VK];by_cases hi:i<n
 ·rw[Wx hi];simp only[zXb,Option.getD_some];cases hL:L.idxOf? i with
  |none=>exact .inl rfl
  |some j=>
   right;simp only[];have hj:L[j]? = some i:=by have:=List.idxOf?_eq_some_iff.1 hL;obtain⟨h1,h2,_⟩:=this;rw[Vl h1];simpa using h2
   rw[Vm,VK,hj];simp
 ·rw[zYb (by simp;omega)];exact .inl rfl
theorem VkJ {E:Env}{tm:List Ab}{ts:List Value}(h:A1 E tm ts)(L:zAb)(n:Nat)(hn:tm.length=n):A1 E (Og n L (Ip L tm)) ts:=by
 have hl:(Og n L (Ip L tm)).length=n:=by simp[Og]
 refine⟨by rw[hl,<-hn];exact h.1,λi c v h1 h2=>?_⟩;have hc:c=(Og n L (Ip L tm)).getD i .undef:=by rw[Vm,h1];rfl
 rcases Vfn L tm n i with h3 | h3
 ·rw[hc,h3];exact .undef _
 ·rw[hc,h3];have hi:i<tm.length:=by have:=(Vn.1 h1).1;omega
  rw[Vm,Vl hi];exact h.2 i _ v (Vl hi) h2
def Vdw (C:Cfg):Prop:=
 ∀(pb:Bool) (n:Nat) (E0:Env) (H0:Aa) (w0:World) (out:Res×Aa) (ops:Array Oper) (perm:zAb) (k:List Ab->Aa->Out) (kp:Ab->List Ab->Aa->Out) (Q:Exit->Act->World->Prop) (id:Nat) (E:Env) (tm:List Ab) (H:Aa) (a:Act) (w:World),
  KOk C n E0 H0 w0 out k (Q .normal)->Vm7 C n E0 H0 w0 out kp Q->JZ ops perm=true->DM C.G E->BL E0 H0 w0 E H w->HF n E H tm a w ->
  Gx C pb ops (λi j=>((Region.before ops).getD j 0).testBit i) k kp perm [] H H tm=some out->(Code.region id ops true).wp C.P Q a w
theorem Vat (hC:MC C){ops:Array Oper}{k:List Ab->Aa->Out}{kp:Ab->List Ab->Aa->Out}{Q:Exit->Act->World->Prop}{id:Nat}{E:Env}{tm:List Ab}{H:Aa}{a:Act}{w:World}
  (hk:KOk C n E0 H0 w0 out k (Q .normal))(eX:Vm7 C n E0 H0 w0 out kp Q)(hG:DM C.G E)(st:BL E0 H0 w0 E H w)(hf:HF n E H tm a w)(h:OE C ops ops.toList k kp tm H=some out):(Code.region id ops false).wp C.P Q a w:=by
 refine wp_region ?_;have:=VcN (Q:=Q) hC hk eX ops.toList 0 E tm H a w (λj hj=>by simp) hG st hf h;rw[List.range_eq_range'];simpa using this
theorem Vaa {c:Code}{P:Program}{Q:Exit->Act->World->Prop}(J:Nat->Act->World->Prop)(h0:∀a w,¬J 0 a w)(step:∀n a w,J (n+1) a w->c.wp P (Exit.then (J n) Q) a w) :
  ∀(m:Nat) (a:Act) (w:World),J m a w->(Code.loop c).wp P Q a w:=by
 intro m a w hJ b k cs;have key:∀n a w,J n a w->∃e a' w',Q e a' w'/\Arrives P (lone (b.at a (.code c::.inLoop c::k)) cs w) b k cs e a' w':=by
  intro n
  induction n with
  |zero=>intro a w h;exact absurd h (h0 a w)
  |succ n ih=>
   intro a w h;obtain⟨e,a₁,w₁,hq,eQ⟩:=step n a w h b (.inLoop c::k) cs;cases e with
   |normal=>obtain⟨e₂,a₂,w₂,zJ,rV⟩:=ih a₁ w₁ hq;exact⟨e₂,a₂,w₂,zJ,.of_steps (Steps.trans eQ (.one step_inLoop)) rV⟩
   |exit id=>exact⟨_,a₁,w₁,hq,.pass (x:=.inLoop c) rfl (λ_ _=>.inl (by simp)) eQ⟩
   |goto l=>exact⟨_,a₁,w₁,hq,.pass (x:=.inLoop c) rfl (λ_ _=>.inl (by simp)) eQ⟩
   |ret=>exact⟨_,a₁,w₁,hq,.pass (x:=.inLoop c) rfl (λ_ _=>.inl (by simp)) eQ⟩
   |panic ch=>exact⟨_,a₁,w₁,hq,.pass (x:=.inLoop c) rfl (λ_ _=>.inl (by simp)) eQ⟩
   |outgrown=>exact⟨_,a₁,w₁,hq,.pass (x:=.inLoop c) rfl (λ_ _=>.inl (by simp)) eQ⟩
 obtain⟨e,a',w',hq,eQ⟩:=key m a w hJ;exact⟨e,a',w',hq,.of_steps (.one step_loop) eQ⟩
theorem PB {k:List Ab->Aa->Out}{K:Rf}{N:Act->World->Prop}(hN:∀E H tm a w,DM C.G E->BL E0 H0 w0 E H w->HF n E H tm a w->k tm H=some out->N a w) :
  ∀e a w,Ty C n E0 H0 w0 out (Vka k K) e a w->Exit.then N (Ty C n E0 H0 w0 out K) e a w:=by
 rintro e a w ⟨E,H,tm,x,hG,st,hf,hx,h⟩;cases x <;> cases e <;> first | exact hx.elim | skip
 ·exact hN E H tm a w hG st hf h
 ·exact⟨E,H,tm,_,hG,st,hf,hx,h⟩
 ·exact⟨E,H,tm,_,hG,st,hf,hx,h⟩
 ·exact⟨E,H,tm,_,hG,st,hf,hx,h⟩
theorem VbZ {E:Env}{H:Aa}{tm:List Ab}{a:Act}{w:World}(hf:HF n E H tm a w)(L:zAb):HF n E H (Og n L (Ip L tm)) a w:=
 ⟨VkJ hf.rel L n hf.len,by simp[Og],hf.defers,hf.sim⟩
theorem SR (hC:MC C)(hD:Vdw C):∀(c:Code) (ann:Ann) (K:Rf) (E:Env) (tm:List Ab) (H:Aa) (a:Act) (w:World),DM C.G E->BL E0 H0 w0 E H w->HF n E H tm a w ->
  evC C n c ann K tm H=some out->c.wp C.P (Ty C n E0 H0 w0 out K) a w:=by
 intro c
 induction c with
 |skip=>intro ann K E tm H a w hG st hf h;exact wp_skip (.mk hG st hf (x:=.normal) trivial (by simpa only[evC]using h))
 |label l=>intro ann K E tm H a w hG st hf h;exact wp_label (.mk hG st hf (x:=.normal) trivial (by simpa only[evC]using h))
 |ret=>intro ann K E tm H a w hG st hf h;exact wp_ret (.mk hG st hf (x:=.ret) trivial (by simpa only[evC]using h))
 |exit id=>intro ann K E tm H a w hG st hf h;exact wp_exit (.mk hG st hf (x:=.exit id) rfl (by simpa only[evC]using h))
 |region id ops draw=>
  intro ann K E tm H a w hG st hf h;have hk:KOk C n E0 H0 w0 out (λtm H=>K .normal tm H) (Ty C n E0 H0 w0 out K .normal):=λE tm H a w hG st hf h=>.mk hG st hf (x:=.normal) trivial h;have eX:Vm7 C n E0 H0 w0 out (λv tm H=>K (.pan v) tm H) (Ty C n E0 H0 w0 out K):=λE tm H a w x v hG st hf hv h=>.mk hG st hf (x:=.pan x) ⟨v,rfl,hv⟩ h;cases draw with
  |false=>exact Vat hC hk eX hG st hf (by simpa only[evC]using h)
  |true=>
   cases ann with
   |reg perm=>
    simp only[evC]at h;split at h
    ·rename_i hok;exact hD _ n E0 H0 w0 out ops perm _ _ _ id E tm H a w hk eX hok hG st hf h
    ·cases h
   |regp perm=>
    simp only[evC]at h;split at h
    ·rename_i hok;exact hD _ n E0 H0 w0 out ops perm _ _ _ id E tm H a w hk eX hok hG st hf h
    ·cases h
   |_=>simp[evC]at h
 |seq x y ihx ihy=>
  intro ann K E tm H a w hG st hf h;cases ann with
  |tw p q=>simp only[evC]at h;refine wp_seq (wp_mono (ihx p _ E tm H a w hG st hf h) (PB λE H tm a w hG st hf h=>ihy q K E tm H a w hG st hf h))
  |join L p q=>simp only[evC,AM]at h;refine wp_seq (wp_mono (ihx p _ E tm H a w hG st hf h) (PB λE H tm a w hG st hf h=>ihy q K E _ H a w hG st (VbZ hf L) h))
  |_=>simp[evC]at h
 |cond c x y ihx ihy=>
  intro ann K E tm H a w hG st hf h;cases ann with
  |tw p q=>
   simp only[evC]at h;unfold Ak at h;split at h
   ·rename_i t ht;have hr:=MI (C:=C) hG hf.rel c;rw[ht]at hr;have hc:=hr.bool_inv;cases t with
    |true=>exact wp_cond hc (ihx p K E tm H a w hG st hf (by simpa using h))
    |false=>exact wp_cond hc (ihy q K E tm H a w hG st hf (by simpa using h))
   ·rename_i ht;have hr:=MI (C:=C) hG hf.rel c;rw[ht]at hr;obtain⟨t,hc⟩:∃t,a.eval c=.bool t:=by generalize a.eval c=u at hr;cases hr;exact⟨_,rfl⟩
    split at h
    ·rename_i heq;cases t with
     |true=>exact wp_cond hc (ihx p K E tm H a w hG st hf h)
     |false=>exact wp_cond hc (ihy q K E tm H a w hG st hf (by rw[<-heq];exact h))
    ·cases h
   ·cases h
  |_=>simp[evC]at h
 |block id x ih=>
  intro ann K E tm H a w hG st hf h;cases ann with
  |one p=>
   simp only[evC]at h;refine wp_block (wp_mono (ih p _ E tm H a w hG st hf h) ?_);rintro e a w ⟨E,H,tm,x,hG,st,hf,hx,h⟩;cases x <;> cases e <;> first | exact hx.elim | skip
   ·exact⟨E,H,tm,.normal,hG,st,hf,trivial,h⟩
   ·rename_i i j;have hx':i=j:=hx;subst hx';simp only[VfR]at h;simp only[Exit.inBlock];split
    ·rename_i hid;rw[if_pos hid]at h;exact⟨E,H,tm,.normal,hG,st,hf,trivial,h⟩
    ·rename_i hid;rw[if_neg hid]at h;exact⟨E,H,tm,.exit i,hG,st,hf,rfl,h⟩
   ·exact⟨E,H,tm,.ret,hG,st,hf,trivial,h⟩
   ·exact⟨E,H,tm,_,hG,st,hf,hx,h⟩
  |_=>simp[evC]at h
 |loop x ih=>
  intro ann K E tm H a w hG st hf h;cases ann with
  |loop L p=>
   simp only[evC]at h
   let G:=λ(rec:List Ab->Aa->Out) (vs:List Ab) (H:Aa)=>evC C n x p (Vka (λtm H=>rec (Ip L tm) H) K) (Og n L vs) H
   refine Vaa (λm a w=>∃E tm H,DM C.G E/\BL E0 H0 w0 E H w/\HF n E H tm a w/\Am G m (Ip L tm) H=some out) ?_ ?_ AP a w ⟨E,tm,H,hG,st,hf,h⟩
   ·rintro a w ⟨E,tm,H,_,_,_,h⟩;simp[Am]at h
   ·rintro m a w ⟨E,tm,H,hG,st,hf,h⟩;simp only[Am,G]at h;exact wp_mono (ih p _ E _ H a w hG st (VbZ hf L) h) (PB λE H tm a w hG st hf h=>⟨E,tm,H,hG,st,hf,h⟩)
  |_=>simp[evC]at h
 |_=>intro ann K E tm H a w hG st hf h;cases ann <;> simp[evC]at h

end
inductive RL (n:Nat):Ab->Prop
 |undef:RL n .undef
 |bool (b:Bool):RL n (.bool b)
 |ubool:RL n .ubool
 |int (k:IntKind) (i:Int):RL n (.int k i)
 |str (s:zAa):RL n (.str s)
 |nilp:RL n .nilp
 |ptr {id g off:Nat} (h:id<n):RL n (.ptr id g off)
 |cptr {cells:List Ab} {off:Nat} (h:∀(i:Nat) (c:Ab),cells[i]? = some c->RL n c):RL n (.cptr cells off)
 |sl {es:List (List Ab)} {tk:Tok} (ht:∀t,tk=.own t->t<n) (h:∀(i:Nat) (e:List Ab) (j:Nat) (c:Ab),es[i]? = some e->e[j]? = some c->RL n c):RL n (.sl es tk)
 |ms {id g off len cap sz:Nat} {ex:Bool} (h:id<n):RL n (.ms id g off len cap sz ex)
 |fn {f:FuncId} {caps:List Ab} (h:∀(i:Nat) (c:Ab),caps[i]? = some c->RL n c):RL n (.fn f caps)
 |bfn {f:FuncId} {first:List Ab} (h:∀(i:Nat) (c:Ab),first[i]? = some c->RL n c):RL n (.bfn f first)
 |nilfn:RL n .nilfn
 |mp {id:Nat} (h:id<n):RL n (.mp id)
 |nilmap:RL n .nilmap
 |iface {t:TypeId} {x:Ab} (h:RL n x):RL n (.iface t x)
 |nilif:RL n .nilif
 |agg {cs:List Ab} (h:∀(i:Nat) (c:Ab),cs[i]? = some c->RL n c):RL n (.agg cs)
 |tup {cs:List Ab} (h:∀(i:Nat) (c:Ab),cs[i]? = some c->RL n c):RL n (.tup cs)
theorem G5 {α β:Type}{xs:List α}{vs:Array β}(h:xs.length=vs.size){i:Nat}{c:α}(hc:xs[i]? = some c):∃v,vs[i]? = some v:=by have:i<xs.length:=(Vn.1 hc).1;exact⟨vs[i]'(by omega),by simp[show i<vs.size from by omega]⟩
theorem Au.rl {E:Env}{n:Nat}(hd:∀id g b,E.φ id g=some b->id<n){x:Ab}{v:Value}(h:Au E x v):RL n x:=by
 induction h with
 |undef v=>exact .undef
 |bool b=>exact .bool b
 |ubool b=>exact .ubool
 |int k i=>exact .int k i
 |str s=>exact .str s
 |nilp=>exact .nilp
 |ptr h=>exact .ptr (hd _ _ _ h)
 |cptr f hI hm hv ih=>exact .cptr ih
 |sl0 ht ha=>refine .sl (λt e=>?_) (λi e j c h=>by simp at h);subst e;obtain⟨b,h1,_⟩:=ht;exact hd _ _ _ h1
 |sl f hl hI hm hv hc ht ih=>refine .sl (λt e=>?_) ih;subst e;obtain⟨b,h1,_⟩:=ht;exact hd _ _ _ h1
 |ms h _ _ _ _=>exact .ms (hd _ _ _ h)
 |fn hn hv ih=>exact .fn λi c hc=>by obtain⟨v,aU⟩:=G5 hn hc;exact ih i c v hc aU
 |bfn hn hv ih=>exact .bfn λi c hc=>by obtain⟨v,aU⟩:=G5 hn hc;exact ih i c v hc aU
 |nilfn=>exact .nilfn
 |mp h=>exact .mp (hd _ _ _ h)
 |nilmap=>exact .nilmap
 |iface _ ih=>exact .iface ih
 |nilif=>exact .nilif
 |agg hn hv ih=>exact .agg λi c hc=>by obtain⟨v,aU⟩:=G5 hn hc;exact ih i c v hc aU
 |tup hn hv ih=>exact .tup λi c hc=>by obtain⟨v,aU⟩:=G5 hn hc;exact ih i c v hc aU
theorem Au.cut {E E':Env}{n:Nat}(hφ:∀id g b,id<n->E.φ id g=some b->E'.φ id g=some b)(hκ:∀id g b,id<n->E.κ id g=some b->E'.κ id g=some b)(hI:∀b o v,E.I b o=some v->E'.I b o=some v)
  {x:Ab}{v:Value}(h:Au E x v):RL n x->Au E' x v:=by
 induction h with
 |undef v=>exact λ_=>.undef v
 |bool b=>exact λ_=>.bool b
 |ubool b=>exact λ_=>.ubool b
 |int k i=>exact λ_=>.int k i
 |str s=>exact λ_=>.str s
 |nilp=>exact λ_=>.nilp
 |ptr h=>intro r;cases r with | ptr hl=>exact .ptr (hφ _ _ _ hl h)
 |cptr f hI' hm hv ih=>intro r;cases r with | cptr hl=>exact .cptr f (λi hi=>hI _ _ _ (hI' i hi)) hm (λi c hc=>ih i c hc (hl i c hc))
 |sl0 ht ha=>
  intro r;rename_i tk a cap;cases r with
  |sl hl _=>
   refine .sl0 ?_ ha;cases tk with
   |no=>trivial
   |ti=>exact ht
   |own t=>obtain⟨b,h1,h2,h3⟩:=ht;exact⟨b,hφ _ _ _ (hl t rfl) h1,hκ _ _ _ (hl t rfl) h2,h3⟩
 |sl f hl hI' hm hv hc ht ih=>
  intro r;rename_i es tk b o s cap;cases r with
  |sl hlt hr=>
   refine .sl f hl (λi j hi hj=>hI _ _ _ (hI' i j hi hj)) hm (λi e j c h1 h2=>ih i e j c h1 h2 (hr i e j c h1 h2)) hc ?_;cases tk with
   |no=>trivial
   |ti=>exact ht
   |own t=>obtain⟨b,h1,h2,h3⟩:=ht;exact⟨b,hφ _ _ _ (hlt t rfl) h1,hκ _ _ _ (hlt t rfl) h2,h3⟩
 |ms h hc hl he ho hk=>intro r;cases r with | ms dG=>exact .ms (hφ _ _ _ dG h) hc hl he ho (λa b=>⟨hκ _ _ _ dG (hk a b).1,(hk a b).2⟩)
 |fn hn hv ih=>intro r;cases r with | fn hl=>exact .fn hn λi c v h1 h2=>ih i c v h1 h2 (hl i c h1)
 |bfn hn hv ih=>intro r;cases r with | bfn hl=>exact .bfn hn λi c v h1 h2=>ih i c v h1 h2 (hl i c h1)
 |nilfn=>exact λ_=>.nilfn
 |mp h=>intro r;cases r with | mp hl=>exact .mp (hφ _ _ _ hl h)
 |nilmap=>exact λ_=>.nilmap
 |iface _ ih=>intro r;cases r with | iface hl=>exact .iface (ih hl)
 |nilif=>exact λ_=>.nilif
 |agg hn hv ih=>intro r;cases r with | agg hl=>exact .agg hn λi c v h1 h2=>ih i c v h1 h2 (hl i c h1)
 |tup hn hv ih=>intro r;cases r with | tup hl=>exact .tup hn λi c v h1 h2=>ih i c v h1 h2 (hl i c h1)
section
variable {C:Cfg}
open Classical in
noncomputable def Env.cut (E:Env)(H:Aa)(w:World)(n:Nat):Env where
 φ:=λi g=>if i<n then E.φ i g else none
 κ:=λi g=>if i<n then E.κ i g else none
 I:=λb o=>match E.I b o with
  |some v=>some v
  |none=>if ∃id,n<=id/\loc E H id=some b then w.cell? ⟨b,o,none⟩else none
theorem Sim.cut {E0 E:Env}{H0 H:Aa}{w0 w:World}(hs0:Sim E0 H0 w0)(hs:Sim E H w)(st:BL E0 H0 w0 E H w)(ht:H.take H0.length=H0) :
  Sim (E.cut H w H0.length) H0 w/\BL E0 H0 w0 (E.cut H w H0.length) H0 w:=by
 have bL:∀i,i<H0.length->H[i]? = H0[i]? := λi hi=>by rw[<-ht,Wj hi]
 have hI:∀b o v,E.I b o=some v->(E.cut H w H0.length).I b o=some v:=λb o v h=>by simp[Env.cut,h]
 have hφ:∀id g b,id<H0.length->E.φ id g=some b->(E.cut H w H0.length).φ id g=some b:=λid g b h1 h2=>by simp[Env.cut,h1,h2]
 have hκ:∀id g b,id<H0.length->E.κ id g=some b->(E.cut H w H0.length).κ id g=some b:=λid g b h1 h2=>by simp[Env.cut,h1,h2]
 have hφ':∀id g b,(E.cut H w H0.length).φ id g=some b->id<H0.length/\E.φ id g=some b:=λid g b h=>by
  simp only[Env.cut]at h;split at h
  ·rename_i h1;exact⟨h1,h⟩
  ·cases h
 have hκ':∀id g b,(E.cut H w H0.length).κ id g=some b->id<H0.length/\E.κ id g=some b:=λid g b h=>by
  simp only[Env.cut]at h;split at h
  ·rename_i h1;exact⟨h1,h⟩
  ·cases h
 have hle:E0.le (E.cut H w H0.length):=⟨λid g b h=>hφ id g b (hs0.dom _ _ _ h) (st.le.φ _ _ _ h),λid g b h=>hκ id g b (hs0.domk _ _ _ h) (st.le.κ _ _ _ h),λb o v h=>hI _ _ _ (st.le.I _ _ _ h)⟩;have hIkeep:∀i b,i<H0.length->loc E H i=some b->∀o,(E.cut H w H0.length).I b o=E.I b o:=by
  intro i b hi hl o;simp only[Env.cut];cases hx:E.I b o with
  |some v=>rfl
  |none=>simp only[];rw[if_neg];rintro⟨id,h1,h2⟩;have:=hs.inj i id b hl h2;omega
 have locB':∀i B,i<H0.length->Cr (E.cut H w H0.length) i B=Cr E i B:=by intro i B hi;cases B <;> simp[Cr,Env.cut,hi]
 have loc':∀i b,loc (E.cut H w H0.length) H0 i=some b->i<H0.length/\loc E H i=some b:=by
  intro i b hl;unfold loc at hl ⊢;cases hH:H0[i]? with
  |none=>simp[hH]at hl
  |some B=>have hi:i<H0.length:=(Vn.1 hH).1;rw[hH]at hl;refine⟨hi,?_⟩;rw[bL i hi,hH];simp only[zXa]at hl ⊢;rw[<-locB' i B hi];exact hl
 constructor
 ·refine⟨λi B hB=>?_,λi g b h=>(hφ' i g b h).1,λi g b h=>(hκ' i g b h).1,λi B n hB hn g hg=>?_,λi i' b h1 h2=>hs.inj i i' b (loc' i b h1).2 (loc' i' b h2).2,λb o v hv=>?_,λb cs hf=>⟨(hs.fix b cs hf).1,(hs.fix b cs hf).2.1.imp λv hv=>hI _ _ _ hv,λi hi=>(hs.fix b cs hf).2.2 i (loc' i b hi).2⟩⟩
  ·have hi:i<H0.length:=(Vn.1 hB).1;have hB0:=hs0.blk i B hB;have hB1:=hs.blk i B (by rw[bL i hi];exact hB);have cA:∀b,Cr E i B=some b->loc E H i=some b:=λb hb=>by unfold loc;rw[bL i hi,hB];exact hb
   cases B with
   |dead=>trivial
   |cel g cells=>obtain⟨b,cs,t,h1,h2,h3,h4⟩:=hB1;obtain⟨b0,cs0,t0,k1,k2,k3,k4⟩:=hB0;refine⟨b,cs,t,hφ _ _ _ hi h1,h2,⟨h3.1,λj c v hc hv=>?_⟩,λo=>by rw[hIkeep i b hi (cA b h1)];exact h4 o⟩;obtain⟨v0,_,hv0⟩:=k3.get hc;exact (h3.2 j c v hc hv).cut hφ hκ hI (hv0.rl hs0.dom)
   |typ t cells=>obtain⟨b,cs,h1,h2,h3,h4⟩:=hB1;obtain⟨b0,cs0,k1,k2,k3,k4⟩:=hB0;refine⟨b,cs,hφ _ _ _ hi h1,h2,⟨h3.1,λj c v hc hv=>?_⟩,λo=>by rw[hIkeep i b hi (cA b h1)];exact h4 o⟩;obtain⟨v0,_,hv0⟩:=k3.get hc;exact (h3.2 j c v hc hv).cut hφ hκ hI (hv0.rl hs0.dom)
   |tok n e sz=>obtain⟨b,cap,cs,h1,h2,h3,h4,h5,h6,h7⟩:=hB1;exact⟨b,cap,cs,hφ _ _ _ hi h1,hκ _ _ _ hi h2,h3,h4,h5,h6,λo ho=>by rw[hIkeep i b hi (cA b h1)];exact h7 o ho⟩
   |buf g cells e sz=>obtain⟨b,cap,cs,h1,h2,h3,h4,h5,h6,h7,h8⟩:=hB1;obtain⟨b0,cap0,cs0,k1,k2,k3,k4,k5,k6,k7,k8⟩:=hB0;refine⟨b,cap,cs,hφ _ _ _ hi h1,hκ _ _ _ hi h2,h3,h4,h5,h6,⟨h7.1,λj c v hc hv=>?_⟩,λo=>by rw[hIkeep i b hi (cA b h1)];exact h8 o⟩;obtain⟨v0,_,hv0⟩:=k7.get hc;exact (h7.2 j c v hc hv).cut hφ hκ hI (hv0.rl hs0.dom)
   |map es=>obtain⟨b,en,ck,h1,h2,h3,h4⟩:=hB1;obtain⟨b0,en0,ck0,k1,k2,k3,k4⟩:=hB0;refine⟨b,en,ck,hφ _ _ _ hi h1,h2,h3,λj k v hj=>?_⟩;obtain⟨e,q1,q2,q3⟩:=h4 j k v hj;obtain⟨e0,r1,r2,r3⟩:=k4 j k v hj;exact⟨e,q1,q2.cut hφ hκ hI (r2.rl hs0.dom),q3.cut hφ hκ hI (r3.rl hs0.dom)⟩
   |iter s pos=>obtain⟨b,h1,h2⟩:=hB1;exact⟨b,hφ _ _ _ hi h1,h2⟩
  ·have hi:i<H0.length:=(Vn.1 hB).1;obtain⟨h1,h2⟩:=hs.late i B n (by rw[bL i hi];exact hB) hn g hg;exact⟨by simp[Env.cut,h1],by simp[Env.cut,h2]⟩
  ·simp only[Env.cut]at hv;cases hx:E.I b o with
   |some u=>rw[hx]at hv;simp only[Vv]at hv;subst hv;exact hs.imm _ _ _ hx
   |none=>
    rw[hx]at hv;simp only[]at hv;split at hv
    ·exact hv
    ·cases hv
 ·refine⟨hle,st.os,st.tape,st.output,st.size,st.frame,λb ⟨i,hi⟩=>st.own b ⟨i,(loc' i b hi).2⟩,λb o hb ho=>?_⟩;rw[<-st.imm b o hb ho];simp only[Env.cut];cases hx:E.I b o with
  |some v=>rfl
  |none=>
   simp only[];rw[if_neg];rintro⟨id,h1,h2⟩;rcases st.own b ⟨id,h2⟩with h3 | h3
   ·exact ho h3
   ·omega
theorem VcD {E:Env}{n:Nat}{x:Ab}{v:Value}(h:Au E x v):BG x=true->RL n x:=by
 induction h with
 |undef v=>intro h;simp[BG]at h
 |bool b=>exact λ_=>.bool b
 |ubool b=>intro h;simp[BG]at h
 |int k i=>exact λ_=>.int k i
 |str s=>exact λ_=>.str s
 |nilp=>exact λ_=>.nilp
 |ptr h=>intro h;simp[BG]at h
 |cptr f hI hm hv ih=>exact λ_=>.cptr λi c hc=>ih i c hc (hm i c hc)
 |sl0 ht ha=>rename_i tk a cap;intro h;exact .sl (λt e=>by subst e;simp[BG]at h) (λi e j c h=>by simp at h)
 |sl f hl hI hm hv hc ht ih=>rename_i es tk b o s cap;intro h;exact .sl (λt e=>by subst e;simp[BG]at h) (λi e j c h1 h2=>ih i e j c h1 h2 (hm i e j c h1 h2))
 |ms _ _ _ _ _=>intro h;simp[BG]at h
 |fn _ _ _=>intro h;simp[BG]at h
 |bfn _ _ _=>intro h;simp[BG]at h
 |nilfn=>exact λ_=>.nilfn
 |mp _=>intro h;simp[BG]at h
 |nilmap=>exact λ_=>.nilmap
 |iface _ _=>intro h;simp[BG]at h
 |nilif=>exact λ_=>.nilif
 |agg _ _ _=>intro h;simp[BG]at h
 |tup _ _ _=>intro h;simp[BG]at h
theorem Vm2 {p:Ab->Bool}{l:List Ab}(h:l.all p=true){c:Ab}(hc:c∈l):p c=true:=V7.1 h c hc
theorem Vkf {E:Env}{H:Aa}{w:World}{n:Nat}(hs:Sim E H w) :
  ∀d,(∀x x' v,frz H n d x=some x'->Au E x v->Au (E.cut H w n) x' v)/\(∀xs xs' vs,FP H n d xs=some xs'->A1 E xs vs->A1 (E.cut H w n) xs' vs):=by
 have hI:∀b o v,E.I b o=some v->(E.cut H w n).I b o=some v:=λb o v h=>by simp[Env.cut,h]
 have hφ:∀id g b,id<n->E.φ id g=some b->(E.cut H w n).φ id g=some b:=λid g b h1 h2=>by simp[Env.cut,h1,h2]
 have hκ:∀id g b,id<n->E.κ id g=some b->(E.cut H w n).κ id g=some b:=λid g b h1 h2=>by simp[Env.cut,h1,h2]
 intro d
 induction d with
 |zero=>exact⟨λx x' v h=>by simp[frz]at h,λx x' v h=>by simp[FP]at h⟩
 |succ d ih=>
  obtain⟨ih1,ih2⟩:=ih;constructor
  ·intro x x' v h hx;have plain:RL n x->x'=x->Au (E.cut H w n) x' v:=λh1 h2=>by rw[h2];exact hx.cut hφ hκ hI h1
   cases x with
   |undef=>simp[frz]at h
   |ptr id g off=>
    simp only[frz]at h;split at h
    ·rename_i hid;injection h with h;exact plain (.ptr hid) h.symm
    ·cases h
   |mp id=>
    simp only[frz]at h;split at h
    ·rename_i hid;injection h with h;exact plain (.mp hid) h.symm
    ·cases h
   |ms id g off len cap sz ex=>
    simp only[frz]at h;split at h
    ·rename_i hid;injection h with h;exact plain (.ms hid) h.symm
    ·rename_i hid;cases hg:A6 H id g with
     |none=>simp[hg]at h
     |some cs=>
      simp only[hg,zXa]at h;split at h
      ·rename_i hle;cases hf:FP H n d ((cs.drop off).take (len*sz))with
       |none=>simp[hf]at h
       |some cs'=>
        simp only[hf,zXa]at h;split at h
        ·rename_i gL;injection h with h;subst h;obtain⟨⟨B0,hH,hlB,_⟩,b,vs,t,q1,q2,q3,zM,q4⟩:=Gw hs hg;have hrel:=ih2 _ _ (((vs.toList.take cs.length).drop off).take (len*sz)) hf ((q3.drop off).take (len*sz));have dG:cs'.length=len*sz:=by rw[hrel.1,<-((q3.drop off).take (len*sz)).1,V5,V9];omega
         obtain⟨k1,k2⟩:=Kz sz len cs' dG;have k3:=Qk sz len cs';cases hx with
         |ms p1 p2 p3 p4 p5 p6=>
          rename_i off' cap' b';rw[q1]at p1;cases p1;have jT:KR (E.cut H w n) (if (ex&&decide (cap=len))=true then .ti else .no) (some ⟨b,off',none⟩) len cap':=by
           split
           ·rename_i hc;simp only[Vx,zXe]at hc;show cap'=len;rw[p4 hc.1];exact hc.2
           ·trivial
          have dK:loc E H id=some b:=by unfold loc;rw[hH];simp only[zXa];rw[hlB];exact q1
          have hIc:∀o u,w.cell? ⟨b,o,none⟩=some u->(E.cut H w n).I b o=some u:=by intro o u hu;simp only[Env.cut,q4 o];rw[if_pos ⟨id,by omega,dK⟩];exact hu
          have qV:(if ex=true/\cap=len then Tok.ti else Tok.no)=(if (ex&&decide (cap=len))=true then .ti else .no):=by simp
          rw[qV];by_cases hz:len=0
          ·subst hz;have:Gz sz 0 cs'=[]:=rfl;rw[this];exact .sl0 jT (λh=>by cases h)
          ·have key:∀(i j:Nat) (e:List Ab) (c:Ab),(Gz sz len cs')[i]? = some e->e[j]? = some c->∃u,(E.cut H w n).I b (off'+(i*sz+j))=some u/\Au (E.cut H w n) c u/\BG c=true:=by intro i j e c h1 h2;have h3:=EU _ i j e c k2 h1 h2;rw[k1]at h3;obtain⟨u,h4,h5⟩:=hrel.get h3;refine⟨u,hIc _ _ ?_,h5,Vm2 gL (VE h3)⟩;rw[Bg q2,p5 (by omega)];have:=Jv h4;rw[VP]at this;have:=Ii this;simpa using this
           have:=Au.sl (E:=E.cut H w n) (es:=Gz sz len cs') (b:=b) (o:=off') (s:=sz) (cap:=cap') (λi j=>((E.cut H w n).I b (off'+(i*sz+j))).getD undef) (λi e h=>k2 e (VE h)) (λi j hi hj=>?_)
            (λi e j c h1 h2=>(key i j e c h1 h2).elim λ_ h=>h.2.2) (λi e j c h1 h2=>?_) (by rw[k3];omega) (by rw[k3];exact jT)
           ·rw[k3]at this;exact this
           ·have gW:=k2 _ (Vz hi);obtain⟨u,h1,_⟩:=key i j _ _ (Vl hi) (Vl (show j<((Gz sz len cs')[i]).length by omega));rw[h1];rfl
           ·obtain⟨u,h3,h4,_⟩:=key i j e c h1 h2;rw[h3];exact h4
        ·cases h
      ·cases h
   |sl es tk=>
    cases tk with
    |own t=>
     simp only[frz]at h;have gL:BG (.sl es .no)=true:=rfl;have cJ:Au E (.sl es .no) v:=by
      cases hx with
      |sl0 ht ha=>exact .sl0 trivial ha
      |sl f hl hI' hm hv hc ht=>exact .sl f hl hI' hm hv hc trivial
     have kJ:RL n (.sl es .no):=VcD cJ gL;split at h
     ·rename_i ht;injection h with h;refine plain ?_ h.symm;cases kJ with
      |sl _ hr=>exact .sl (λt' e=>by cases e;exact ht) hr
     ·injection h with h;subst h;exact cJ.cut hφ hκ hI kJ
    |no=>simp only[frz,Vv]at h;exact plain (VcD hx rfl) h.symm
    |ti=>simp only[frz,Vv]at h;exact plain (VcD hx rfl) h.symm
   |fn f caps=>
    simp only[frz]at h;cases hf:FP H n d caps with
    |none=>simp[hf]at h
    |some caps'=>
     simp only[hf,zXb,Vv]at h;subst h;cases hx with
     |fn hn hv=>rename_i vs;have:=ih2 _ _ vs.toList hf ⟨by simpa using hn,λi c v h1 h2=>hv i c v h1 (by simpa using h2)⟩;exact .fn (by simpa using this.1) λi c v h1 h2=>this.2 i c v h1 (by simpa using h2)
   |bfn f first=>simp only[frz]at h;cases h
   |ubool=>simp only[frz]at h;cases h
   |iface t y=>
    simp only[frz]at h;cases hf:frz H n d y with
    |none=>simp[hf]at h
    |some y'=>simp only[hf,zXb,Vv]at h;subst h;obtain⟨u,rfl,hu⟩:=hx.iface_inv;exact .iface (ih1 _ _ _ hf hu)
   |agg cs=>
    simp only[frz]at h;cases hf:FP H n d cs with
    |none=>simp[hf]at h
    |some cs'=>simp only[hf,zXb,Vv]at h;subst h;obtain⟨vs,rfl,hv⟩:=hx.agg_cells;exact .agg_of (ih2 _ _ _ hf hv)
   |tup cs=>
    simp only[frz]at h;cases hf:FP H n d cs with
    |none=>simp[hf]at h
    |some cs'=>simp only[hf,zXb,Vv]at h;subst h;obtain⟨vs,rfl,hv⟩:=hx.tup_cells;exact .tup_of (ih2 _ _ _ hf hv)
   |_=>simp only[frz,Vv]at h;exact plain (VcD hx rfl) h.symm
  ·intro xs
   induction xs with
   |nil=>intro xs' vs h hv;simp only[FP,Vv]at h;subst h;have:vs=[]:=V6 (by rw[<-hv.1];rfl);subst this;exact .nil _
   |cons x xs ihx=>
    intro xs' vs h hv;cases vs with
    |nil=>have:=hv.1;simp at this
    |cons v vs=>
     simp only[FP]at h;cases hf:frz H n d x with
     |none=>simp[hf]at h
     |some x'=>
      simp only[hf,zXa]at h;cases hr:FP H n (d+1) xs with
      |none=>simp[hr]at h
      |some r'=>simp only[hr,zXb,Vv]at h;subst h;exact .cons (ih1 _ _ _ hf hv.head) (ihx _ _ hr hv.tail)

end
section
variable {C:Cfg}{E:Env}{H:Aa}{w:World}
theorem VeO {n:Nat}{tm:List Ab}{a:Act}(hf:HF n E H tm a w){rv:ResultVar}{x:Ab}(h:HN C tm H rv=some x) :
  ∃v,((match rv with
   |.tmp t=>pure (a.tmps.getD t undef)
   |.cell ad t=>do loadVar t (<-asAddr (a.tmps.getD ad undef))):Sem Value).run C.P w=.ok v w/\Au E x v:=by
 cases rv with
 |tmp t=>simp only[HN,Vv]at h;subst h;exact⟨_,rfl,J5 hf.rel t⟩
 |cell ad t=>
  simp only[HN]at h;split at h
  ·cases h
  ·rename_i hk;obtain⟨⟨d,hd⟩,_⟩:=Cz (P:=C.P) (t:=t) (by simpa using hk);have hr:=J5 hf.rel ad;obtain⟨v,h1,h2⟩:=VfH hd hf.sim hr h;have hp:∃p,a.tmps.getD ad undef=.pointer (some p):=by
    unfold Ad at h;split at h
    ·rename_i id g o he;rw[he]at hr;obtain⟨b,_,h3⟩:=hr.ptr_inv;exact⟨_,h3⟩
    ·rename_i cs o he;rw[he]at hr;obtain⟨b,o',h3⟩:=hr.cptr_inv;exact⟨_,h3⟩
    ·cases h
   obtain⟨p,hp⟩:=hp;refine⟨v,?_,h2⟩;rw[hp]at h1;show (do loadVar t (<-asAddr (a.tmps.getD ad undef)):Sem Value).run C.P w=_;rw[hp];simpa[Instr.loadAt,Instr.sureAddr,asAddr]using h1
theorem L6 {n:Nat}{tm:List Ab}{a:Act}(hf:HF n E H tm a w):∀(rs:List ResultVar) (xs:List Ab),EN C tm H rs=some xs ->
  ∃vs:List Value,(rs.mapM (fun | .tmp t=>pure (a.tmps.getD t undef) | .cell ad t=>do loadVar t (<-asAddr (a.tmps.getD ad undef)):ResultVar->Sem Value)).run C.P w=.ok vs w/\A1 E xs vs
 |[],xs,h=>by simp only[EN,Vv]at h;subst h;exact⟨[],by simp,.nil E⟩
 |r::rs,xs,h=>by
  simp only[EN]at h;cases h1:HN C tm H r with
  |none=>simp[h1]at h
  |some x=>
   simp only[h1,zXa]at h;cases h2:EN C tm H rs with
   |none=>simp[h2]at h
   |some xs'=>simp only[h2,zXb,Vv]at h;subst h;obtain⟨v,g1,g2⟩:=VeO hf h1;obtain⟨vs,g3,g4⟩:=L6 hf rs xs' h2;refine⟨v::vs,?_,.cons g2 g4⟩;rw[Yd];simp only[zXf,g1,zXg,g3,Sem.run_pure]
theorem Sa {n:Nat}{fn:Func}{tm:List Ab}{a:Act}(hf:HF n E H tm a w){x:Ab}(h:F3 C fn.results.toList tm H=some x):∃v,(results fn a.tmps).run C.P w=.ok v w/\Au E x v:=by
 have aC:∀vs:List Value,(fn.results.toList.mapM (fun | .tmp t=>pure (a.tmps.getD t undef) | .cell ad t=>do loadVar t (<-asAddr (a.tmps.getD ad undef)):ResultVar->Sem Value)).run C.P w=.ok vs w ->
   (results fn a.tmps).run C.P w=.ok (if h:vs.toArray.size=1 then vs.toArray[0]else .tuple vs.toArray) w:=by
  intro vs oD;unfold results;rw[Array.mapM_eq_mapM_toList];simp only[map_eq_pure_bind,zXf,Sem.run_pure];erw[oD]
  rfl
 unfold F3 at h;split at h
 ·rename_i r hr;obtain⟨vs,g1,g2⟩:=L6 (C:=C) hf [r] [x] (by simp[EN,h]);rw[<-hr]at g1;refine⟨_,aC vs g1,?_⟩;have hl:vs.length=1:=by rw[<-g2.1];rfl
  obtain⟨v,rfl⟩:=Xj.1 hl;simpa using g2.head
 ·rename_i hne;cases hx:EN C tm H fn.results.toList with
  |none=>simp[hx]at h
  |some xs=>
   simp only[hx,zXb,Vv]at h;subst h;obtain⟨vs,g1,g2⟩:=L6 hf _ _ hx;refine⟨_,aC vs g1,?_⟩;have hl:¬(vs.toArray.size=1):=by
    have h1:xs.length=fn.results.toList.length:=by
     clear g1 g2 aC hne;generalize fn.results.toList=rs at hx
     induction rs generalizing xs with
     |nil=>simp only[EN,Vv]at hx;subst hx;rfl
     |cons r rs ih=>
      simp only[EN]at hx;cases h1:HN C tm H r with
      |none=>simp[h1]at hx
      |some y=>
       simp only[h1,zXa]at hx;cases h2:EN C tm H rs with
       |none=>simp[h2]at hx
       |some ys=>simp only[h2,zXb,Vv]at hx;subst hx;simp[ih _ h2]
    intro hs;have h2:fn.results.toList.length=1:=by rw[<-h1,g2.1];simpa using hs
    obtain⟨r,hr⟩:=Xj.1 h2;exact hne r hr
   rw[dif_neg hl];exact .tup_of (by simpa using g2)
theorem Rv {E0:Env}{H0:Aa}{w0:World}{m:Fe}(hm:m=.keep\/m=.pure)(hs0:Sim E0 H0 w0)(st:BL E0 H0 w0 E H w)(hs:Sim E H w){r:Res}{e:Ending}(hr:IH E r e){out:Res×Aa}(h:fin m H0 r H=some out) :
  ∃E',IH E' out.1 e/\Sim E' out.2 w/\BL E0 H0 w0 E' out.2 w:=by
 cases m with
 |keepN=>rcases hm with hm | hm <;> cases hm
 |pureN=>rcases hm with hm | hm <;> cases hm
 |keep=>simp only[fin,Vv]at h;subst h;exact⟨E,hr,hs,st⟩
 |pure=>
  simp only[fin,chk]at h;split at h
  ·rename_i ht;obtain⟨k1,k2⟩:=hs0.cut hs st ht;cases r with
   |ret v=>
    simp only[]at h;cases hf:frz H H0.length 8 v with
    |none=>simp[hf]at h
    |some v'=>
     simp only[hf,zXb,Vv]at h;subst h;refine⟨_,?_,k1,k2⟩;cases e with
     |returned u=>exact (Vkf hs 8).1 v v' u hf hr
     |panicked c=>exact hr.elim
     |outgrown=>exact hr.elim
   |pan v=>
    simp only[]at h;cases hf:frz H H0.length 8 v with
    |none=>simp[hf]at h
    |some v'=>
     simp only[hf,zXb,Vv]at h;subst h;refine⟨_,?_,k1,k2⟩;cases e with
     |returned u=>exact hr.elim
     |panicked c=>obtain⟨u,h1,h2⟩:=hr;exact⟨u,h1,(Vkf hs 8).1 v v' u hf h2⟩
     |outgrown=>exact hr.elim
  ·cases h
theorem Vkh {x:Ab}{v:Value}(h:Au E x v):Au E (fgt x) v:=by
 cases h with
 |sl0 ht ha=>exact .sl0 trivial ha
 |sl f hl hI hm hv hc ht=>exact .sl f hl hI hm hv hc trivial
 |_=>first | (constructor <;> assumption) | constructor
theorem Vgx {x:Ab}{v:Value}(h:Au E x v):Au E (Em x) v:=by
 unfold Em;split
 ·rename_i cs;obtain⟨vs,rfl,h1⟩:=h.agg_cells;refine .agg_of ⟨by simp[h1.1],λi c u h2 h3=>?_⟩;rw[VK]at h2;cases hc:cs[i]? with
  |none=>simp[hc]at h2
  |some d=>simp[hc]at h2;subst h2;exact Vkh (h1.2 i d u hc h3)
 ·exact Vkh h
theorem Vgn {x:Ab}{v:Value}(h:Au E x v):Au E (forget x) v:=by
 unfold forget;split
 ·rename_i cs;obtain⟨vs,rfl,h1⟩:=h.tup_cells;refine .tup_of ⟨by simp[h1.1],λi c u h2 h3=>?_⟩;rw[VK]at h2;cases hc:cs[i]? with
  |none=>simp[hc]at h2
  |some d=>simp[hc]at h2;subst h2;exact Vgx (h1.2 i d u hc h3)
 ·exact Vgx h
theorem N3 {r:Res}{e:Ending}(h:IH E r e):IH E r.forget e:=by
 cases r with
 |ret v=>cases e with
  |returned u=>exact Vgn (v:=u) h
  |panicked c=>exact h.elim
  |outgrown=>exact h.elim
 |pan v=>exact h
theorem Vgw (H0:Aa)(r:Res)(H:Aa):fin .keepN H0 r H=(fin .keep H0 r H).map λo=>(o.1.forget,o.2):=rfl
theorem Vgu (H0:Aa)(r:Res)(H:Aa):fin .pureN H0 r H=(fin .pure H0 r H).map λo=>(o.1.forget,o.2):=by
 simp only[fin,chk];split
 ·cases r <;> simp[XB,Function.comp_def,Res.forget]
 ·rfl
theorem Vgv {E0:Env}{H0:Aa}{w0:World}{m:Fe}(hs0:Sim E0 H0 w0)(st:BL E0 H0 w0 E H w)(hs:Sim E H w){r:Res}{e:Ending}(hr:IH E r e){out:Res×Aa}(h:fin m H0 r H=some out) :
  ∃E',IH E' out.1 e/\Sim E' out.2 w/\BL E0 H0 w0 E' out.2 w:=by
 cases m with
 |keep=>exact Rv (.inl rfl) hs0 st hs hr h
 |pure=>exact Rv (.inr rfl) hs0 st hs hr h
 |keepN=>
  rw[Vgw]at h;cases hx:fin .keep H0 r H with
  |none=>simp[hx]at h
  |some o=>simp only[hx,zXb,Vv]at h;subst h;obtain⟨E',h1,h2,h3⟩:=Rv (.inl rfl) hs0 st hs hr hx;exact⟨E',N3 h1,h2,h3⟩
 |pureN=>
  rw[Vgu]at h;cases hx:fin .pure H0 r H with
  |none=>simp[hx]at h
  |some o=>simp only[hx,zXb,Vv]at h;subst h;obtain⟨E',h1,h2,h3⟩:=Rv (.inr rfl) hs0 st hs hr hx;exact⟨E',N3 h1,h2,h3⟩
theorem Vpw (hC:MC C)(hD:Vdw C){f:FuncId}{fn:Func}{body:Code}{ann:Ann}{m:Fe}(hf:C.P.funcs[f]? = some fn)(hb:fn.body=some body)(hc:∀(vs:Array Value) (w:World),(callFunc f vs).run C.P w=.ok (.enter f vs) w)
  {args:List Ab}{H:Aa}{res:Res}{H':Aa}(h:fnA C fn body ann m args H=some (res,H'))(hn:args.length<=fn.ntmps):Vhm C.P C.G f args H res H':=by
 intro E w vs hG hs hv;refine .inl ⟨hc vs w,calls_of_wp hf hb ?_⟩;unfold fnA at h;have hlen:args.length=vs.size:=by simpa using hv.1
 have hfr:HF fn.ntmps E H (args++List.replicate (fn.ntmps-args.length) .undef) { tmps:=vs++Array.replicate (fn.ntmps-vs.size) undef,defers:=[] } w:=by
  refine⟨?_,by simp;omega,rfl,hs⟩;rw[Xg];refine hv.append ⟨by simp[hlen],λi c v h1 h2=>?_⟩;rw[Xw]at h1;split at h1
  ·simp at h1;subst h1;exact .undef _
  ·cases h1
 refine wp_mono (SR hC hD body ann _ E _ H _ w hG (.refl E H w) hfr h) ?_;rintro e a w' ⟨E',H1,tm,x,hG',st,iP,hx,hk⟩;have ret:∀y,F3 C fn.results.toList tm H1=some y->fin m H (.ret y) H1=some (res,H')->a.defers=[]/\∃v,(results fn a.tmps).run C.P w'=.ok v w'/\∃E2,IH E2 res (.returned v)/\Sim E2 H' w'/\BL E H w E2 H' w':=by intro y hy hfin;obtain⟨v,h1,h2⟩:=Sa iP hy;obtain⟨E2,g1,g2,g3⟩:=Vgv (r:=.ret y) (e:=.returned v) hs st iP.sim h2 hfin;exact⟨iP.defers,v,h1,E2,g1,g2,g3⟩
 cases x <;> cases e <;> first | exact hx.elim | skip
 ·simp only[]at hk;cases hy:F3 C fn.results.toList tm H1 with
  |none=>simp[hy]at hk
  |some y=>simp only[hy,zXa]at hk;exact ret y hy hk
 ·cases hk
 ·simp only[]at hk;cases hy:F3 C fn.results.toList tm H1 with
  |none=>simp[hy]at hk
  |some y=>simp only[hy,zXa]at hk;exact ret y hy hk
 ·simp only[]at hk;obtain⟨v,rfl,aU⟩:=hx;obtain⟨E2,g1,g2,g3⟩:=Vgv (r:=.pan _) (e:=.panicked [{ v,recovered:=false }]) hs st iP.sim ⟨v,rfl,aU⟩ hk;exact⟨iP.defers,E2,g1,g2,g3⟩

end
theorem SD (acc:Array Nat)(i:Nat):∀(es:List Edge) (s:Nat),(es.foldl (λs e=>if Region.binds .any e then s ||| 2^e.on ||| acc.getD e.on 0 else s) s).testBit i=true ->
  s.testBit i=true\/∃e∈es,Region.binds .any e=true/\(i=e.on\/(acc.getD e.on 0).testBit i=true)
 |[],s,h=>.inl h
 |e::es,s,h=>by
  simp only[List.foldl_cons]at h;rcases SD acc i es _ h with h1 | ⟨e',h1,h2⟩
  ·split at h1
   ·rename_i hb;rw[Nat.testBit_or,Nat.testBit_or,Wn,Wn]at h1;rcases h1 with (h1 | h1) | h1
    ·exact .inl h1
    ·refine .inr ⟨e,by simp,hb,.inl ?_⟩;rw[Nat.testBit_two_pow]at h1;exact (of_decide_eq_true h1).symm
    ·exact .inr ⟨e,by simp,hb,.inr h1⟩
   ·exact .inl h1
  ·exact .inr ⟨e',by simp[h1],h2⟩
theorem Vb6:∀(l:List Oper),let acc:=l.foldl (λ(acc:Array Nat) o=>acc.push (o.after.foldl (λs e=>if Region.binds .any e then s ||| 2^e.on ||| acc.getD e.on 0 else s) 0)) #[]
  acc.size=l.length/\∀j i,(acc.getD j 0).testBit i=true->∃o,l[j]? = some o/\∃e∈o.after,Region.binds .any e=true/\(i=e.on\/(e.on<j/\(acc.getD e.on 0).testBit i=true)):=by
 suffices nA:∀(l:List Oper),let acc:=l.reverse.foldl (λ(acc:Array Nat) o=>acc.push (o.after.foldl (λs e=>if Region.binds .any e then s ||| 2^e.on ||| acc.getD e.on 0 else s) 0)) #[]
   acc.size=l.reverse.length/\∀j i,(acc.getD j 0).testBit i=true->∃o,l.reverse[j]? = some o/\∃e∈o.after,Region.binds .any e=true/\(i=e.on\/(e.on<j/\(acc.getD e.on 0).testBit i=true))by
  intro l;have:=nA l.reverse
  rwa [List.reverse_reverse]at this
 intro l
 induction l with
 |nil=>exact⟨rfl,λj i h=>by simp at h⟩
 |cons o l' ih=>
  rw[XL];generalize l'.reverse=l at ih ⊢;simp only[X1,List.foldl_cons,List.foldl_nil]at ih ⊢;generalize l.foldl (λ(acc:Array Nat) o=>acc.push (o.after.foldl (λs e=>if Region.binds .any e then s ||| 2^e.on ||| acc.getD e.on 0 else s) 0)) #[]=acc at ih ⊢;obtain⟨ih1,ih2⟩:=ih;have bL:∀(v j:Nat),j<acc.size->(acc.push v).getD j 0=acc.getD j 0:=λv j hj=>by rw[V3,V3,WE,if_neg (by omega)]
  refine⟨by simp[ih1],λj i h=>?_⟩;rcases Nat.lt_trichotomy j acc.size with hj | hj | hj
  ·rw[bL _ j hj]at h;obtain⟨o',h1,e,h2,h3,h4⟩:=ih2 j i h;refine⟨o',by rw[Vp (by omega)];exact h1,e,h2,h3,?_⟩;rcases h4 with h4 | ⟨h4,h5⟩
   ·exact .inl h4
   ·exact .inr ⟨h4,by rw[bL _ e.on (by omega)];exact h5⟩
  ·subst hj;refine⟨o,by rw[ih1,VG (Vo _)];simp,?_⟩;rw[V3,WE,if_pos rfl,Option.getD_some,<-Yg]at h;rcases SD acc i _ 0 h with h1 | ⟨e,h1,h2,h3⟩
   ·simp at h1
   ·refine⟨e,by simpa using h1,h2,?_⟩;rcases h3 with h3 | h3
    ·exact .inl h3
    ·have hlt:e.on<acc.size:=by
      rcases VT e.on acc.size with hlt | hge
      ·exact hlt
      ·rw[V3,XW hge]at h3;simp at h3
     exact .inr ⟨hlt,by rw[bL _ _ hlt];exact h3⟩
  ·rw[V3,WE,if_neg (by omega),XW (by omega)]at h;simp at h
theorem Vb5 {ops:Array Oper}{i j:Nat}(h:((Region.before ops).getD j 0).testBit i=true) :
  ∃o,ops[j]? = some o/\∃e∈o.after,Region.binds .any e=true/\(i=e.on\/(e.on<j/\((Region.before ops).getD e.on 0).testBit i=true)):=by
 unfold Region.before at h ⊢;rw[<-Yg]at h ⊢;obtain⟨o,h1,h2⟩:=(Vb6 ops.toList).2 j i h;exact⟨o,by simpa using h1,h2⟩
theorem Jd {ops:Array Oper}{S:Nat->Prop}(hS:∀j o,S j->ops[j]? = some o->∀e∈o.after,Region.binds .any e=true->S e.on) :
  ∀(j i:Nat),(∀o,ops[j]? = some o->∀e∈o.after,Region.binds .any e=true->S e.on)->((Region.before ops).getD j 0).testBit i=true->S i:=by
 intro j
 induction j using Nat.strongRecOn with
 |_ j ih=>
  intro i hj h;obtain⟨o,h1,e,h2,h3,h4⟩:=Vb5 h;have hs:=hj o h1 e h2 h3;rcases h4 with rfl | ⟨h4,h5⟩
  ·exact hs
  ·exact ih e.on h4 i (λo' cZ e' cQ hb'=>hS e.on o' hs cZ e' cQ hb') h5

section
variable {C:Cfg}{H:Aa}{r r':Operand->Ab}
theorem JW {place:Nat->Option (Nat×Nat)}:∀(ps:List (Nat×Operand)),(∀p∈ps,r p.2=r' p.2)->Ji place r ps=Ji place r' ps
 |[],_=>rfl
 |p::ps,h=>by simp only[Ji];rw[h p (by simp),JW ps λq hq=>h q (by simp[hq])]
theorem E9 {α β:Type}{f g:α->β}{l:List α}(h:∀x∈l,f x=g x):l.map f=l.map g:=Xr h
theorem Q1 {op:Op}(h:∀x∈op.operands,r x=r' x):BA C op r H=BA C op r' H:=by
 cases op with
 |build t parts=>
  have hp:∀p∈parts.toList,r p.2=r' p.2:=λp hp=>h p.2 (by simp[Op.operands];exact⟨p.1,by simpa using hp⟩);simp only[BA,So];split
  ·rename_i fs _;cases hx:fs.toList.mapM (λf=>(C.P.info? f.type).map λi=>(f.offset,i.size))with
   |none=>rfl
   |some places=>simp only[zXa];rw[JW _ hp]
  ·rename_i n e _;cases hx:C.P.info? e with
   |none=>rfl
   |some i=>simp only[zXa];rw[JW _ hp]
  ·rfl
 |buildSlice t len parts=>have hp:∀p∈parts.toList,r p.2=r' p.2:=λp hp=>h p.2 (by simp[Op.operands];exact⟨p.1,by simpa using hp⟩);simp only[BA];rw[E9 (f:=λp:Nat×Operand=>r p.2) hp]
 |makeFunc fn first caps=>
  have hp:∀p∈caps.toList,r p=r' p:=λp hp=>h p (by simp[Op.operands];exact .inr (by simpa using hp));have hq:∀p∈first.toList,r p=r' p:=λp hp=>h p (by simp[Op.operands];exact .inl (by simpa using hp))
  simp only[BA];rw[E9 hp,E9 hq]
 |slice t x lo hi mx=>
  have hx:=h x (by simp[Op.operands]);have hl:lo.map r=lo.map r':=by cases lo with | none=>rfl | some y=>simp[h y (by simp[Op.operands])]
  have hh:hi.map r=hi.map r':=by cases hi with | none=>rfl | some y=>simp[h y (by simp[Op.operands])]
  have hm:mx.map r=mx.map r':=by cases mx with | none=>rfl | some y=>simp[h y (by simp[Op.operands])]
  simp only[BA,hx,hl,hh,hm]
 |call c=>
  have hp:∀p∈c.args.toList,r p=r' p:=λp hp=>h p (by simp[Op.operands,Call.operands];exact .inr (by simpa using hp));simp only[BA];generalize c.args.toList=args at hp;split <;> first | rfl | skip
  ·rw[hp _ (by simp)]
  ·rw[hp _ (by simp)]
  ·rename_i tl x xs hq;rw[hp x (by simp),E9 (l:=xs) (f:=r) (g:=r') λy hy=>hp y (by simp[hy])]
  ·rename_i tl x xs hq;rw[hp x (by simp),E9 (l:=xs) (f:=r) (g:=r') λy hy=>hp y (by simp[hy])]
 |_=>simp[Op.operands]at h;simp[BA,h]
theorem VaA {op:Op}(h:∀x∈op.operands,r x=r' x):CH C op r H=CH C op r' H:=by
 cases op with
 |makeMap t x=>
  cases x with
  |none=>rfl
  |some y=>
   have hy:=h y (by simp[Op.operands]);cases hu:C.P.underlying t with
   |none=>simp[CH,hu]
   |some d=>cases d <;> simp[CH,hu,hy]
 |_=>simp[Op.operands]at h;simp[CH,h]
theorem Q2 {op:Op}(h:∀x∈op.operands,r x=r' x):Fy C op r H=Fy C op r' H:=by
 cases op with
 |call c=>
  have hp:∀p∈c.args.toList,r p=r' p:=λp hp=>h p (by simp[Op.operands,Call.operands];exact .inr (by simpa using hp));simp only[Fy];split
  ·generalize c.args.toList=args at hp;split <;> first | rfl | skip
   rename_i x y t ty _;rw[hp x (by simp),hp y (by simp)]
  ·generalize c.args.toList=args at hp;split <;> first | rfl | skip
   rename_i x t _;rw[hp x (by simp)]
  ·rename_i f hf;rw[h f (by simp[Op.operands,Call.operands,hf]),E9 hp]
  ·rfl
 |_=>simp[Op.operands]at h;simp[Fy,h]
theorem Va9 {op:Op}(h:Jf op=false)(H':Aa):BA C op r H=BA C op r H':=by cases op <;> first | rfl | simp[Jf]at h
theorem N1 {id g:Nat}{cs:List Ab}(p:Aa)(h:A6 H id g=some cs):A6 (H++p) id g=some cs:=by
 unfold A6 at h ⊢;cases hx:H[id]? with
 |none=>simp[hx]at h
 |some B=>rw[Vp (Vn.1 hx).1,hx];rw[hx]at h;exact h
theorem VdH {a:Bool}{sz:Nat}{x z:Ab}(p:Aa)(h:Ad a sz x H=some z):Ad a sz x (H++p)=some z:=by
 cases x <;> first | exact h | skip
 rename_i id g o;simp only[Ad]at h ⊢;cases hg:A6 H id g with
 |none=>simp[hg]at h
 |some cs=>rw[N1 p hg];rw[hg]at h;exact h
theorem Tc {x z:Ab}(p:Aa)(h:CF x H=some z):CF x (H++p)=some z:=by
 cases x <;> first | exact h | skip
 rename_i id g off len cap sz ex;simp only[CF]at h ⊢;split at h
 ·rename_i hz;rw[if_pos hz];cases hg:A6 H id g with
  |none=>simp[hg]at h
  |some cs=>rw[N1 p hg];rw[hg]at h;exact h
 ·cases h
theorem Vai {a:Bool}{n:Nat}{zz:Option Ab}{ok:Bool}{m k z:Ab}(p:Aa)(h:Fi a n zz ok m k H=some z):Fi a n zz ok m k (H++p)=some z:=by
 unfold Fi at h ⊢;cases zz with
 |none=>simp at h
 |some z0=>
  simp only[zXa]at h ⊢;cases hc:DU a n k with
  |none=>simp[hc]at h
  |some kc=>
   simp only[hc,zXa]at h ⊢;cases m <;> first | exact h | skip
   rename_i id;simp only[]at h ⊢;cases hH:H[id]? with
   |none=>simp[hH]at h
   |some B=>rw[Vp (Vn.1 hH).1,hH];rw[hH]at h;exact h
theorem Vd0 {op:Op}{z:Ab}(p:Aa)(h:BA C op r H=some z):BA C op r (H++p)=some z:=by
 cases op with
 |load t x=>
  simp only[BA]at h ⊢;split
  ·rename_i hk;rw[if_pos hk]at h;cases h
  ·rename_i hk;rw[if_neg hk]at h;exact VdH p h
 |convert src dst x=>
  simp only[BA,Vjm]at h ⊢;split at h <;> first | exact h | skip
  split at h
  ·rename_i hk;rw[if_pos hk];exact Tc p h
  ·cases h
 |lookup t m k ok=>
  simp only[BA]at h ⊢;split at h
  ·split at h
   ·rename_i kt e hu hk;rw[if_pos hk];exact Vai p h
   ·cases h
  ·cases h
 |_=>exact h

end
structure Tr where
 T:Nat->List Ab
 hE:Nat->Aa
 cur:Nat->Aa
 hist:Nat->List (Nat×Aa)
 V:Nat->Ab
 B:Nat->Bool
section
variable {C:Cfg}{pb:Bool}{ops:Array Oper}{bf:Nat->Nat->Bool}{out:Res×Aa}{k:List Ab->Aa->Out}{kp:Ab->List Ab->Aa->Out}
def Tx (C:Cfg)(ops:Array Oper)(bf:Nat->Nat->Bool)(perm:zAb)(t:Tr)(j:Nat):Prop:=
 ∃i o,perm[j]? = some i/\ops[i]? = some o/\HG ops o (t.T j)=some (t.B j)/\t.T (j+1)=GA (t.T j) o.dst (t.V j) /\
  ((cls o.op=.r/\gR (t.B j) (BA C o.op (rho C.G (t.T j)) (t.hE j))=some (t.V j)/\(Jf o.op=true->Vk3 (λe=>bf e i) (λh=>gR (t.B j) (BA C o.op (rho C.G (t.T j)) h)) (t.V j) (t.hist j)) /\
    t.hE (j+1)=t.hE j/\t.cur (j+1)=t.cur j/\t.hist (j+1)=t.hist j) \/
   (cls o.op=.a/\gA (t.B j) (t.cur j) (CH C o.op (rho C.G (t.T j)) (t.cur j))=some (t.V j,t.cur (j+1))/\t.hE (j+1)=t.hE j/\t.hist (j+1)=t.hist j) \/
   (cls o.op=.e/\gE (t.B j) (t.cur j) (Fy C o.op (rho C.G (t.T j)) (t.cur j))=some (.ret (t.V j),t.cur (j+1))/\t.hE (j+1)=t.cur (j+1)/\t.hist (j+1)=(i,t.hE j)::t.hist j))
def Pd (C:Cfg)(ops:Array Oper)(bf:Nat->Nat->Bool)(perm:zAb)(kp:Ab->List Ab->Aa->Out)(out:Res×Aa)(t:Tr)(m:Nat):Prop:=
 m+1<=perm.length/\∃i o x H',perm[m]? = some i/\ops[i]? = some o/\cls o.op=.e/\HG ops o (t.T m)=some true/\Fy C o.op (rho C.G (t.T m)) (t.cur m)=some (.pan x,H')/\kp x ((t.T m).map λ_=>.undef) H'=some out/\∀j y,m<j->perm[j]? = some y->bf i y=true
def Tr.cons (T0:List Ab)(hE0 cur0:Aa)(aV:List (Nat×Aa))(v:Ab)(b:Bool)(t:Tr):Tr where
 T:=λj=>match j with | 0=>T0 | j+1=>t.T j
 hE:=λj=>match j with | 0=>hE0 | j+1=>t.hE j
 cur:=λj=>match j with | 0=>cur0 | j+1=>t.cur j
 hist:=λj=>match j with | 0=>aV | j+1=>t.hist j
 V:=λj=>match j with | 0=>v | j+1=>t.V j
 B:=λj=>match j with | 0=>b | j+1=>t.B j
theorem NX:∀(perm:zAb) (aV:List (Nat×Aa)) (hE0 cur0:Aa) (tm0:List Ab),Gx C pb ops bf k kp perm aV hE0 cur0 tm0=some out ->
  ∃(t:Tr) (m:Nat),t.T 0=tm0/\t.hE 0=hE0/\t.cur 0=cur0/\t.hist 0=aV/\m<=perm.length/\(∀j,j<m->Tx C ops bf perm t j) /\
   ((m=perm.length/\k (t.T m) (t.cur m)=some out)\/Pd C ops bf perm kp out t m)
 |[],aV,hE0,cur0,tm0,h=>by simp only[Gx]at h;exact⟨⟨λ_=>tm0,λ_=>hE0,λ_=>cur0,λ_=>aV,λ_=>.undef,λ_=>true⟩,0,rfl,rfl,rfl,rfl,Vo _,λj hj=>by omega,.inl ⟨rfl,h⟩⟩
 |i::rest,aV,hE0,cur0,tm0,h=>by
  simp only[Gx]at h;cases ho:ops[i]? with
  |none=>simp[ho]at h
  |some o=>
   simp only[ho]at h;cases hw:HG ops o tm0 with
   |none=>simp[hw]at h
   |some b=>
    simp only[hw,zXa]at h;have shift:∀(t:Tr) (m:Nat) (v:Ab),t.T 0=GA tm0 o.dst v->m<=rest.length->(∀j,j<m->Tx C ops bf rest t j)->((m=rest.length/\k (t.T m) (t.cur m)=some out)\/Pd C ops bf rest kp out t m) ->
      Tx C ops bf (i::rest) (Tr.cons tm0 hE0 cur0 aV v b t) 0 ->
      ∃(t:Tr) (m:Nat),t.T 0=tm0/\t.hE 0=hE0/\t.cur 0=cur0/\t.hist 0=aV/\m<=(i::rest).length/\(∀j,j<m->Tx C ops bf (i::rest) t j) /\
       ((m=(i::rest).length/\k (t.T m) (t.cur m)=some out)\/Pd C ops bf (i::rest) kp out t m):=by
     intro t m v h0 hm hst hfin qZ;refine⟨Tr.cons tm0 hE0 cur0 aV v b t,m+1,rfl,rfl,rfl,rfl,by simp;omega,λj hj=>?_,?_⟩
     ·cases j with
      |zero=>exact qZ
      |succ j=>exact hst j (by omega)
     ·rcases hfin with ⟨h1,h2⟩ | ⟨h1,i2,o2,x2,H2,p1,p2,p3,p4,p5,p6,p7⟩
      ·exact .inl ⟨by simp[h1],h2⟩
      ·refine .inr ⟨by simp;omega,i2,o2,x2,H2,p1,p2,p3,p4,p5,p6,λj y hj hy=>?_⟩;cases j with
       |zero=>omega
       |succ j=>exact p7 j y (by omega) (by simpa using hy)
    cases hc:cls o.op with
    |r=>
     simp only[hc]at h;cases hg:gR b (BA C o.op (rho C.G tm0) hE0)with
     |none=>simp[hg]at h
     |some v=>
      simp only[hg,zXa]at h;have key:(Jf o.op=true->Vk3 (λe=>bf e i) (λh=>gR b (BA C o.op (rho C.G tm0) h)) v aV)/\Gx C pb ops bf k kp rest aV hE0 cur0 (GA tm0 o.dst v)=some out:=by
       split at h
       ·rename_i hr;unfold chk at h;split at h
        ·rename_i hs;exact⟨λ_=>hs,h⟩
        ·cases h
       ·rename_i hr;exact⟨λh=>absurd h hr,h⟩
      obtain⟨t,m,q1,q2,q3,q4,q5,q6,q7⟩:=NX rest _ _ _ _ key.2;exact shift t m v q1 q5 q6 q7 ⟨i,o,rfl,ho,hw,q1,.inl ⟨hc,hg,key.1,q2,q3,q4⟩⟩
    |a=>
     simp only[hc,Ao]at h;cases hg:gA b cur0 (CH C o.op (rho C.G tm0) cur0)with
     |none=>simp[hg]at h
     |some p=>obtain⟨v,H1⟩:=p;simp only[hg,zXa]at h;obtain⟨t,m,q1,q2,q3,q4,q5,q6,q7⟩:=NX rest _ _ _ _ h;exact shift t m v q1 q5 q6 q7 ⟨i,o,rfl,ho,hw,q1,.inr (.inl ⟨hc,by rw[show (Tr.cons tm0 hE0 cur0 aV v b t).cur (0+1)=H1 from q3];exact hg,q2,q4⟩)⟩
    |e=>
     simp only[hc,HE]at h;cases hg:gE b cur0 (Fy C o.op (rho C.G tm0) cur0)with
     |none=>simp[hg]at h
     |some p=>
      obtain⟨res,H1⟩:=p;simp only[hg,zXa]at h;cases res with
      |ret v=>obtain⟨t,m,q1,q2,q3,q4,q5,q6,q7⟩:=NX rest _ _ _ _ h;exact shift t m v q1 q5 q6 q7 ⟨i,o,rfl,ho,hw,q1,.inr (.inr ⟨hc,by rw[show (Tr.cons tm0 hE0 cur0 aV v b t).cur (0+1)=H1 from q3];exact hg,q2.trans q3.symm,q4⟩)⟩
      |pan x=>
       simp only[]at h;cases hra:rest.all (λj=>pb&&bf i j)with
       |true=>
        rw[hra]at h;simp only[]at h;have hb:b=true:=by
         cases b with
         |true=>rfl
         |false=>simp[gE]at hg
        subst hb;refine⟨⟨λ_=>tm0,λ_=>hE0,λ_=>cur0,λ_=>aV,λ_=>.undef,λ_=>true⟩,0,rfl,rfl,rfl,rfl,VL _,λj hj=>by omega,.inr ⟨by simp,i,o,x,H1,rfl,ho,hc,hw,by simpa[gE]using hg,h,λj y hj hy=>?_⟩⟩;cases j with
        |zero=>omega
        |succ j=>exact (Bool.and_eq_true_iff.1 (V7.1 hra y (VE (by simpa using hy)))).2
       |false=>rw[hra]at h;cases h
theorem Q8 {pre:zAb}:∀(rest done:zAb),JZ.okFrom ops bf pre done rest=true ->
  (∀(a:Nat) (j:Nat),rest[a]? = some j->∃oj,ops[j]? = some oj/\(∀e∈oj.after,Region.binds .any e=true->e.on∈done\/∃b,b<a/\rest[b]? = some e.on) /\
   ∀i,(i∈done\/∃b,b<a/\rest[b]? = some i)->∃oi,ops[i]? = some oi/\i≠j/\(bf i j=true\/i∈pre\/(isE oj=false/\oi.apart ops oj=true/\oj.apart ops oi=true)) /\
    (isA oi=true->isE oj=false->(∀d,oi.dst=some d->d ∉ oj.looksAt ops)\/∀i',(i'∈done\/∃b,b<a/\rest[b]? = some i')->bf i' j=true\/i'∈pre))
 |[],done,_=>λa j h=>by simp at h
 |x::rest,done,h=>by
  simp only[JZ.okFrom,Vx]at h;obtain⟨h1,h2⟩:=h;have ih:=Q8 rest (x::done) h2;intro a j tB;cases a with
  |zero=>
   simp at tB;subst tB;cases ho:ops[x]? with
   |none=>simp[ho]at h1
   |some oj=>
    simp only[ho,Vx]at h1;obtain⟨h3,h4⟩:=h1;refine⟨oj,rfl,λe he hb=>?_,λi hi=>?_⟩
    ·have:=Yn.1 h3 e he;simp only[hb,VR,zXo]at this;exact .inl (by simpa using this)
    ·have aE:i∈done:=hi.resolve_right (λ⟨b,hb,_⟩=>by omega);have:=V7.1 h4 i aE;cases xD:ops[i]? with
     |none=>simp[xD]at this
     |some oi=>
      simp only[xD,Vx,bne_iff_ne,Wn,Wk]at this;obtain⟨⟨q1,q2⟩,q3⟩:=this;refine⟨oi,rfl,q1,?_,λha he=>?_⟩
      ·rcases q2 with (q2 | q2) | ⟨⟨q2,q4⟩,q5⟩
       ·exact .inl q2
       ·exact .inr (.inl (by simpa using q2))
       ·exact .inr (.inr ⟨q2,q4,q5⟩)
      ·rcases q3 with ((q3 | q3) | q3) | q3
       ·rw[ha]at q3;cases q3
       ·rw[he]at q3;cases q3
       ·refine .inr λi' aE=>?_;have:=V7.1 q3 i' (aE.resolve_right (λ⟨b,hb,_⟩=>by omega));simpa using this
       ·exact .inl λd hd=>by simpa[hd]using q3
  |succ a=>
   simp at tB;obtain⟨oj,q1,q2,q3⟩:=ih a j tB;have conv:∀i,(i∈done\/∃b,b<a+1/\(x::rest)[b]? = some i)->(i∈x::done\/∃b,b<a/\rest[b]? = some i):=by
    intro i hi;rcases hi with hi | ⟨b,gC,gB⟩
    ·exact .inl (by simp[hi])
    ·cases b with
     |zero=>simp at gB;exact .inl (by simp[gB])
     |succ b=>exact .inr ⟨b,by omega,by simpa using gB⟩
   refine⟨oj,q1,λe he hb=>?_,λi hi=>?_⟩
   ·rcases q2 e he hb with q | ⟨b,gC,gB⟩
    ·rcases Wf.1 q with q | q
     ·exact .inr ⟨0,by omega,by simp[q]⟩
     ·exact .inl q
    ·exact .inr ⟨b+1,by omega,by simpa using gB⟩
   ·obtain⟨oi,p1,p2,p3,p4⟩:=q3 i (conv i hi);exact⟨oi,p1,p2,p3,λha he=>(p4 ha he).imp id λh i' aE=>h i' (conv i' aE)⟩

end
section
variable {C:Cfg}{ops:Array Oper}
def OM (ops:Array Oper)(i:Nat):Option Tmp:=(ops[i]?).bind (·.dst)
def CZ (ops:Array Oper)(S:Nat->Bool)(cv:Nat->Value)(l:zAb)(a:Act):Act:=l.foldl (λa i=>if S i then a.put (OM ops i) (cv i)else a) a
theorem Dm (S:Nat->Bool)(cv:Nat->Value)(x:Nat)(l:zAb)(a:Act):CZ ops S cv (x::l) a=CZ ops S cv l (if S x then a.put (OM ops x) (cv x)else a):=rfl
theorem OA (S:Nat->Bool)(cv:Nat->Value)(l l':zAb)(a:Act):CZ ops S cv (l++l') a=CZ ops S cv l' (CZ ops S cv l a):=by simp[CZ,X1]
theorem NK (S:Nat->Bool)(cv:Nat->Value)(d:Option Tmp)(v:Value):∀(l:zAb) (a:Act),(∀j∈l,S j=true->∀x,d=some x->OM ops j≠some x)->CZ ops S cv l (a.put d v)=(CZ ops S cv l a).put d v
 |[],a,_=>rfl
 |x::l,a,h=>by
  rw[Dm,Dm];by_cases hx:S x=true
  ·simp only[hx,if_true];rw[Act.put_comm a v (cv x) (h x (by simp) hx)];exact NK S cv d v l _ λj hj=>h j (by simp[hj])
  ·simp only[hx,Vq,if_false];exact NK S cv d v l _ λj hj=>h j (by simp[hj])
theorem NJ {S S':Nat->Bool}{cv cv':Nat->Value}:∀(l:zAb) (a:Act),(∀j∈l,S' j=S j/\(S j=true->cv' j=cv j))->CZ ops S' cv' l a=CZ ops S cv l a
 |[],a,_=>rfl
 |x::l,a,h=>by
  rw[Dm,Dm];obtain⟨h1,h2⟩:=h x (by simp);rw[h1];by_cases hx:S x=true
  ·simp only[hx,if_true];rw[h2 hx];exact NJ l _ λj hj=>h j (by simp[hj])
  ·simp only[hx,Vq,if_false];exact NJ l _ λj hj=>h j (by simp[hj])
theorem PZ {S:Nat->Bool}{cv:Nat->Value}{i:Nat}{v:Value}(hi:S i=false):∀(l:zAb) (a:Act) (p:Nat),l[p]? = some i->(∀(q r:Nat) (x:Nat),l[q]? = some x->l[r]? = some x->q=r) ->
  (∀(q:Nat) (j:Nat),p<q->l[q]? = some j->S j=true->∀x,OM ops i=some x->OM ops j≠some x) ->
  CZ ops (λj=>if j=i then true else S j) (λj=>if j=i then v else cv j) l a=(CZ ops S cv l a).put (OM ops i) v
 |[],a,p,h,_,_=>by simp at h
 |x::l,a,p,h,hu,hc=>by
  rw[Dm,Dm];cases p with
  |zero=>
   simp at h;subst h;simp only[if_true,hi,Vq,if_false];have qB:∀j∈l,j≠x:=λj hj e=>by subst e;obtain⟨q,hq,vE⟩:=VU hj;have:=hu (q+1) 0 j (by simp[Vl hq,vE]) (by simp);omega
   rw[NJ (S:=S) (cv:=cv) l _ λj hj=>⟨by simp[qB j hj],λ_=>by simp[qB j hj]⟩];exact NK S cv _ v l a λj hj hs=>by obtain⟨q,hq,vE⟩:=VU hj;exact hc (q+1) j (by omega) (by simp[Vl hq,vE]) hs
  |succ p=>
   simp at h;have hne:x≠i:=λe=>by have:=hu (p+1) 0 i (by simpa using h) (by simp[e]);omega
   simp only[if_neg hne];exact PZ hi l _ p h (λq r y h1 h2=>by have:=hu (q+1) (r+1) y (by simpa using h1) (by simpa using h2);omega) (λq j hq hj=>hc (q+1) j (by omega) (by simpa using hj))
theorem Vce (a:Act)(d:Option Tmp)(v:Value):(a.put d v).tmps.size=a.tmps.size:=by cases d <;> simp[Act.put]
theorem Kn (S:Nat->Bool)(cv:Nat->Value):∀(l:zAb) (a:Act),(CZ ops S cv l a).tmps.size=a.tmps.size
 |[],a=>rfl
 |x::l,a=>by rw[Dm,Kn S cv l];split <;> simp[Vce]
theorem Ko (S:Nat->Bool)(cv:Nat->Value):∀(l:zAb) (a:Act),(CZ ops S cv l a).defers=a.defers
 |[],a=>rfl
 |x::l,a=>by rw[Dm,Ko S cv l];split <;> simp[NA]
theorem U5 (a:Act)(d:Option Tmp)(v:Value)(t:Nat)(h:d≠some t):(a.put d v).tmps.getD t undef=a.tmps.getD t undef:=by
 cases d with
 |none=>rfl
 |some d=>have:d≠t:=λe=>h (by rw[e]);simp[Act.put,V3,Wq this]
theorem SK (S:Nat->Bool)(cv:Nat->Value)(t:Nat):∀(l:zAb) (a:Act),(∀j∈l,S j=true->OM ops j≠some t)->(CZ ops S cv l a).tmps.getD t undef=a.tmps.getD t undef
 |[],a,_=>rfl
 |x::l,a,h=>by
  rw[Dm,SK S cv t l _ λj hj=>h j (by simp[hj])];split
  ·rename_i hx;exact U5 a _ _ t (h x (by simp) hx)
  ·rfl
theorem Vd9 (tm:List Ab)(d:Option Tmp)(v:Ab)(t:Nat)(h:d≠some t):(GA tm d v).getD t .undef=tm.getD t .undef:=by
 cases d with
 |none=>rfl
 |some d=>have:d≠t:=λe=>h (by rw[e]);simp[GA,Vm,Vt this]
theorem Vn1 {E:Env}{tm:List Ab}{a:Act}{x:Ab}{v:Value}(hl:tm.length=a.tmps.size)(hv:Au E x v)(t:Nat):Au E ((GA tm (some t) x).getD t .undef) ((a.put (some t) v).tmps.getD t undef):=by
 simp only[GA,Act.put,Vm,V3];by_cases ht:t<tm.length
 ·rw[V0 ht,Wy (by omega)];exact hv
 ·rw[zYb (by simp;omega)];exact .undef _

structure Lw (C:Cfg)(ops:Array Oper)(perm:zAb)(t:Tr)(M:Nat):Prop where
 len:perm.length=ops.size
 mem:∀i,i<ops.size->i∈perm
 le:M<=perm.length
 spec:∀(a:Nat) (j:Nat),perm[a]? = some j->∃oj,ops[j]? = some oj/\(∀e∈oj.after,Region.binds .any e=true->∃b,b<a/\perm[b]? = some e.on) /\
   ∀(b i:Nat),b<a->perm[b]? = some i->∃oi,ops[i]? = some oi/\i≠j/\(((Region.before ops).getD j 0).testBit i=true\/i∈perm.take (Ld ops perm)\/(isE oj=false/\oi.apart ops oj=true/\oj.apart ops oi=true))/\(isA oi=true->isE oj=false->(∀d,oi.dst=some d->d ∉ oj.looksAt ops)\/∀(b' i':Nat),b'<a->perm[b']? = some i'->((Region.before ops).getD j 0).testBit i'=true\/i'∈perm.take (Ld ops perm))
 step:∀j,j<M->Tx C ops (λi j=>((Region.before ops).getD j 0).testBit i) perm t j
section
variable {perm:zAb}{t:Tr}{M:Nat}
theorem Lw.inj (R:Lw C ops perm t M){a b i:Nat}(h1:perm[a]? = some i)(h2:perm[b]? = some i):a=b:=by
 rcases Nat.lt_trichotomy a b with h | h | h
 ·obtain⟨_,_,_,h3⟩:=R.spec b i h2;obtain⟨_,_,h4,_⟩:=h3 a i h h1;exact absurd rfl h4
 ·exact h
 ·obtain⟨_,_,_,h3⟩:=R.spec a i h1;obtain⟨_,_,h4,_⟩:=h3 b i h h2;exact absurd rfl h4
theorem Lw.pos (R:Lw C ops perm t M){i:Nat}(hi:i<ops.size):∃j:Nat,perm[j]? = some i:=by obtain⟨j,hj,he⟩:=VU (R.mem i hi);exact⟨j,by rw[Vl hj,he]⟩
theorem VbB {x y:Oper}(h:x.apart ops y=true){d:Tmp}(hd:x.dst=some d):d ∉ y.looksAt ops/\y.dst≠some d:=by unfold Oper.apart at h;rw[hd]at h;simp only[Vx,Wk,bne_iff_ne]at h;exact⟨by simpa using h.1.1,h.1.2⟩
theorem JA {i:Nat}{o:Oper}(h:ops[i]? = some o):OM ops i=o.dst:=by simp[OM,h]
theorem Lw.tlen (R:Lw C ops perm t M){n:Nat}(h0:(t.T 0).length=n):∀j,j<=M->(t.T j).length=n
 |0,_=>h0
 |j+1,hj=>by obtain⟨i,o,_,_,_,h,_⟩:=R.step j (by omega);rw[h];have:=R.tlen h0 j (by omega);cases o.dst <;> simp[GA,this]
theorem Lw.read (R:Lw C ops perm t M){E:Env}{a0:Act}{S:Nat->Bool}{cv:Nat->Value}(h0:A1 E (t.T 0) a0.tmps.toList)(x:Nat) :
  ∀K,K<=M->(∀(j i:Nat) (o:Oper),j<K->perm[j]? = some i->ops[i]? = some o->o.dst=some x->S i=true/\Au E (t.V j) (cv i)) ->
   Au E ((t.T K).getD x .undef) ((CZ ops S cv (perm.take K) a0).tmps.getD x undef)
 |0,_,_=>by simpa[CZ]using J5 h0 x
 |K+1,hK,h=>by
  obtain⟨i,o,h1,h2,_,h3,_⟩:=R.step K (by omega);have ih:=R.read h0 x K (by omega) λj i o hj=>h j i o (by omega);have bQ:perm.take (K+1)=perm.take K++[i]:=by rw[List.take_add_one,h1];rfl
  rw[bQ,OA,h3,Dm];have hl:(t.T K).length=(CZ ops S cv (perm.take K) a0).tmps.size:=by rw[Kn,R.tlen rfl K (by omega)];simpa using h0.1
  rw[JA h2];by_cases hd:o.dst=some x
  ·obtain⟨h4,h5⟩:=h K i o (by omega) h1 h2 hd;simp only[h4,if_true,hd];exact Vn1 hl h5 x
  ·rw[Vd9 _ _ _ _ hd];split
   ·show Au E _ ((CZ ops S cv [] _).tmps.getD x undef);simp only[CZ,List.foldl_nil];rw[U5 _ _ _ _ hd];exact ih
   ·exact ih

end

end
section
variable {C:Cfg}{ops:Array Oper}{perm:zAb}{t:Tr}{M:Nat}
def QR (E0:Env)(w0:World)(t:Tr)(E:Env)(H:Aa)(w:World)(j b:Nat)(v:Value):Prop:=
 ∃(blk:Blk) (f:Nat->Ab),w0.heap.size<=b/\Pe E H w b blk/\t.cur (j+1)=t.cur j++[blk]/\t.V j=f (t.cur j).length/\∀(E':Env) (n:Nat),E'.φ n 0=some b->Au E' (f n) v
structure Inv (C:Cfg)(ops:Array Oper)(perm:zAb)(t:Tr)(M:Nat)(E0:Env)(H0:Aa)(w0:World)(c:Nat)(S:Nat->Bool)(cv:Nat->Value)(bo:Nat->Nat)(E:Env)(w:World):Prop where
 le:c<=M
 pre:∀(j i:Nat),j<c->perm[j]? = some i->S i=true
 noE:∀(j i:Nat) (o:Oper),c<=j->perm[j]? = some i->ops[i]? = some o->S i=true->isE o=false/\j<M
 closed:∀(j:Nat) (o:Oper),S j=true->ops[j]? = some o->∀e∈o.after,Region.binds .any e=true->S e.on=true
 glob:DM C.G E
 step:BL E0 H0 w0 E (t.cur c) w
 sim:Sim E (t.cur c) w
 vals:∀(j i:Nat) (o:Oper),perm[j]? = some i->ops[i]? = some o->S i=true->(j<c\/isA o=false\/t.B j=false)->Au E (t.V j) (cv i)
 early:∀(j i:Nat) (o:Oper),c<=j->perm[j]? = some i->ops[i]? = some o->S i=true->isA o=true->t.B j=true->QR E0 w0 t E (t.cur c) w j (bo i) (cv i)
 inj:∀(j i j' i':Nat) (o o':Oper),c<=j->c<=j'->perm[j]? = some i->perm[j']? = some i'->ops[i]? = some o->ops[i']? = some o'->S i=true->S i'=true->isA o=true->isA o'=true->t.B j=true->t.B j'=true->bo i=bo i'->i=i'
theorem Pe.persist {E E':Env}{H H':Aa}{w w':World}{b:Nat}{blk:Blk}(h:Pe E H w b blk)(st:BL E H w E' H' w'):Pe E' H' w' b blk:=by
 refine⟨Wu h.lt st.size,λho=>?_,λo=>by rw[st.imm b o h.lt h.free];exact h.imm o,?_⟩
 ·rcases st.own b ho with h1 | h1
  ·exact h.free h1
  ·have:=h.lt;omega
 ·rcases h.rel with ⟨cells,cs,tt,h1,h2,h3⟩ | ⟨h1,ck,h2⟩ | ⟨cells,cs,tt,h1,h2,h3⟩
  ·exact .inl ⟨cells,cs,tt,h1,by rw[st.frame b h.lt h.free];exact h2,h3.mono st.le⟩
  ·exact .inr (.inl ⟨h1,ck,by rw[st.frame b h.lt h.free];exact h2⟩)
  ·exact .inr (.inr ⟨cells,cs,tt,h1,by rw[st.frame b h.lt h.free];exact h2,h3.mono st.le⟩)
theorem QR.persist {E0:Env}{w0:World}{E E':Env}{H H':Aa}{w w':World}{j b:Nat}{v:Value}(h:QR E0 w0 t E H w j b v)(st:BL E H w E' H' w'):QR E0 w0 t E' H' w' j b v:=by obtain⟨blk,f,h1,h2,h3⟩:=h;exact⟨blk,f,h1,h2.persist st,h3⟩
theorem VdB {E:Env}{H:Aa}{w:World}{b:Nat}{blk:Blk}(hs:Sim E H w)(h:Pe E H w b blk){x:Nat}(ho:M8 (E.setφ H.length 0 b) (H++[blk]) x):x=b\/M8 E H x:=by
 have st:BL E H { w with heap:=w.heap } E H w:=.refl E H w;obtain⟨i,hi⟩:=ho;unfold loc at hi;rw[VY]at hi;split at hi
 ·rename_i hlt;right;refine⟨i,?_⟩;unfold loc;rw[Vl hlt]at hi ⊢;simp only[zXa]at hi ⊢;have cJ:∀g y,E.φ H.length g=some y->False:=λg x hx=>by have:=hs.dom _ _ _ hx;omega
  cases hB:H[i] <;> rw[hB]at hi <;> simp only[Cr,Env.setφ]at hi ⊢ <;> first | exact hi | (rw[if_neg (by omega)]at hi;exact hi)
 ·rename_i hlt;cases hx:i-H.length with
  |succ n=>simp[hx]at hi
  |zero=>
   have:i=H.length:=by omega
   subst this;rw[hx]at hi;simp only[zXh,zXa]at hi;left;rcases h.rel with ⟨cells,cs,tt,h1,_⟩ | ⟨h1,_⟩ | ⟨cells,cs,tt,h1,_⟩ <;> subst h1 <;> simp[Cr,Env.setφ]at hi <;> exact hi.symm
theorem QR.take {E0:Env}{w0:World}{E:Env}{H:Aa}{w:World}{j b b':Nat}{v:Value}{blk:Blk}(hs:Sim E H w)(hb:Pe E H w b blk)(h:QR E0 w0 t E H w j b' v)(hne:b'≠b)(hle:E.le (E.setφ H.length 0 b)) :
  QR E0 w0 t (E.setφ H.length 0 b) (H++[blk]) w j b' v:=by
 obtain⟨blk',f,h1,h2,h3⟩:=h;refine⟨blk',f,h1,⟨h2.lt,λho=>?_,h2.imm,?_⟩,h3⟩
 ·rcases VdB hs hb ho with h4 | h4
  ·exact hne h4
  ·exact h2.free h4
 ·rcases h2.rel with ⟨cells,cs,tt,q1,q2,q3⟩ | q | ⟨cells,cs,tt,q1,q2,q3⟩
  ·exact .inl ⟨cells,cs,tt,q1,q2,q3.mono hle⟩
  ·exact .inr (.inl q)
  ·exact .inr (.inr ⟨cells,cs,tt,q1,q2,q3.mono hle⟩)
section
variable {E0:Env}{H0:Aa}{w0:World}{S:Nat->Bool}{cv:Nat->Value}{bo:Nat->Nat}
theorem HS {o:Oper}:isE o=true↔cls o.op=.e:=by unfold isE;split <;> simp_all
theorem O2 {o:Oper}:isA o=true↔cls o.op=.a:=by unfold isA;split <;> simp_all
theorem Inv.absorb (R:Lw C ops perm t M){c:Nat}{E:Env}{w:World}(I:Inv C ops perm t M E0 H0 w0 c S cv bo E w)(hc:c<M){i:Nat}(hi:perm[c]? = some i)(hS:S i=true) :
  ∃E',Inv C ops perm t M E0 H0 w0 (c+1) S cv bo E' w/\E.le E':=by
 obtain⟨i',o,h1,h2,_,_,hst⟩:=R.step c hc;rw[hi]at h1;cases h1;have kO:=(I.noE c i o (Vo _) hi h2 hS).1;have pre':∀(j x:Nat),j<c+1->perm[j]? = some x->S x=true:=λj x hj hx=>by
  rcases Nat.lt_succ_iff_lt_or_eq.1 hj with h | h
  ·exact I.pre j x h hx
  ·subst h;rw[hi]at hx;cases hx;exact hS
 have plain:t.cur (c+1)=t.cur c->Au E (t.V c) (cv i)->∃E',Inv C ops perm t M E0 H0 w0 (c+1) S cv bo E' w/\E.le E':=by
  intro jJ hv;refine⟨E,⟨hc,pre',λj x ox hj=>I.noE j x ox (by omega),I.closed,I.glob,by rw[jJ];exact I.step,by rw[jJ];exact I.sim,λj x ox hx aJ hSx hh=>?_,λj x ox hj=>by rw[jJ];exact I.early j x ox (by omega),λj x j' x' ox ox' hj hj'=>I.inj j x j' x' ox ox' (by omega) (by omega)⟩,.refl E⟩;by_cases kZ:j=c
  ·subst kZ;rw[hi]at hx;cases hx;exact hv
  ·exact I.vals j x ox hx aJ hSx (hh.imp (λh=>by omega) id)
 rcases hst with ⟨aG,_,_,_,jJ,_⟩ | ⟨aG,hg,_⟩ | ⟨aG,_⟩
 ·have nG:isA o=false:=by cases hq:isA o <;> simp_all [O2]
  exact plain jJ (I.vals c i o hi h2 hS (.inr (.inl nG)))
 ·have hA:isA o=true:=O2.2 aG;cases hB:t.B c with
  |false=>rw[hB]at hg;simp only[gA,Vq,if_false,Vv,VC]at hg;exact plain hg.2.symm (I.vals c i o hi h2 hS (.inr (.inr hB)))
  |true=>
   obtain⟨blk,f,e1,e2,e3,e4,e5⟩:=I.early c i o (Vo _) hi h2 hS hA hB;obtain⟨k1,k2⟩:=e2.take I.sim I.step e1;have hle:E.le (E.setφ (t.cur c).length 0 (bo i)):=by
    refine⟨λx g y hx=>?_,λ_ _ _ h=>h,λ_ _ _ h=>h⟩;have:¬(x=(t.cur c).length/\g=0):=λ⟨q1,q2⟩=>by have:=I.sim.dom _ _ _ hx;omega
    simp[Env.setφ,this,hx]
   refine⟨E.setφ (t.cur c).length 0 (bo i),⟨hc,pre',λj x ox hj=>I.noE j x ox (by omega),I.closed,I.glob.mono hle,by rw[e3];exact k2,by rw[e3];exact k1,λj x ox hx aJ hSx hh=>?_,λj x ox hj hx aJ hSx hAx hBx=>?_,
    λj x j' x' ox ox' hj hj'=>I.inj j x j' x' ox ox' (by omega) (by omega)⟩,hle⟩
   ·by_cases kZ:j=c
    ·subst kZ;rw[hi]at hx;cases hx;rw[e4];exact e5 _ _ (by simp[Env.setφ])
    ·exact (I.vals j x ox hx aJ hSx (hh.imp (λh=>by omega) id)).mono hle
   ·rw[e3];refine (I.early j x ox (by omega) hx aJ hSx hAx hBx).take I.sim e2 (λhb=>?_) hle;have:=I.inj j x c i ox o (by omega) (Vo _) hx hi aJ h2 hSx hS hAx hA hBx hB hb;subst this;have:=R.inj hx hi;omega
 ·rw[HS.2 aG]at kO;cases kO
theorem Inv.absorbTo (R:Lw C ops perm t M)(K:Nat)(hK:K<=M)(hS:∀(j i:Nat),j<K->perm[j]? = some i->S i=true):∀(d c:Nat) (E:Env) (w:World),c+d=K->Inv C ops perm t M E0 H0 w0 c S cv bo E w->∃E',Inv C ops perm t M E0 H0 w0 K S cv bo E' w/\E.le E'
 |0,c,E,w,h,I=>by simp at h;subst h;exact⟨E,I,.refl E⟩
 |d+1,c,E,w,h,I=>by obtain⟨i,o,h1,_⟩:=R.step c (by omega);obtain⟨E',I',l1⟩:=I.absorb R (by omega) h1 (hS c i (by omega) h1);obtain⟨E2,I2,l2⟩:=Inv.absorbTo R K hK hS d (c+1) E' w (by omega) I';exact⟨E2,I2,l1.trans l2⟩

end

end
theorem Qc {p q:Nat->Bool}{i:Nat}(hp:p i=true)(hq:q i=false)(h:∀x,q x=true->p x=true):∀l:zAb,(l.filter q).length<=(l.filter p).length/\(i∈l->(l.filter q).length<(l.filter p).length)
 |[]=>⟨Vo _,λh=>by simp at h⟩
 |x::l=>by
  obtain⟨h1,h2⟩:=Qc hp hq h l;by_cases hx:q x=true
  ·rw[XR hx,XR (h x hx)];simp only[zXj];refine⟨by omega,λhm=>?_⟩;rcases Wf.1 hm with e | e
   ·rw[<-e,hq]at hx;cases hx
   ·have:=h2 e;omega
  ·rw[List.filter_cons_of_neg hx];by_cases sJ:p x=true
   ·rw[XR sJ];simp only[zXj];exact⟨by omega,λ_=>by omega⟩
   ·rw[List.filter_cons_of_neg sJ];refine⟨h1,λhm=>?_⟩;rcases Wf.1 hm with e | e
    ·rw[<-e]at sJ;exact absurd hp sJ
    ·exact h2 e
section
variable {C:Cfg}{ops:Array Oper}{perm:zAb}{t:Tr}{M:Nat}{E0:Env}{H0:Aa}{w0:World}{S:Nat->Bool}{cv:Nat->Value}{bo:Nat->Nat}
theorem Inv.add (R:Lw C ops perm t M){c:Nat}{E:Env}{w:World}(I:Inv C ops perm t M E0 H0 w0 c S cv bo E w){j i:Nat}{o:Oper}(hj:perm[j]? = some i)(ho:ops[i]? = some o)(gQ:c<=j)(jA:j<M)(kO:isE o=false)
  (aW:∀e∈o.after,Region.binds .any e=true->S e.on=true){E':Env}{w':World}(hs:Sim E' (t.cur c) w')(st:BL E (t.cur c) w E' (t.cur c) w')(v:Value)(b:Nat)
  (hv:(isA o=false\/t.B j=false)->Au E' (t.V j) v)(hb:isA o=true->t.B j=true->b=w.heap.size/\QR E0 w0 t E' (t.cur c) w' j b v) :
  Inv C ops perm t M E0 H0 w0 c (λx=>if x=i then true else S x) (λx=>if x=i then v else cv x) (λx=>if x=i then b else bo x) E' w':=by
 have hne:∀ {q x:Nat},perm[q]? = some x->x≠i->q≠j:=λh1 h2 h3=>h2 (by subst h3;rw[hj]at h1;exact (WQ h1).symm);refine⟨I.le,λq x hq hx=>?_,λq x ox hq hx aJ hS=>?_,λx ox hS aJ e he iD=>?_,I.glob.mono st.le,I.step.trans st,hs,λq x ox hx aJ hS hh=>?_,λq x ox hq hx aJ hS hA hB=>?_,λq x q' x' ox ox' hq iA hx hx' aJ iI hS hS' hA hA' hB hB' heq=>?_⟩
 ·show (if x=i then true else S x)=true;split
  ·rfl
  ·exact I.pre q x hq hx
 ·by_cases aH:x=i
  ·subst aH;rw[ho]at aJ;cases aJ;have:=R.inj hx hj;exact⟨kO,by omega⟩
  ·simp only[if_neg aH]at hS;exact I.noE q x ox hq hx aJ hS
 ·have hSe:S e.on=true:=by
   by_cases aH:x=i
   ·subst aH;rw[ho]at aJ;cases aJ;exact aW e he iD
   ·simp only[if_neg aH]at hS;exact I.closed x ox hS aJ e he iD
  show (if e.on=i then true else S e.on)=true;split
  ·rfl
  ·exact hSe
 ·by_cases aH:x=i
  ·subst aH;rw[ho]at aJ;cases aJ;have:=R.inj hx hj;subst this;simp only[if_true];exact hv (hh.resolve_left (by omega))
  ·simp only[if_neg aH]at hS ⊢;exact (I.vals q x ox hx aJ hS hh).mono st.le
 ·by_cases aH:x=i
  ·subst aH;rw[ho]at aJ;cases aJ;have:=R.inj hx hj;subst this;simp only[if_true];exact (hb hA hB).2
  ·simp only[if_neg aH]at hS ⊢;exact (I.early q x ox hq hx aJ hS hA hB).persist st
 ·by_cases aH:x=i <;> by_cases gD:x'=i
  ·rw[aH,gD]
  ·exfalso;subst aH;rw[ho]at aJ;cases aJ;have:=R.inj hx hj;subst this;simp only[if_true,if_neg gD]at heq hS';obtain⟨blk,f,_,h2,_⟩:=I.early q' x' ox' iA hx' iI hS' hA' hB';have:=h2.lt;have:=(hb hA hB).1;omega
  ·exfalso;subst gD;rw[ho]at iI;cases iI;have:=R.inj hx' hj;subst this;simp only[if_true,if_neg aH]at heq hS;obtain⟨blk,f,_,h2,_⟩:=I.early q x ox hq hx aJ hS hA hB;have:=h2.lt;have:=(hb hA' hB').1;omega
  ·simp only[if_neg aH,if_neg gD]at heq hS hS';exact I.inj q x q' x' ox ox' hq iA hx hx' aJ iI hS hS' hA hA' hB hB' heq
theorem Inv.addE (R:Lw C ops perm t M){c:Nat}{E:Env}{w:World}(I:Inv C ops perm t M E0 H0 w0 c S cv bo E w){i:Nat}{o:Oper}(hj:perm[c]? = some i)(ho:ops[i]? = some o)(Y4:c<M)(hE:isE o=true)
  (aW:∀e∈o.after,Region.binds .any e=true->S e.on=true){E':Env}{w':World}(hs:Sim E' (t.cur (c+1)) w')(st:BL E (t.cur c) w E' (t.cur (c+1)) w')(v:Value)(hv:Au E' (t.V c) v) :
  Inv C ops perm t M E0 H0 w0 (c+1) (λx=>if x=i then true else S x) (λx=>if x=i then v else cv x) bo E' w':=by
 have nG:isA o=false:=by
  cases hq:isA o with
  |false=>rfl
  |true=>rw[HS]at hE;rw[O2]at hq;rw[hE]at hq;cases hq
 refine⟨Y4,λq x hq hx=>?_,λq x ox hq hx aJ hS=>?_,λx ox hS aJ e he iD=>?_,I.glob.mono st.le,I.step.trans st,hs,λq x ox hx aJ hS hh=>?_,λq x ox hq hx aJ hS hA hB=>?_,λq x q' x' ox ox' hq iA hx hx' aJ iI hS hS' hA hA' hB hB' heq=>?_⟩
 ·show (if x=i then true else S x)=true;split
  ·rfl
  ·rename_i aH;refine I.pre q x ?_ hx;have:q≠c:=λe=>aH (by subst e;rw[hj]at hx;exact (WQ hx).symm);omega
 ·by_cases aH:x=i
  ·subst aH;have:=R.inj hx hj;omega
  ·simp only[if_neg aH]at hS;exact I.noE q x ox (by omega) hx aJ hS
 ·have hSe:S e.on=true:=by
   by_cases aH:x=i
   ·subst aH;rw[ho]at aJ;cases aJ;exact aW e he iD
   ·simp only[if_neg aH]at hS;exact I.closed x ox hS aJ e he iD
  show (if e.on=i then true else S e.on)=true;split
  ·rfl
  ·exact hSe
 ·by_cases aH:x=i
  ·subst aH;have:=R.inj hx hj;subst this;simp only[if_true];exact hv
  ·simp only[if_neg aH]at hS ⊢;have:q≠c:=λe=>aH (by subst e;rw[hj]at hx;exact (WQ hx).symm);exact (I.vals q x ox hx aJ hS (hh.imp (λh=>by omega) id)).mono st.le
 ·by_cases aH:x=i
  ·subst aH;have:=R.inj hx hj;omega
  ·simp only[if_neg aH]at hS ⊢;exact (I.early q x ox (by omega) hx aJ hS hA hB).persist st
 ·by_cases aH:x=i
  ·subst aH;have:=R.inj hx hj;omega
  ·by_cases gD:x'=i
   ·subst gD;have:=R.inj hx' hj;omega
   ·simp only[if_neg aH,if_neg gD]at heq hS hS';exact I.inj q x q' x' ox ox' (by omega) (by omega) hx hx' aJ iI hS hS' hA hA' hB hB' heq

def Fs (n:Nat)(ops:Array Oper)(o:Oper)(tm:List Ab):List Ab:=(List.range n).map λx=>if x∈o.looksAt ops then tm.getD x .undef else .undef
theorem S4 {n:Nat}{o:Oper}{tm:List Ab}(hn:tm.length=n){x:Nat}(hx:x∈o.looksAt ops):(Fs n ops o tm).getD x .undef=tm.getD x .undef:=by
 unfold Fs;rw[Vm,VK];by_cases h:x<n
 ·rw[Wx h];simp[hx]
 ·rw[zYb (by simp;omega),Vm,zYb (by omega)];rfl
theorem Iw {n:Nat}{o:Oper}{tm:List Ab}(hn:tm.length=n){x:Operand}(hx:x∈o.op.operands):rho C.G (Fs n ops o tm) x=rho C.G tm x:=by
 cases x with
 |tmp d=>simp only[rho];refine S4 hn ?_;unfold Oper.looksAt;refine VA.2 (.inl (List.mem_filterMap.2 ⟨.tmp d,by simpa using hx,rfl⟩))
 |_=>rfl
theorem LQ {n:Nat}{o:Oper}{tm:List Ab}(hn:tm.length=n):HG ops o (Fs n ops o tm)=HG ops o tm:=by
 unfold HG;cases hg:o.guard with
 |none=>rfl
 |some p=>
  obtain⟨g,want⟩:=p;simp only[];cases hd:(ops[g]?).bind (·.dst)with
  |none=>rfl
  |some d=>
   have:d∈o.looksAt ops:=by unfold Oper.looksAt;rw[hg];refine VA.2 (.inr ?_);simp[hd]
   simp only[zXb];rw[S4 hn this]
theorem Inv.looks (R:Lw C ops perm t M){n:Nat}{c:Nat}{E:Env}{w:World}(I:Inv C ops perm t M E0 H0 w0 c S cv bo E w){a0:Act}(h0:A1 E (t.T 0) a0.tmps.toList)(hn:(t.T 0).length=n){j i:Nat}{o:Oper}(hj:perm[j]? = some i)(ho:ops[i]? = some o)(jA:j<=M)(hS:S i=false)
  (jO:∀x,((Region.before ops).getD i 0).testBit x=true->S x=true)(hcase:(j=c/\((∀x∈perm.take (Ld ops perm),S x=true)\/∀(q k:Nat),c<=q->perm[q]? = some k->S k=false))\/((∀x∈perm.take (Ld ops perm),S x=true)/\∀(b i':Nat) (o':Oper),b<j->perm[b]? = some i'->ops[i']? = some o'->isA o'=true->∀d,o'.dst=some d->d ∉ o.looksAt ops)):A1 E (Fs n ops o (t.T j)) (CZ ops S cv perm a0).tmps.toList:=by
 have hsz:(CZ ops S cv perm a0).tmps.size=n:=by rw[Kn,<-hn];simpa using h0.1.symm
 refine⟨by simp[Fs,hsz],λx y u h1 h2=>?_⟩;have hx:x<n:=by have:=(Vn.1 h1).1;simpa[Fs]using this
 have hy:y=if x∈o.looksAt ops then (t.T j).getD x .undef else .undef:=by unfold Fs at h1;rw[VK,Wx hx]at h1;simpa using h1.symm
 have hu:u=(CZ ops S cv perm a0).tmps.getD x undef:=by rw[WI]at h2;simp[V3,h2]
 rw[hy];split
 ·rename_i hl;rw[hu];have gH:CZ ops S cv perm a0=CZ ops S cv (perm.drop j) (CZ ops S cv (perm.take j) a0):=by rw[<-OA,VW]
  rw[gH,SK]
  ·refine R.read h0 x j jA λj' i' o' hj' aE cZ hd=>?_;obtain⟨o2,q1,q2,q3⟩:=R.spec j i hj;rw[ho]at q1;cases q1;obtain⟨o3,p1,p2,p3,p4⟩:=q3 j' i' hj' aE;rw[cZ]at p1;cases p1;have hSi:S i'=true:=by
    rcases p3 with p3 | p3 | ⟨_,p3,_⟩
    ·exact jO _ p3
    ·rcases hcase with ⟨hE,_⟩ | ⟨hE,_⟩
     ·exact I.pre j' i' (by omega) aE
     ·exact hE _ p3
    ·exact absurd hl (VbB p3 hd).1
   refine⟨hSi,I.vals j' i' o' aE cZ hSi ?_⟩;by_cases kZ:j'<c
   ·exact .inl kZ
   ·rcases hcase with ⟨hE,_⟩ | ⟨_,hE⟩
    ·omega
    ·cases hA:isA o' with
     |false=>exact .inr (.inl rfl)
     |true=>exact absurd hl (hE j' i' o' hj' aE cZ hA x hd)
  ·intro k hk hSk hd;obtain⟨q,hq,zX⟩:=VU hk;have iA:perm[j+q]? = some k:=by rw[<-VP,Vl hq,zX]
   cases q with
   |zero=>rw[Nat.add_zero,hj]at iA;cases iA;rw[hS]at hSk;cases hSk
   |succ q=>
    obtain⟨ok,q1,q2,q3⟩:=R.spec (j+(q+1)) k iA;obtain⟨o3,p1,p2,p3,p4⟩:=q3 j i (by omega) hj;rw[ho]at p1;cases p1;rw[JA q1]at hd;rcases p3 with p3 | p3 | ⟨_,_,p3⟩
    ·have:S i=true:=Jd (S:=λx=>S x=true) (λx ox hSx aJ=>I.closed x ox hSx aJ) k i (λox aJ=>I.closed k ox hSk aJ) p3;rw[hS]at this;cases this
    ·rcases hcase with ⟨hE,h | h⟩ | ⟨h,_⟩
     ·have:=h _ p3;rw[hS]at this;cases this
     ·have:=h (j+(q+1)) k (by omega) iA;rw[hSk]at this;cases this
     ·have:=h _ p3;rw[hS]at this;cases this
    ·exact (VbB p3 hd).1 hl
 ·exact .undef _

end
section
variable {C:Cfg}{ops:Array Oper}{perm:zAb}{t:Tr}{M:Nat}{E0:Env}{H0:Aa}{w0:World}
theorem Ve1 {bf:Nat->Bool}{f:Aa->Option Ab}{v:Ab}:∀(hist:List (Nat×Aa)) (q:Nat) (e:Nat) (h:Aa),Vk3 bf f v hist->hist[q]? = some (e,h)->(∀(r:Nat) (e':Nat) (h':Aa),r<=q->hist[r]? = some (e',h')->bf e'=false)->f h=some v
 |[],q,e,h,_,hq,_=>by simp at hq
 |(e1,h1)::r,q,e,h,hst,hq,hb=>by
  have h0:=hb 0 e1 h1 (by omega) rfl;simp only[Vk3,h0,Vq,if_false]at hst;cases q with
  |zero=>simp at hq;obtain⟨rfl,rfl⟩:=hq;exact hst.1
  |succ q=>exact Ve1 r q e h hst.2 (by simpa using hq) (λr' e' h' eD=>hb (r'+1) e' h' (by omega))
theorem QO {cells:Option (List Ab)}{H H':Aa}{z:Ab}(h:A3 cells H=some (z,H')):∃blk,H'=H++[blk]:=by
 cases cells with
 |none=>cases h
 |some cs=>
  simp only[A3,zXa]at h;split at h
  ·simp only[Vv,VC]at h;exact⟨_,h.2.symm⟩
  ·cases h
theorem VbF {t:TypeId}{cells:Option (List Ab)}{H H':Aa}{z:Ab}(h:IG t cells H=some (z,H')):∃blk,H'=H++[blk]:=by
 cases cells with
 |none=>cases h
 |some cs=>
  simp only[IG,zXa]at h;split at h
  ·simp only[Vv,VC]at h;exact⟨_,h.2.symm⟩
  ·cases h
theorem VdC {sz bytes:Nat}{z0:Option (List Ab)}{l c:Ab}{H H':Aa}{z:Ab}(h:F4 sz bytes z0 l c H=some (z,H')):∃blk,H'=H++[blk]:=by
 cases z0 with
 |none=>cases h
 |some cs=>
  simp only[F4,zXa]at h;split at h
  ·split at h
   ·simp only[Vv,VC]at h;exact⟨_,h.2.symm⟩
   ·cases h
  ·cases h
theorem Nx {H H':Aa}{z:Ab}(h:E6 H=some (z,H')):∃blk,H'=H++[blk]:=by simp only[E6,Vv,VC]at h;exact⟨_,h.2.symm⟩
theorem Vd1 {op:Op}{r:Operand->Ab}{H H':Aa}{z:Ab}(h:CH C op r H=some (z,H')):∃blk,H'=H++[blk]:=by
 unfold CH at h;split at h
 ·split at h
  ·cases h
  ·split at h
   ·exact VbF h
   ·exact QO h
 ·split at h
  ·split at h
   ·cases h
   ·exact QO h
  ·cases h
 ·split at h
  ·split at h
   ·cases h
   ·exact VdC h
  ·cases h
 ·split at h
  ·exact Nx h
  ·split at h
   ·exact Nx h
   ·cases h
  ·cases h
 ·cases h
theorem Lw.hists (R:Lw C ops perm t M)(oN:t.hist 0=[])(cO:t.cur 0=t.hE 0):∀j,j<=M ->
  (∃p,t.cur j=t.hE j++p)/\∀c,c<=j->t.hE c=t.hE j\/∃(q e:Nat) (b:Nat) (o:Oper),(t.hist j)[q]? = some (e,t.hE c)/\c<=b/\b<j/\perm[b]? = some e/\ops[e]? = some o/\isE o=true /\
   ∀(r e':Nat) (h':Aa),r<=q->(t.hist j)[r]? = some (e',h')->∃(b':Nat) (o':Oper),c<=b'/\b'<j/\perm[b']? = some e'/\ops[e']? = some o'/\isE o'=true
 |0,_=>⟨⟨[],by rw[cO];simp⟩,λc hc=>.inl (by rw[Nat.le_zero.1 hc])⟩
 |j+1,hj=>by
  obtain⟨⟨p,hp⟩,ih⟩:=R.hists oN cO j (by omega);obtain⟨i,o,h1,h2,_,_,hst⟩:=R.step j (by omega);have lift:t.hE (j+1)=t.hE j->t.hist (j+1)=t.hist j->∀c,c<=j+1->t.hE c=t.hE (j+1)\/∃(q e:Nat) (b:Nat) (o:Oper),(t.hist (j+1))[q]? = some (e,t.hE c)/\c<=b/\b<j+1/\perm[b]? = some e/\ops[e]? = some o/\isE o=true /\
    ∀(r e':Nat) (h':Aa),r<=q->(t.hist (j+1))[r]? = some (e',h')->∃(b':Nat) (o':Oper),c<=b'/\b'<j+1/\perm[b']? = some e'/\ops[e']? = some o'/\isE o'=true:=by
   intro e1 e2 c hc;by_cases gQ:c=j+1
   ·exact .inl (by rw[gQ])
   ·rcases ih c (by omega)with h | ⟨q,e,b,ob,g1,g2,g3,g4,g5,g6,g7⟩
    ·exact .inl (by rw[h,e1])
    ·refine .inr ⟨q,e,b,ob,by rw[e2];exact g1,g2,by omega,g4,g5,g6,λr e' h' hr hh=>?_⟩;rw[e2]at hh;obtain⟨b',o',x1,x2,x3⟩:=g7 r e' h' hr hh;exact⟨b',o',x1,by omega,x3⟩
  rcases hst with ⟨aG,_,_,e1,e2,e3⟩ | ⟨aG,hg,e1,e3⟩ | ⟨aG,hg,e1,e3⟩
  ·exact⟨⟨p,by rw[e2,e1];exact hp⟩,lift e1 e3⟩
  ·refine⟨?_,lift e1 e3⟩;cases hB:t.B j with
   |false=>rw[hB]at hg;simp only[gA,Vq,if_false,Vv,VC]at hg;exact⟨p,by rw[<-hg.2,e1];exact hp⟩
   |true=>rw[hB]at hg;simp only[gA,if_true]at hg;have pO:=Vd1 hg;obtain⟨blk,hb⟩:=pO;exact⟨p++[blk],by rw[hb,e1,hp,Vu]⟩
  ·refine⟨⟨[],by rw[e1];simp⟩,λc hc=>?_⟩;by_cases gQ:c=j+1
   ·exact .inl (by rw[gQ])
   ·have hEo:isE o=true:=HS.2 aG;rcases ih c (by omega)with h | ⟨q,e,b,ob,g1,g2,g3,g4,g5,g6,g7⟩
    ·refine .inr ⟨0,i,j,o,by rw[e3,h];rfl,by omega,by omega,h1,h2,hEo,λr e' h' hr hh=>?_⟩;have:r=0:=by omega
     subst this;rw[e3]at hh;simp at hh;exact⟨j,o,by omega,by omega,by rw[<-hh.1];exact h1,by rw[<-hh.1];exact h2,hEo⟩
    ·refine .inr ⟨q+1,e,b,ob,by rw[e3];simpa using g1,g2,by omega,g4,g5,g6,λr e' h' hr hh=>?_⟩;rw[e3]at hh;cases r with
     |zero=>simp at hh;exact⟨j,o,by omega,by omega,by rw[<-hh.1];exact h1,by rw[<-hh.1];exact h2,hEo⟩
     |succ r=>obtain⟨b',o',x1,x2,x3⟩:=g7 r e' h' (by omega) (by simpa using hh);exact⟨b',o',x1,by omega,x3⟩
theorem QP {cells:Option (List Ab)}{H:Aa}(h:A3 cells H≠none)(H2:Aa):A3 cells H2≠none:=by
 cases cells with
 |none=>exact h
 |some cs=>simp only[A3,zXa]at h ⊢;split <;> simp_all
theorem VbG {t:TypeId}{cells:Option (List Ab)}{H:Aa}(h:IG t cells H≠none)(H2:Aa):IG t cells H2≠none:=by
 cases cells with
 |none=>exact h
 |some cs=>simp only[IG,zXa]at h ⊢;split <;> simp_all
theorem VdD {sz bytes:Nat}{z0:Option (List Ab)}{l c:Ab}{H:Aa}(h:F4 sz bytes z0 l c H≠none)(H2:Aa):F4 sz bytes z0 l c H2≠none:=by
 cases z0 with
 |none=>exact h
 |some cs=>
  simp only[F4,zXa]at h ⊢;split at h
  ·split at h
   ·rename_i hc;rw[if_pos hc];simp
   ·exact absurd rfl h
  ·exact absurd rfl h
theorem Vd2 {op:Op}{r:Operand->Ab}{H:Aa}(h:CH C op r H≠none)(H2:Aa):CH C op r H2≠none:=by
 cases op with
 |alloc t=>
  simp only[CH]at h ⊢;split
  ·rename_i hk;rw[if_pos hk]at h;exact h
  ·rename_i hk;rw[if_neg hk]at h;split
   ·rename_i oE;rw[oE]at h;exact VbG h H2
   ·rename_i oE;rw[oE]at h;exact QP h H2
 |box t x=>
  simp only[CH]at h ⊢;cases hcs:(r x).acells with
  |none=>rw[hcs]at h;exact h
  |some cs=>
   rw[hcs]at h;simp only[]at h ⊢;split
   ·rename_i hk;rw[if_pos hk]at h;exact h
   ·rename_i hk;rw[if_neg hk]at h;exact QP h H2
 |makeSlice t l c=>
  simp only[CH]at h ⊢;cases hu:C.P.underlying t with
  |none=>rw[hu]at h;exact h
  |some d=>
   rw[hu]at h;cases d <;> first | exact h | skip
   simp only[]at h ⊢;split
   ·rename_i hk;rw[if_pos hk]at h;exact h
   ·rename_i hk;rw[if_neg hk]at h;exact VdD h H2
 |makeMap t x=>
  cases x with
  |none=>simp[CH,E6]
  |some y=>
   simp only[CH]at h ⊢;cases hu:C.P.underlying t with
   |none=>rw[hu]at h;exact h
   |some d=>
    rw[hu]at h;cases d <;> first | exact h | skip
    simp only[]at h ⊢;cases hy:r y <;> rw[hy]at h <;> first | exact h | simp[E6]
 |_=>exact h
theorem Vjd (hC:MC C){n:Nat}{out:Res×Aa}{k:List Ab->Aa->Out}{kp:Ab->List Ab->Aa->Out}{Q:Exit->Act->World->Prop}(hk:KOk C n E0 H0 w0 out k (Q .normal))(eX:Vm7 C n E0 H0 w0 out kp Q)
  (R:Lw C ops perm t M)(oN:t.hist 0=[])(cO:t.cur 0=t.hE 0)(hfin:(M=perm.length/\k (t.T M) (t.cur M)=some out)\/Pd C ops (λi j=>((Region.before ops).getD j 0).testBit i) perm kp out t M){a0:Act}(hn:(t.T 0).length=n)(oQ:a0.defers=[]) :
  ∀(fuel:Nat) (listed:Array Bool) (a:Act) (w:World) (c:Nat) (S:Nat->Bool) (cv:Nat->Value) (bo:Nat->Nat) (E:Env),Ld ops perm<=c->listed.size=ops.size->(∀i,S i=listed.getD i false)->((List.range ops.size).filter λi=>!listed.getD i true).length<=fuel ->
   Inv C ops perm t M E0 H0 w0 c S cv bo E w->A1 E (t.T 0) a0.tmps.toList->a=CZ ops S cv perm a0->wpAny C.P .any ops Q fuel listed a w:=by
 have done:∀(listed:Array Bool) (a:Act) (w:World) (c:Nat) (S:Nat->Bool) (cv:Nat->Value) (bo:Nat->Nat) (E:Env),listed.size=ops.size->(∀i,S i=listed.getD i false)->Inv C ops perm t M E0 H0 w0 c S cv bo E w->A1 E (t.T 0) a0.tmps.toList->a=CZ ops S cv perm a0 ->
   Region.ready .any ops listed=[]->Q .normal a w:=by
  intro listed a w c S cv bo E hsz hS I h0 ha hr;have all:∀(j i:Nat),perm[j]? = some i->S i=true:=by
   intro j
   induction j using Nat.strongRecOn with
   |_ j ih=>
    intro i hj;obtain⟨o,h1,h2,_⟩:=R.spec j i hj;cases hSi:S i with
    |true=>rfl
    |false=>
     exfalso;have hi:i<ops.size:=(VX.1 h1).1;have hm:i∈Region.ready .any ops listed:=by
      rw[mem_ready];refine⟨?_,o,h1,λe he hb=>?_⟩
      ·have:=hS i;rw[hSi]at this;rw[V3,Xa (by omega)]at this ⊢;simpa using this.symm
      ·obtain⟨b,gC,gB⟩:=h2 e he hb;rw[<-hS];exact ih b gC e.on gB
     rw[hr]at hm;simp at hm
  rcases hfin with ⟨hM,hout⟩ | ⟨hM,i,o,x,H',h1,h2,h3,_⟩
  ·obtain⟨E',I',hle⟩:=Inv.absorbTo R M (Vo _) (λj i _ hj=>all j i hj) (M-c) c E w (by have:=I.le;omega) I;have eT:A1 E' (t.T 0) a0.tmps.toList:=h0.mono hle;subst ha;refine hk E' _ _ _ w I'.glob I'.step ⟨?_,R.tlen hn M (Vo _),by rw[Ko];exact oQ,I'.sim⟩ hout;have e:(CZ ops S cv perm a0).tmps.toList.length=a0.tmps.toList.length:=by simp[Kn]
   refine⟨by rw[e,<-h0.1];exact R.tlen rfl M (Vo _),λx y v hx hv=>?_⟩;have eD:=R.read (S:=S) (cv:=cv) eT x M (Vo _) λj i o hj hi ho _=>⟨all j i hi,I'.vals j i o hi ho (all j i hi) (.inl hj)⟩;rw[hM,Wc,<-hM]at eD;rw[Vm,hx,V3]at eD;rw[WI]at hv;rw[hv]at eD;exact eD
  ·have:=(I.noE M i o I.le h1 h2 (all M i h1)).1;rw[HS.2 h3]at this;cases this
 intro fuel
 induction fuel with
 |zero=>
  intro listed a w c S cv bo E hK0 hsz hS cM I h0 ha;have hr:Region.ready .any ops listed=[]:=by
   cases hr:Region.ready .any ops listed with
   |nil=>rfl
   |cons x l=>
    exfalso;have hm:x∈Region.ready .any ops listed:=by rw[hr];simp
    obtain⟨h1,o,h2,_⟩:=mem_ready.1 hm;have hx:x<ops.size:=(VX.1 h2).1;have:x∈(List.range ops.size).filter λi=>!listed.getD i true:=by rw[W6,WV];exact⟨hx,by rw[h1];rfl⟩
    have:=List.length_pos_of_mem this;omega
  exact⟨hr,done listed a w c S cv bo E hsz hS I h0 ha hr⟩
 |succ fuel ih=>
  intro listed a w c S cv bo E hK0 hsz hS cM I h0 ha;refine⟨done listed a w c S cv bo E hsz hS I h0 ha,λi hi=>?_⟩;obtain⟨h1,o,ho,gP⟩:=mem_ready.1 hi;have aW:∀e∈o.after,Region.binds .any e=true->S e.on=true:=λe he hb=>by rw[hS];exact gP e he hb
  have aK:i<ops.size:=(VX.1 ho).1;have hSi:S i=false:=by rw[hS];rw[V3,Xa (by omega)]at h1 ⊢;simpa using h1
  have jO:∀x,((Region.before ops).getD i 0).testBit x=true->S x=true:=λx hx=>Jd (S:=λx=>S x=true) (λx ox hSx aJ=>I.closed x ox hSx aJ) i x (λox aJ=>by rw[ho]at aJ;cases aJ;exact aW) hx;have hpre:∀x∈perm.take (Ld ops perm),S x=true:=λx hx=>by
   obtain⟨q,hq,wX⟩:=VU hx;rw[XM]at wX;have iA:q<Ld ops perm/\q<perm.length:=by simpa[Nat.lt_min]using hq
   exact I.pre q x (by omega) (by rw[Vl iA.2,wX])
  obtain⟨j,hj⟩:=R.pos aK;have gQ:c<=j:=by
   rcases VT j c with h | h
   ·rw[I.pre j i h hj]at hSi;cases hSi
   ·exact h
  have sR:j<perm.length:=(Vn.1 hj).1;have jA:j<=M:=by
   rcases hfin with ⟨h,_⟩ | ⟨_,iM,oM,x,H',g1,g2,g3,_,_,_,g7⟩
   ·omega
   ·rcases VT M j with h | h
    ·have:=(I.noE M iM oM I.le g1 g2 (jO iM (g7 j i h hj))).1;rw[HS.2 g3]at this;cases this
    ·exact h
  have hS':∀x,(if x=i then true else S x)=(listed.setIfInBounds i true).getD x false:=by
   intro x;rw[V3];by_cases hx:x=i
   ·subst hx;rw[Wy (by omega)];simp
   ·rw[Wq (λh=>hx h.symm),if_neg hx,hS,V3]
  have rM:((List.range ops.size).filter λx=>!(listed.setIfInBounds i true).getD x true).length<=fuel:=by
   have:=(Qc (p:=λx=>!listed.getD x true) (q:=λx=>!(listed.setIfInBounds i true).getD x true) (i:=i) (by rw[h1];rfl) (by rw[V3,Wy (by omega)];rfl) (λx hx=>by
    by_cases aH:x=i
    ·subst aH;rw[h1];rfl
    ·rw[V3,Wq (λh=>aH h.symm),<-V3]at hx;exact hx) (List.range ops.size)).2 (WV.2 aK)
   omega
  have dJ:∀v,a.put o.dst v=CZ ops (λx=>if x=i then true else S x) (λx=>if x=i then v else cv x) perm a0:=by
   intro v;rw[PZ (v:=v) hSi perm a0 j hj (λq r x h1 h2=>R.inj h1 h2) (λq x hq hx hSx d hd=>?_),<-ha,JA ho];obtain⟨ok,q1,_,q3⟩:=R.spec q x hx;obtain⟨o3,p1,_,p3,_⟩:=q3 j i hq hj;rw[ho]at p1;cases p1;rw[JA ho]at hd;rw[JA q1];rcases p3 with p3 | p3 | ⟨_,p3,_⟩
   ·have:S i=true:=Jd (S:=λx=>S x=true) (λx ox hSx aJ=>I.closed x ox hSx aJ) x i (λox aJ=>I.closed x ox hSx aJ) p3;rw[hSi]at this;cases this
   ·have:=hpre _ p3;rw[hSi]at this;cases this
   ·exact (VbB p3 hd).2
  have hsz':(listed.setIfInBounds i true).size=ops.size:=by simp[hsz]
  have next:∀(w':World) (c':Nat) (v:Value) (bo':Nat->Nat) (E':Env),c<=c'->E.le E'->Inv C ops perm t M E0 H0 w0 c' (λx=>if x=i then true else S x) (λx=>if x=i then v else cv x) bo' E' w'->wpAny C.P .any ops Q fuel (listed.setIfInBounds i true) (a.put o.dst v) w':=
   λw' c' v bo' E' hcc hle I'=>ih _ _ w' c' _ _ bo' E' (by omega) hsz' hS' rM I' (h0.mono hle) (dJ v)
  cases hE:isE o with
  |true=>
   have iY:∀(b x:Nat),b<j->perm[b]? = some x->S x=true:=λb x hb hx=>by
    obtain⟨oj,q1,_,q3⟩:=R.spec j i hj;rw[ho]at q1;cases q1;obtain⟨_,_,_,p3,_⟩:=q3 b x hb hx;rcases p3 with p3 | p3 | ⟨p3,_⟩
    ·exact jO x p3
    ·exact hpre x p3
    ·rw[hE]at p3;cases p3
   obtain⟨E1,I1,hle⟩:=Inv.absorbTo R j jA iY (j-c) c E w (by omega) I;have Zg:=h0.mono hle;have hl:=I1.looks R Zg hn hj ho jA hSi jO (.inl ⟨rfl,.inl hpre⟩);rw[<-ha]at hl;have hTn:=R.tlen hn j jA;have gZ:=MI (C:=C) I1.glob hl;unfold wpOp;simp only[ho];rcases VT j M with hlt | hge
   ·obtain⟨i',o',g1,g2,bX,_,hst⟩:=R.step j hlt;rw[hj]at g1;cases g1;rw[ho]at g2;cases g2;have hw:=NW (b:=t.B j) hl ((LQ hTn).trans bX);rw[hw];rcases hst with ⟨aG,_⟩ | ⟨aG,_⟩ | ⟨aG,hg,_⟩
    ·rw[HS]at hE;rw[hE]at aG;cases aG
    ·rw[HS]at hE;rw[hE]at aG;cases aG
    ·cases hB:t.B j with
     |false=>rw[hB]at hg;simp only[gE,Vq,if_false,Vv,VC,Res.ret.injEq]at hg;simp only[Vq,if_false];exact next w (j+1) undef bo E1 (by omega) hle (I1.addE R hj ho hlt hE aW (by rw[<-hg.2];exact I1.sim) (by rw[<-hg.2];exact .refl _ _ _) undef (by rw[<-hg.1];exact Oe))
     |true=>rw[hB]at hg;simp only[gE,if_true]at hg;simp only[if_true];refine .inl ?_;rw[<-Q2 (r:=rho C.G (Fs n ops o (t.T j))) (λx hx=>Iw hTn hx)]at hg;refine RK hC I1.glob I1.sim gZ hg (λE' w' v x hres hv q1 q2=>?_) (λE' w' v x hres=>by cases hres);cases hres;exact next w' (j+1) v bo E' (by omega) (hle.trans q2.le) (I1.addE R hj ho hlt hE aW q1 q2 v hv)
   ·have nO:j=M:=by omega
    rcases hfin with ⟨h,_⟩ | ⟨hM,i',o',x,H',g1,g2,g3,bX,hg,hout,_⟩
    ·omega
    ·rw[<-nO]at g1 bX hg hout;rw[hj]at g1;cases g1;rw[ho]at g2;cases g2;have hw:=NW hl ((LQ hTn).trans bX);rw[hw];simp only[if_true];refine .inl ?_;rw[<-Q2 (r:=rho C.G (Fs n ops o (t.T j))) (λx hx=>Iw hTn hx)]at hg;refine RK hC I1.glob I1.sim gZ hg (λE' w' v x hres=>by cases hres) (λE' w' v x hres hv q1 q2=>?_);cases hres;refine eX E' _ H' a w' _ v (I1.glob.mono q2.le) (I1.step.trans q2) ⟨⟨?_,λx' y u hy hu=>?_⟩,by simp[hTn],by rw[ha,Ko];exact oQ,q1⟩ hv hout
     ·have:=hl.1;simp only[W7];rw[hTn,<-this];simp[Fs]
     ·rw[VK]at hy;cases hq:(t.T j)[x']? with
      |none=>simp[hq]at hy
      |some q=>simp[hq]at hy;subst hy;exact .undef _
  |false=>
   have hlt:j<M:=by
    rcases VT j M with h | h
    ·exact h
    ·exfalso;have nO:j=M:=by omega
     rcases hfin with ⟨h,_⟩ | ⟨hM,i',o',x,H',g1,g2,g3,_⟩
     ·omega
     ·rw[<-nO,hj]at g1;cases g1;rw[ho]at g2;cases g2;rw[HS.2 g3]at hE;cases hE
   have iZ:∃(c':Nat) (E':Env),c<=c'/\c'<=j/\Inv C ops perm t M E0 H0 w0 c' S cv bo E' w/\E.le E'/\A1 E' (Fs n ops o (t.T j)) (CZ ops S cv perm a0).tmps.toList:=by
    by_cases rT:∀(b i':Nat) (o':Oper),b<j->perm[b]? = some i'->ops[i']? = some o'->isA o'=true->∀d,o'.dst=some d->d ∉ o.looksAt ops
    ·exact⟨c,E,Vo _,gQ,I,.refl E,I.looks R h0 hn hj ho jA hSi jO (.inr ⟨hpre,rT⟩)⟩
    ·have iY:∀(b x:Nat),b<j->perm[b]? = some x->S x=true:=by
      intro b x hb hx;apply Classical.byContradiction;intro hSx;apply rT;intro b1 i1 o1 gC jD zS hA1;obtain⟨oj,q1,_,q3⟩:=R.spec j i hj;rw[ho]at q1;cases q1;obtain⟨o3,p1,_,_,p4⟩:=q3 b1 i1 gC jD;rw[zS]at p1;cases p1;rcases p4 hA1 hE with h | h
      ·exact h
      ·exact absurd ((h b x hb hx).elim (jO x) (hpre x)) hSx
     obtain⟨E1,I1,hle⟩:=Inv.absorbTo R j jA iY (j-c) c E w (by omega) I;exact⟨j,E1,gQ,Vo _,I1,hle,I1.looks R (h0.mono hle) hn hj ho jA hSi jO (.inl ⟨rfl,.inl hpre⟩)⟩
   obtain⟨c',E1,hcc,gQ,I,kU,hl⟩:=iZ;rw[<-ha]at hl;have hTn:=R.tlen hn j jA;have gZ:=MI (C:=C) I.glob hl;unfold wpOp;simp only[ho];obtain⟨i',o',g1,g2,bX,_,hst⟩:=R.step j hlt;rw[hj]at g1;cases g1;rw[ho]at g2;cases g2;have hw:=NW (b:=t.B j) hl ((LQ hTn).trans bX);rw[hw];rcases hst with ⟨aG,hg,pD,_⟩ | ⟨aG,hg,_⟩ | ⟨aG,_⟩
   ·have nG:¬isA o=true:=λh=>by rw[O2.1 h]at aG;cases aG
    cases hB:t.B j with
    |false=>rw[hB]at hg;simp only[gR,Vq,if_false,Vv]at hg;simp only[Vq,if_false];exact next w c' undef _ E1 hcc kU (I.add R hj ho gQ hlt hE aW I.sim (.refl _ _ _) undef 0 (λ_=>by rw[<-hg];exact Oe) (λh=>absurd h nG))
    |true=>
     rw[hB]at hg;simp only[gR,if_true]at hg;simp only[if_true];refine .inl ?_;obtain⟨⟨p,hp⟩,_⟩:=R.hists oN cO c' (by omega);obtain⟨_,qY⟩:=R.hists oN cO j jA;have hE':BA C o.op (rho C.G (t.T j)) (t.hE c')=some (t.V j):=by
      cases wV:Jf o.op with
      |false=>rw[Va9 wV (t.hE j)];exact hg
      |true=>
       rcases qY c' gQ with e | ⟨q,e,b,ob,q1,q2,q3,q4,q5,q6,q7⟩
       ·rw[e];exact hg
       ·have hst:=pD wV;rw[hB]at hst;have:=Ve1 (t.hist j) q e (t.hE c') hst q1 (λr e' h' hr hh=>by
         obtain⟨b',o',x1,x2,x3,x4,x5⟩:=q7 r e' h' hr hh;cases lI:((Region.before ops).getD i 0).testBit e' with
         |false=>exact lI
         |true=>have:=(I.noE b' e' o' x1 x3 x4 (jO e' lI)).1;rw[x5]at this;cases this)
        simpa[gR]using this
     have hst:=Vd0 p hE';rw[<-hp,<-Q1 (r:=rho C.G (Fs n ops o (t.T j))) (λx hx=>Iw hTn hx)]at hst;obtain⟨v,w',E',z1,z2,z3,z4⟩:=VbO hC.eq hC.map I.sim gZ (λ_=>rfl) hst;unfold Oper.wp;rw[z1,Oper.upon_value];exact next w' c' v _ E' hcc (kU.trans z4.le) (I.add R hj ho gQ hlt hE aW z3 z4 v 0 (λ_=>z2) (λh=>absurd h nG))
   ·have hA:isA o=true:=O2.2 aG;cases hB:t.B j with
    |false=>rw[hB]at hg;simp only[gA,Vq,if_false,Vv,VC]at hg;simp only[Vq,if_false];exact next w c' undef _ E1 hcc kU (I.add R hj ho gQ hlt hE aW I.sim (.refl _ _ _) undef 0 (λ_=>by rw[<-hg.1];exact Oe) (λ_ h=>by rw[hB]at h;cases h))
    |true=>
     rw[hB]at hg;simp only[gA,if_true]at hg;simp only[if_true];refine .inl ?_;rw[<-VaA (r:=rho C.G (Fs n ops o (t.T j))) (λx hx=>Iw hTn hx)]at hg;have aL:=Vd2 (H2:=t.cur c') (by rw[hg];simp);cases hst:CH C o.op (rho C.G (Fs n ops o (t.T j))) (t.cur c')with
     |none=>exact absurd hst aL
     |some pz=>
      obtain⟨z,H'⟩:=pz;obtain⟨B,v,ob,f,rfl,hz,aF,z1,z2,z3⟩:=(VbP I.sim gZ hst).ex;rw[aF]at hg;simp only[Vv,VC]at hg;obtain⟨l1,l2⟩:=I.sim.laid ob;unfold Oper.wp;rw[z1,Oper.upon_value];refine next _ c' v _ E1 hcc kU (I.add R hj ho gQ hlt hE aW l1 l2 v w.heap.size (λh=>?_) (λ_ _=>⟨rfl,B,f,I.step.size,z2,hg.2.symm,hg.1.symm,z3⟩))
      rcases h with h | h
      ·rw[hA]at h;cases h
      ·rw[hB]at h;cases h
   ·rw[HS.2 aG]at hE;cases hE

end
theorem VdA {C:Cfg}{E:Env}{r:Operand->Ab}{ρ:Operand->Value}{H:Aa}{o:Oper}{z:Ab}(hp:Sk o=true)(hr:∀x,Au E (r x) (ρ x))(h:BA C o.op r H=some z):∃v,Au E z v/\∀w,(execOp ρ o).run C.P w=.ok (.value v) w:=by
 unfold Sk at hp;simp only[Vx]at hp;obtain⟨_,hp⟩:=hp;split at hp
 ·rename_i x aD;simp only[aD,BA,Vv]at h;subst h;exact⟨ρ x,hr x,λw=>by simp only[execOp,aD];rfl⟩
 ·rename_i x aD;simp only[aD,BA]at h;exact Vag aD (hr x) h
 ·rename_i s x f aD;simp only[aD,BA]at h;unfold OD at h;split at h
  ·rename_i fd jH;split at h
   ·cases h
   ·rename_i hk;obtain⟨_,hz,_⟩:=Cz (P:=C.P) (t:=fd.type) (by simpa using hk);split at jH
    ·rename_i fs hu;obtain⟨v,h1,h2⟩:=TJ (C:=C) hu jH hz (hr x) h;exact⟨v,h1,λw=>by simp only[execOp,aD,zXf,h2];rfl⟩
    ·simp at jH
  ·cases h
 ·cases hp
theorem Vib {ops:Array Oper}{perm:zAb}(h:Ld ops perm≠0):Region.noSelect ops=true:=by
 unfold Ld at h;split at h
 ·assumption
 ·exact absurd rfl h
section
variable {C:Cfg}{ops:Array Oper}{perm:zAb}{t:Tr}{M:Nat}{E0:Env}{H0:Aa}{w0:World}
theorem Vjc (hC:MC C){n:Nat}{out:Res×Aa}{k:List Ab->Aa->Out}{kp:Ab->List Ab->Aa->Out}{Q:Exit->Act->World->Prop}(hk:KOk C n E0 H0 w0 out k (Q .normal))(eX:Vm7 C n E0 H0 w0 out kp Q)
  (hQ:∀c a d v w,Q (.panic c) (a.put d v) w->Q (.panic c) a w)
  (R:Lw C ops perm t M)(oN:t.hist 0=[])(cO:t.cur 0=t.hE 0)(hfin:(M=perm.length/\k (t.T M) (t.cur M)=some out)\/Pd C ops (λi j=>((Region.before ops).getD j 0).testBit i) perm kp out t M){a0:Act}(hn:(t.T 0).length=n)(oQ:a0.defers=[])(hKM:Ld ops perm<=M) :
  ∀(d q:Nat) (done:zAb) (fuel:Nat) (listed:Array Bool) (a:Act) (w:World) (S:Nat->Bool) (cv:Nat->Value) (bo:Nat->Nat) (E:Env),q+d=Ld ops perm->(d=0\/TC ops (perm.drop q) done=d)->(∀x,x∈done↔S x=true)->(∀(p x:Nat),q<=p->perm[p]? = some x->S x=false)->listed.size=ops.size->(∀i,S i=listed.getD i false)->((List.range ops.size).filter λi=>!listed.getD i true).length<=fuel ->
   Inv C ops perm t M E0 H0 w0 q S cv bo E w->A1 E (t.T 0) a0.tmps.toList->a=CZ ops S cv perm a0->wpAny C.P .any ops Q fuel listed a w:=by
 intro d
 induction d with
 |zero=>intro q done fuel listed a w S cv bo E zO _ _ _ hsz hS cM I h0 ha;exact Vjd hC hk eX R oN cO hfin hn oQ fuel listed a w q S cv bo E (by omega) hsz hS cM I h0 ha
 |succ d ih=>
  intro q done fuel listed a w S cv bo E zO hN jI aS hsz hS cM I h0 ha;have hN:=hN.resolve_left (by omega);cases hdr:perm.drop q with
  |nil=>rw[hdr]at hN;simp[TC]at hN
  |cons i rest=>
   rw[hdr]at hN;have hi:perm[q]? = some i:=by have:=congrArg (·[0]?) hdr;simpa using this
   have pK:perm.drop (q+1)=rest:=by rw[<-Wp,hdr];rfl
   unfold TC at hN;cases ho:ops[i]? with
   |none=>rw[ho]at hN;simp at hN
   |some o=>
    rw[ho]at hN;simp only at hN;split at hN
    ·rename_i hc;simp only[Vx,Wk]at hc;obtain⟨⟨⟨nB,gP⟩,kM⟩,aL⟩:=hc;have hN':TC ops rest (i::done)=d:=by omega
     have aK:i<ops.size:=(VX.1 ho).1;have hSi:S i=false:=aS q i (Vo _) hi;have aW:∀e∈o.after,Region.binds .any e=true->S e.on=true:=λe he hb=>by have:=Yn.1 gP e he;simp only[hb,VR,zXo]at this;exact (jI _).1 (by simpa using this)
     have hlt:q<M:=by omega
     have aR:∀x,x<ops.size->listed.getD x true=S x:=λx hx=>by rw[hS,V3,V3,Xa (by omega)];rfl
     obtain⟨i',o',g1,g2,bX,_,hst⟩:=R.step q hlt;rw[hi]at g1;cases g1;rw[ho]at g2;cases g2;have eF:o.guard=none:=by unfold Sk at nB;simp only[Vx]at nB;simpa using nB.1
     have lF:cls o.op=.r:=by
      unfold Sk at nB;simp only[Vx]at nB;have:=nB.2;split at this
      ·rename_i h;rw[h];rfl
      ·rename_i h;rw[h];rfl
      ·rename_i h;rw[h];rfl
      ·cases this
     have hB:t.B q=true:=by unfold HG at bX;rw[eF]at bX;simpa using bX.symm
     have kO:isE o=false:=by unfold isE;rw[lF]
     have nG:isA o=false:=by unfold isA;rw[lF]
     rcases hst with ⟨_,hg,_⟩ | ⟨aG,_⟩ | ⟨aG,_⟩
     ·rw[hB]at hg;simp only[gR,if_true]at hg;have jO:∀x,((Region.before ops).getD i 0).testBit x=true->S x=true:=λx hx=>Jd (S:=λx=>S x=true) (λx ox hSx aJ=>I.closed x ox hSx aJ) i x (λox aJ=>by rw[ho]at aJ;cases aJ;exact aW) hx;have hl:=I.looks R h0 hn hi ho (by omega) hSi jO (.inl ⟨rfl,.inr aS⟩);rw[<-ha]at hl;have hTn:=R.tlen hn q (by omega);have gZ:=MI (C:=C) I.glob hl;rw[<-Q1 (r:=rho C.G (Fs n ops o (t.T q))) (λx hx=>Iw hTn hx)]at hg;obtain⟨v,hv,aC⟩:=VdA nB gZ hg;have hy:Yields C.P ops o v a:=.inl ⟨by unfold Region.wanted;rw[eF],aC⟩;have yD:((List.range ops.size).filter λx=>!(listed.setIfInBounds i true).getD x true).length<((List.range ops.size).filter λx=>!listed.getD x true).length:=
       (Qc (p:=λx=>!listed.getD x true) (q:=λx=>!(listed.setIfInBounds i true).getD x true) (i:=i) (by rw[aR i aK,hSi];rfl) (by rw[V3,Wy (by omega)];rfl) (λx hx=>by
        by_cases aH:x=i
        ·subst aH;rw[aR x aK,hSi];rfl
        ·rw[V3,Wq (λh=>aH h.symm),<-V3]at hx;exact hx) (List.range ops.size)).2 (WV.2 aK)
      cases fuel with
      |zero=>omega
      |succ fuel=>
       refine wpAny_take ho (Vib (perm:=perm) (by omega)) ?_ ?_ (λc a w h=>hQ c a o.dst v w h) hy ?_
       ·unfold Region.free;rw[ho];simp only;rw[V7]at aL ⊢;intro x hx;have h1:=aL x hx;simp only[Wn]at h1 ⊢;refine h1.imp (λh=>h.imp id λh=>?_) id;rw[aR x (WV.1 hx)];exact (jI x).1 (by simpa using h)
       ·have:i∈Region.ready .any ops listed:=mem_ready.2 ⟨by rw[aR i aK,hSi],o,ho,λe he hb=>by rw[<-hS];exact aW e he hb⟩;simpa using this
       ·have hS':∀x,(if x=i then true else S x)=(listed.setIfInBounds i true).getD x false:=by
         intro x;rw[V3];by_cases hx:x=i
         ·subst hx;rw[Wy (by omega)];simp
         ·rw[Wq (λh=>hx h.symm),if_neg hx,hS,V3]
        have I1:=I.add (o:=o) (bo:=bo) R hi ho (Vo _) hlt kO aW I.sim (.refl _ _ _) v 0 (λ_=>hv) (λh=>by rw[nG]at h;cases h);obtain⟨E',I2,hle⟩:=I1.absorb R hlt hi (by simp);refine ih (q+1) (i::done) fuel _ _ w _ _ _ E' (by omega) (.inr (by rw[pK];exact hN')) (λx=>?_) (λp x hp hx=>?_) (by simp[hsz]) hS' (by omega) I2 (h0.mono hle) ?_
        ·by_cases hx:x=i
         ·simp[hx]
         ·simp[hx,jI x]
        ·have:x≠i:=λe=>by subst e;have:=R.inj hx hi;omega
         simp only[if_neg this];exact aS p x (by omega) hx
        ·rw[PZ (v:=v) hSi perm a0 q hi (λq r x h1 h2=>R.inj h1 h2) (λp x hp hx hSx d hd=>by rw[aS p x (by omega) hx]at hSx;cases hSx),<-ha,JA ho]
     ·rw[lF]at aG;cases aG
     ·rw[lF]at aG;cases aG
    ·omega

end
theorem Vj2 {P:Program}{ops:Array Oper}{Q Q':Exit->Act->World->Prop}{md:Region.Mode}(hQ:∀e a w,Q e a w->Q' e a w):∀(fuel:Nat) (listed:Array Bool) (a:Act) (w:World),wpAny P md ops Q fuel listed a w->wpAny P md ops Q' fuel listed a w:=by
 intro fuel
 induction fuel with
 |zero=>exact λ_ _ _ h=>⟨h.1,hQ _ _ _ h.2⟩
 |succ fuel ih=>
  intro listed a w h;refine⟨λh1=>hQ _ _ _ (h.1 h1),λi hi=>?_⟩;have h2:=h.2 i hi;unfold wpOp at h2 ⊢;cases ho:ops[i]? with
  |none=>rw[ho]at h2;exact ih _ _ _ h2
  |some o=>
   rw[ho]at h2;simp only at h2 ⊢;split
   ·rename_i hw;rw[if_pos hw]at h2;rcases h2 with h2 | ⟨h2,a2,w2,h3⟩
    ·refine .inl (Oper.wp_mono (λa w h=>ih _ a w h) ?_);unfold Oper.wp at *;generalize (execOp a.eval o).run P w=r at *;cases r with
     |ok v w'=>
      cases v with
      |enter f args=>
       refine Calls.mono (R:=_) h2 λe w2 he=>?_;cases e with
       |returned v=>exact he
       |panicked c=>exact hQ _ _ _ he
       |outgrown=>obtain⟨a2,w3,h3⟩:=he;exact⟨_,w3,hQ _ _ _ h3⟩
      |_=>exact h2
     |halt e w'=>cases e <;> first | exact hQ _ _ _ h2 | exact h2
    ·exact .inr ⟨h2,_,w2,hQ _ _ _ h3⟩
   ·rename_i hw;rw[if_neg hw]at h2;exact ih _ _ _ h2
def Vdn (Q:Exit->Act->World->Prop)(e:Exit)(a:Act)(w:World):Prop:=
 match e with
 |.panic c=>∀a':Act,a'.tmps.size=a.tmps.size->a'.defers=a.defers->Q (.panic c) a' w
 |e=>Q e a w
theorem VbE {Q:Exit->Act->World->Prop}(e:Exit)(a:Act)(w:World)(h:Vdn Q e a w):Q e a w:=by cases e <;> first | exact h _ rfl rfl | exact h
theorem Veb {Q:Exit->Act->World->Prop}(c:List PanicEntry)(a:Act)(d:Option Tmp)(v:Value)(w:World)(h:Vdn Q (.panic c) (a.put d v) w):Vdn Q (.panic c) a w:=
 λa' h1 h2=>h a' (by rw[h1,Vce]) (by rw[h2,NA])
theorem Vbr {C:Cfg}{pb:Bool}(hC:MC C){n:Nat}{E0:Env}{H0:Aa}{w0:World}{out:Res×Aa}{ops:Array Oper}{perm:zAb}{k:List Ab->Aa->Out}{kp:Ab->List Ab->Aa->Out}{Q:Exit->Act->World->Prop}{E:Env}{tm:List Ab}{H:Aa}{a:Act}{w:World}
  (hk:KOk C n E0 H0 w0 out k (Q .normal))(eX:Vm7 C n E0 H0 w0 out kp Q)(hok:JZ ops perm=true)(hG:DM C.G E)(st:BL E0 H0 w0 E H w)(hf:HF n E H tm a w)
  (h:Gx C pb ops (λi j=>((Region.before ops).getD j 0).testBit i) k kp perm [] H H tm=some out):wpAny C.P .any ops Q ops.size (Array.replicate ops.size false) a { w with drawn:=w.drawn+1 }:=by
 obtain⟨t,M,q1,q2,q3,q4,q5,q6,q7⟩:=NX perm [] H H tm h;simp only[JZ,Vx,beq_iff_eq]at hok;obtain⟨⟨hl,bT⟩,hfrom⟩:=hok;have R:Lw C ops perm t M:=by
  refine⟨hl,λi hi=>?_,q5,λx j hx=>?_,q6⟩
  ·have:=V7.1 bT i (WV.2 hi);simpa using this
  ·obtain⟨oj,y1,y2,y3⟩:=Q8 perm [] hfrom x j hx;refine⟨oj,y1,λe he hb=>?_,λb i hb hi=>?_⟩
   case refine_2=>obtain⟨oi,z1,z2,z3,z4⟩:=y3 i (.inr ⟨b,hb,hi⟩);exact⟨oi,z1,z2,z3,λha he=>(z4 ha he).imp id λh b' i' hb' aE=>h i' (.inr ⟨b',hb',aE⟩)⟩
   rcases y2 e he hb with h | h
   ·simp at h
   ·exact h
 obtain⟨d1,d2⟩:=hf.sim.drew (w.drawn+1);have hKl:∀(rest done:zAb) (j:Nat),j<TC ops rest done->∃i o,rest[j]? = some i/\ops[i]? = some o/\Sk o=true:=by
  intro rest
  induction rest with
  |nil=>intro done j h;simp[TC]at h
  |cons i rest ih=>
   intro done j h;unfold TC at h;cases ho:ops[i]? with
   |none=>rw[ho]at h;simp at h
   |some o=>
    rw[ho]at h;simp only at h;split at h
    ·rename_i hc;simp only[Vx]at hc;cases j with
     |zero=>exact⟨i,o,rfl,ho,hc.1.1.1⟩
     |succ j=>obtain⟨i',o',g1,g2⟩:=ih (i::done) j (by omega);exact⟨i',o',by simpa using g1,g2⟩
    ·omega
 have hKN:Ld ops perm<=TC ops perm []:=by unfold Ld;split <;> omega
 have hKM:Ld ops perm<=M:=by
  rcases VT M (Ld ops perm)with h | h
  ·exfalso;obtain⟨i,o,g1,g2,g3⟩:=hKl perm [] M (by omega);rcases q7 with ⟨e,_⟩ | ⟨_,i',o',x,H',e1,e2,e3,_⟩
   ·have:=(Vn.1 g1).1;omega
   ·rw[g1]at e1;cases e1;rw[g2]at e2;cases e2;unfold Sk at g3;simp only[Vx]at g3;have:=g3.2;split at this <;> rename_i aD <;> first | (rw[aD]at e3;cases e3) | cases this
  ·exact h
 refine Vj2 VbE _ _ _ _ ?_;refine Vjc (E0:=E0) (H0:=H0) (w0:=w0) (Q:=Vdn Q) hC (λE tm H a w h1 h2 h3 h4=>hk E tm H a w h1 h2 h3 h4) (kp:=λv tm H=>chk (∀x∈tm,x=.undef) (kp v tm H)) ?_ Veb R q4 (by rw[q2,q3]) ?_ (a0:=a) (by rw[q1];exact hf.len) hf.defers hKM (Ld ops perm) 0 [] ops.size _ a _ (λ_=>false) (λ_=>undef) (λ_=>0) E (by omega) ?_ (λx=>by simp) (λ_ _ _ _=>rfl) (by simp) (λi=>?_) ?_ ?_ (by rw[q1];exact hf.rel) ?_
 ·intro E1 tm1 H1 a1 w1 x v h1 h2 h3 h4 h5 a' hs hd;simp only[chk]at h5;split at h5
  ·rename_i hu;refine eX E1 tm1 H1 a' w1 x v h1 h2 ⟨⟨?_,λj y u hy _=>?_⟩,h3.len,by rw[hd];exact h3.defers,h3.sim⟩ h4 h5
   ·have:=h3.rel.1;simp only[Array.length_toList]at this ⊢;rw[hs];exact this
   ·rw[hu y (VE hy)];exact .undef _
  ·cases h5
 ·rcases q7 with e | ⟨e,i,o,x,H',e1,e2,e3,e4,e5,e6,e7⟩
  ·exact .inl e
  ·refine .inr ⟨e,i,o,x,H',e1,e2,e3,e4,e5,?_,e7⟩;simp only[chk];rw[if_pos (λy hy=>by obtain⟨_,_,rfl⟩:=WM.1 hy;rfl)];exact e6
 ·unfold Ld;split
  ·exact .inr rfl
  ·exact .inl rfl
 ·rw[V3,Array.getElem?_replicate];split <;> rfl
 ·exact VM (X3 _ _) (by simp)
 ·refine⟨VL _,λj i h=>by omega,λj i o _ _ _ h=>(by cases h),λj o h=>(by cases h),hG,by rw[q3];exact st.trans d2,by rw[q3];exact d1,λj i o _ _ h=>(by cases h),λj i o _ _ _ h=>(by cases h),λj i j' i' o o' _ _ _ _ _ _ h=>(by cases h)⟩
 ·have:∀l:zAb,CZ ops (λ_=>false) (λ_=>undef) l a=a:=by
   intro l
   induction l with
   |nil=>rfl
   |cons x l ih=>rw[Dm];simpa using ih
  exact (this perm).symm
theorem Vg7 {C:Cfg}(hC:MC C)(hm:C.P.follows .mixedOrders=true):Vdw C:=
 λ_ _ _ _ _ _ _ _ _ _ _ _ _ _ _ _ _ hk eX hok hG st hf h=>wp_region_any hm (Vbr hC hk eX hok hG st hf h)
def Qx (v:Ab)(want:Bool):Option Bool:=
 match (some v:Option Ab)with
 |some (.bool b)=>some (b == want)
 |some (.tup [])=>some false
 |_=>none
def gk (c:Ab)(w:Bool)(x:Option Ab)(k:Ab->Out):Out:=(Qx c w).bind λb=>(gR b x).bind k
noncomputable def gkc (c:Ab)(w:Bool)(x:Option Ab)(p:Bool->Ab->Prop)(k:Ab->Out):Out:=(Qx c w).bind λb=>(gR b x).bind λv=>chk (p b v) (k v)
def gkA (c:Ab)(w:Bool)(H:Aa)(x:Option (Ab×Aa))(k:Ab->Aa->Out):Out:=(Qx c w).bind λb=>Ao (gA b H x) k
def gbE (c:Ab)(w:Bool)(H:Aa)(x:Out)(k:Ab->Aa->Out)(kp:Ab->Aa->Out):Out:=(Qx c w).bind λb=>HE (gE b H x) k kp
noncomputable def bC (x:Option Ab)(p:Ab->Prop)(k:Ab->Out):Out:=x.bind λv=>chk (p v) (k v)
def Gv (all:Array Oper)(o:Oper)(tm:List Ab):Option (Option (Ab×Bool)):=
 match o.guard with
 |none=>some none
 |some (j,want)=>match (all[j]?).bind (·.dst)with
  |some d=>some (some (tm.getD d .undef,want))
  |none=>none
theorem R6 (all:Array Oper)(o:Oper)(tm:List Ab):HG all o tm=match Gv all o tm with
  |none=>none
  |some none=>some true
  |some (some (c,w))=>Qx c w:=by
 unfold HG Gv;cases o.guard with
 |none=>rfl
 |some p=>
  obtain⟨j,want⟩:=p;simp only[];cases (all[j]?).bind (·.dst)with
  |none=>rfl
  |some d=>simp only[zXb,Qx];cases tm.getD d .undef <;> rfl
def stR (g:Option (Option (Ab×Bool)))(x:Option Ab)(k:Ab->Out):Out:=
 match g with
 |none=>none
 |some none=>x.bind k
 |some (some (c,w))=>gk c w x k
noncomputable def stC (g:Option (Option (Ab×Bool)))(x:Option Ab)(p:Bool->Ab->Prop)(k:Ab->Out):Out:=
 match g with
 |none=>none
 |some none=>bC x (p true) k
 |some (some (c,w))=>gkc c w x p k
def stA (g:Option (Option (Ab×Bool)))(H:Aa)(x:Option (Ab×Aa))(k:Ab->Aa->Out):Out:=
 match g with
 |none=>none
 |some none=>Ao x k
 |some (some (c,w))=>gkA c w H x k
def stE (g:Option (Option (Ab×Bool)))(H:Aa)(x:Out)(k:Ab->Aa->Out)(kp:Ab->Aa->Out):Out:=
 match g with
 |none=>none
 |some none=>HE x k kp
 |some (some (c,w))=>gbE c w H x k kp
def VmI (o:Oper):Option Operand:=
 match o.guard,o.op with
 |none,.move x=>some x
 |none,.assign x=>some x
 |_,_=>none
theorem Vf9 {C:Cfg}{o:Oper}{x:Operand}(h:VmI o=some x):o.guard=none/\cls o.op=.r/\Jf o.op=false/\∀r H,BA C o.op r H=some (r x):=by
 unfold VmI at h;split at h
 ·rename_i h1 h2;cases h;rw[h2];exact⟨h1,rfl,rfl,λ_ _=>rfl⟩
 ·rename_i h1 h2;cases h;rw[h2];exact⟨h1,rfl,rfl,λ_ _=>rfl⟩
 ·cases h
def Vln (C:Cfg)(all:Array Oper):List Oper->(List Ab->Aa->Out)->(Ab->List Ab->Aa->Out)->List Ab->Aa->Out
 |[],k,_,tm,H=>k tm H
 |o::rest,k,kp,tm,H=>
  match VmI o with
  |some x=>Vln C all rest k kp (GA tm o.dst (rho C.G tm x)) H
  |none=>
  match cls o.op with
  |.r=>stR (Gv all o tm) (BA C o.op (rho C.G tm) H) λv=>Vln C all rest k kp (GA tm o.dst v) H
  |.a=>stA (Gv all o tm) H (CH C o.op (rho C.G tm) H) λv H=>Vln C all rest k kp (GA tm o.dst v) H
  |.e=>stE (Gv all o tm) H (Fy C o.op (rho C.G tm) H) (λv H=>Vln C all rest k kp (GA tm o.dst v) H) (λv H=>kp v tm H)
theorem VjN (C:Cfg)(all:Array Oper)(k:List Ab->Aa->Out)(kp:Ab->List Ab->Aa->Out):∀(os:List Oper) (tm:List Ab) (H:Aa),OE C all os k kp tm H=Vln C all os k kp tm H
 |[],tm,H=>rfl
 |o::rest,tm,H=>by
  have ih:=VjN C all k kp rest;unfold Vln;simp only[OE];cases hm:VmI o with
  |some x=>obtain⟨h1,h2,_,h3⟩:=Vf9 (C:=C) hm;simp only[HG,h1,zXa,h2,gR,if_true,h3,ih]
  |none=>
   rw[R6];cases hg:Gv all o tm with
   |none=>cases cls o.op <;> rfl
   |some g=>
    cases g with
    |none=>cases cls o.op <;> simp only[zXa,gR,gA,gE,if_true,stR,stA,stE,ih]
    |some p=>obtain⟨c,w⟩:=p;cases cls o.op <;> simp only[stR,stA,stE,gk,gkA,gbE,ih]
noncomputable def ON (C:Cfg)(pb:Bool)(ops:Array Oper)(bf:Nat->Nat->Bool)(k:List Ab->Aa->Out)(kp:Ab->List Ab->Aa->Out) :
  zAb->List (Nat×Aa)->Aa->Aa->List Ab->Out
 |[],_,_,cur,tm=>k tm cur
 |i::rest,hist,hE,cur,tm=>
  match ops[i]? with
  |none=>none
  |some o=>
   match VmI o with
   |some x=>ON C pb ops bf k kp rest hist hE cur (GA tm o.dst (rho C.G tm x))
   |none=>
   match cls o.op with
   |.r=>if Jf o.op then stC (Gv ops o tm) (BA C o.op (rho C.G tm) hE) (λw v=>Vk3 (λe=>bf e i) (λh=>gR w (BA C o.op (rho C.G tm) h)) v hist) λv=>ON C pb ops bf k kp rest hist hE cur (GA tm o.dst v)
     else stR (Gv ops o tm) (BA C o.op (rho C.G tm) hE) λv=>ON C pb ops bf k kp rest hist hE cur (GA tm o.dst v)
   |.a=>stA (Gv ops o tm) cur (CH C o.op (rho C.G tm) cur) λv H=>ON C pb ops bf k kp rest hist hE H (GA tm o.dst v)
   |.e=>stE (Gv ops o tm) cur (Fy C o.op (rho C.G tm) cur) (λv H=>ON C pb ops bf k kp rest ((i,hE)::hist) H H (GA tm o.dst v)) (λv H=>match rest.all (λj=>pb&&bf i j)with | true=>kp v (tm.map λ_=>.undef) H | false=>none)
theorem Vg8 (C:Cfg)(pb:Bool)(ops:Array Oper)(bf:Nat->Nat->Bool)(k:List Ab->Aa->Out)(kp:Ab->List Ab->Aa->Out):∀(perm:zAb) (hist:List (Nat×Aa)) (hE cur:Aa) (tm:List Ab),Gx C pb ops bf k kp perm hist hE cur tm=ON C pb ops bf k kp perm hist hE cur tm
 |[],_,_,_,_=>rfl
 |i::rest,hist,hE,cur,tm=>by
  have ih:=Vg8 C pb ops bf k kp rest;unfold ON;simp only[Gx];cases ho:ops[i]? with
  |none=>rfl
  |some o=>
   simp only[];cases hm:VmI o with
   |some x=>obtain⟨h1,h2,h4,h3⟩:=Vf9 (C:=C) hm;simp only[HG,h1,zXa,h2,gR,if_true,h3,h4,Vq,if_false,ih]
   |none=>
    rw[R6];cases hg:Gv ops o tm with
    |none=>cases cls o.op <;> (try rfl);simp only[stR,stC];split <;> rfl
    |some g=>
     cases g with
     |none=>cases hc:cls o.op <;> cases hr:Jf o.op <;> simp only[zXa,gR,gA,gE,if_true,Vq,if_false,stR,stC,bC,stA,stE,ih] <;> rfl
     |some p=>obtain⟨c,w⟩:=p;cases hc:cls o.op <;> cases hr:Jf o.op <;> simp only[if_true,Vq,if_false,stR,stC,stA,stE,gk,gkc,gkA,gbE,ih] <;> rfl
noncomputable def ev2 (C:Cfg)(n:Nat):Code->Ann->Rf->List Ab->Aa->Out
 |.skip,_,K,tm,H=>K .normal tm H
 |.label _,_,K,tm,H=>K .normal tm H
 |.ret,_,K,tm,H=>K .ret tm H
 |.exit id,_,K,tm,H=>K (.exit id) tm H
 |.region _ ops false,_,K,tm,H=>Vln C ops ops.toList (λtm H=>K .normal tm H) (λv tm H=>K (.pan v) tm H) tm H
 |.region _ ops true,.reg perm,K,tm,H=>if JZ ops perm then ON C false ops (λi j=>((Region.before ops).getD j 0).testBit i) (λtm H=>K .normal tm H) (λv tm H=>K (.pan v) tm H) perm [] H H tm else none
 |.region _ ops true,.regp perm,K,tm,H=>if JZ ops perm then ON C true ops (λi j=>((Region.before ops).getD j 0).testBit i) (λtm H=>K .normal tm H) (λv tm H=>K (.pan v) tm H) perm [] H H tm else none
 |.seq a b,.tw x y,K,tm,H=>ev2 C n a x (Vka (λtm H=>ev2 C n b y K tm H) K) tm H
 |.seq a b,.join L x y,K,tm,H=>AM (λj=>ev2 C n a x (Vka (λtm H=>j (Ip L tm) H) K) tm H) (λvs H=>ev2 C n b y K (Og n L vs) H)
 |.cond c a b,.tw x y,K,tm,H=>Ak (rho C.G tm c) (ev2 C n a x K tm H) (ev2 C n b y K tm H)
 |.block id a,.one x,K,tm,H=>ev2 C n a x (VfR id K) tm H
 |.loop a,.loop L x,K,tm,H=>Am (λrec vs H=>ev2 C n a x (Vka (λtm H=>rec (Ip L tm) H) K) (Og n L vs) H) AP (Ip L tm) H
 |_,_,_,_,_=>none
theorem ViY (C:Cfg)(n:Nat):∀(c:Code) (ann:Ann) (K:Rf) (tm:List Ab) (H:Aa),evC C n c ann K tm H=ev2 C n c ann K tm H:=by
 intro c
 induction c with
 |region id ops draw=>
  intro ann K tm H;cases draw with
  |false=>simp only[evC,ev2,VjN]
  |true=>cases ann <;> simp only[evC,ev2,Vg8]
 |seq a b iha ihb=>intro ann K tm H;cases ann <;> simp only[evC,ev2,iha,ihb]
 |cond c a b iha ihb=>intro ann K tm H;cases ann <;> simp only[evC,ev2,iha,ihb]
 |block id a ih=>intro ann K tm H;cases ann <;> simp only[evC,ev2,ih]
 |loop a ih=>intro ann K tm H;cases ann <;> simp only[evC,ev2,ih]
 |_=>intro ann K tm H;cases ann <;> simp only[evC,ev2]
noncomputable def fn2 (C:Cfg)(fn:Func)(body:Code)(ann:Ann)(m:Fe)(args:List Ab)(H:Aa):Out:=
 ev2 C fn.ntmps body ann (λe tm H'=>match e with
  |.normal=>(F3 C fn.results.toList tm H').bind λv=>fin m H (.ret v) H'
  |.ret=>(F3 C fn.results.toList tm H').bind λv=>fin m H (.ret v) H'
  |.pan v=>fin m H (.pan v) H'
  |.exit _=>none) (args++List.replicate (fn.ntmps-args.length) .undef) H
theorem Vpx (C:Cfg)(fn:Func)(body:Code)(ann:Ann)(m:Fe)(args:List Ab)(H:Aa):fnA C fn body ann m args H=fn2 C fn body ann m args H:=by unfold fnA fn2;rw[ViY];rfl
def NI (P:Program)(t:TypeId):Bool:=match P.underlying t with | some (.int _)=>true | _=>false
def Vc4 (P:Program)(t:TypeId)(n:Nat):Bool:=match P.underlying t with | some (.array m e)=>NI P e&&Aq P e == 1&&m == n&&Aq P t == n | _=>false
def eqB (P:Program)(t:TypeId):Bool:=
 !P.eqGuardType P.depth t&&(match P.underlying t with
 |some (.array n _)=>Vc4 P t n
 |some (.struct fs)=>(match fs.toList with
  |[f,g]=>f.name != "_" && g.name != "_" && NI P f.type&&f.offset == 0&&g.offset == 1 && !P.stoodInHeld t&&(match P.underlying g.type with | some (.array n _)=>Vc4 P g.type n&&Aq P t == n+1 | _=>false)
  |_=>false)
 |_=>false)
def VlB (P:Program)(t:TypeId):Bool:=eqB P t||NI P t
section
variable {P:Program}
theorem EQ {t:TypeId}(h:NI P t=true):∃k,P.underlying t=some (.int k):=by
 unfold NI at h;split at h
 ·exact⟨_,by assumption⟩
 ·cases h
theorem IX {t:TypeId}{n:Nat}(h:Vc4 P t n=true):∃e k,P.underlying t=some (.array n e)/\P.underlying e=some (.int k)/\Aq P e=1/\Aq P t=n:=by
 unfold Vc4 at h;split at h
 ·rename_i m e hu;simp only[Vx,beq_iff_eq]at h;obtain⟨⟨⟨h1,h2⟩,h3⟩,h4⟩:=h;obtain⟨k,hk⟩:=EQ h1;subst h3;exact⟨e,k,hu,hk,h2,h4⟩
 ·cases h
theorem VfU {t:TypeId}{k:IntKind}(h:P.underlying t=some (.int k))(w:World):(isAgg t).run P w=.ok false w:=by simp[isAgg,zXf,run_underlying h,zXg]
theorem J0 {t:TypeId}{k:IntKind}(h:P.underlying t=some (.int k))(w:World){vs:Array Value}{off:Nat}{v:Value}(hv:vs[off]? = some v):(part t vs off).run P w=.ok v w:=by simp[part,zXf,VfU h,zXg,hv]
theorem QI {E:Env}{a b:Ab}{r:Bool}{u v:Value}(h:GZ a b=some r)(ha:Au E a u)(hb:Au E b v):∃k x y,a=.int k x/\b=.int k y/\u=.int k x/\v=.int k y/\r=(x == y):=by
 unfold GZ at h;split at h
 ·rename_i k x k' y;split at h
  ·rename_i hk;subst hk;injection h with h;exact⟨k,x,y,rfl,rfl,ha.int_inv,hb.int_inv,h.symm⟩
  ·cases h
 ·cases h
theorem Qe {t:TypeId}{k:IntKind}(h:P.underlying t=some (.int k))(d:Nat)(j:IntKind)(x y:Int)(w:World):(Op.equalIn (d+1) t (.int j x) (.int j y)).run P w=.ok (x == y) w:=run_equalIn_int w d t j k x y h
theorem Vmu {e:TypeId}{k:IntKind}(he:P.underlying e=some (.int k))(d:Nat)(w:World){E:Env}(xs ys:Array Value):∀(vas bs:List Ab) (s:Nat) (r:Bool),A1 E vas (xs.toList.drop s)->A1 E bs (ys.toList.drop s)->BM vas bs=some r ->
  (Op.eqItems (d+1) e 1 xs ys (List.range' s vas.length)).run P w=.ok r w:=by
 intro vas
 induction vas with
 |nil=>
  intro bs s r h1 h2 h3;cases bs with
  |nil=>simp only[BM,Vv]at h3;subst h3;simp[Op.eqItems]
  |cons b bs=>cases h3
 |cons a vas ih=>
  intro bs s r h1 h2 h3;cases bs with
  |nil=>cases h3
  |cons b bs=>
   simp only[BM]at h3;cases hc:GZ a b with
   |none=>simp[hc]at h3
   |some q=>
    simp only[hc,zXa]at h3;cases hr:BM vas bs with
    |none=>simp[hr]at h3
    |some q2=>
     simp only[hr,zXa,Vv]at h3;obtain⟨u,g1,g2⟩:=h1.get (i:=0) (c:=a) rfl;obtain⟨v,g3,g4⟩:=h2.get (i:=0) (c:=b) rfl;obtain⟨j,x,y,rfl,rfl,rfl,rfl,rfl⟩:=QI hc g2 g4;have hx:xs[s]? = some (.int j x):=by rw[VP]at g1;simpa using g1
     have hy:ys[s]? = some (.int j y):=by rw[VP]at g3;simpa using g3
     have t1:A1 E vas (xs.toList.drop (s+1)):=by
      have:=h1.drop 1
      rwa [Wp]at this
     have t2:A1 E bs (ys.toList.drop (s+1)):=by
      have:=h2.drop 1
      rwa [Wp]at this
     rw[zXj,List.range'_succ];simp only[Op.eqItems,V4,zXf,J0 he w hx,J0 he w hy,zXg,Qe he];cases hxy:(x == y)with
     |false=>rw[hxy]at h3;simp only[Wh]at h3;subst h3;simp
     |true=>rw[hxy]at h3;simp only[zXn]at h3;subst h3;have:=ih bs (s+1) q2 t1 t2 hr;simp[this]
theorem QH:∀ {vas bs:List Ab} {r:Bool},BM vas bs=some r->vas.length=bs.length
 |[],[],_,_=>rfl
 |[],_::_,_,h=>by cases h
 |_::_,[],_,h=>by cases h
 |a::vas,b::bs,r,h=>by
  simp only[BM]at h;cases hc:GZ a b with
  |none=>simp[hc]at h
  |some q=>
   cases hr:BM vas bs with
   |none=>simp[hc,hr]at h
   |some q2=>simp[QH hr]
theorem UY {t e:TypeId}{k:IntKind}{n:Nat}(hu:P.underlying t=some (.array n e))(he:P.underlying e=some (.int k))(hz:Aq P e=1)(d:Nat)(w:World){E:Env}{vas bs:List Ab}{xs ys:Array Value}{r:Bool}(h1:A1 E vas xs.toList)(h2:A1 E bs ys.toList)(hn:vas.length=n)(h3:BM vas bs=some r) :
  (Op.equalIn (d+2) t (.agg xs) (.agg ys)).run P w=.ok r w:=by
 obtain⟨i,hi,hsz⟩:=FO he;have hc:P.cellsOf e=1:=by simp[Program.cellsOf,hi,hsz,hz]
 rw[run_equalIn_array w (d+1) xs ys hu hi,hc,<-hn,List.range_eq_range'];exact Vmu he d w xs ys vas bs 0 r (by simpa using h1) (by simpa using h2) h3
theorem ST {t:TypeId}(h:eqB P t=true)(d:Nat)(w:World){E:Env}{vas bs:List Ab}{xs ys:Array Value}{r:Bool}(h1:A1 E vas xs.toList)(h2:A1 E bs ys.toList)(hn:vas.length=Aq P t)(h3:BM vas bs=some r) :
  (Op.equalIn (d+3) t (.agg xs) (.agg ys)).run P w=.ok r w:=by
 unfold eqB at h;simp only[Vx]at h;obtain⟨_,h⟩:=h;split at h
 ·rename_i n e hu;obtain⟨e',k,q1,q2,q3,q4⟩:=IX h;exact UY q1 q2 q3 (d+1) w h1 h2 (by rw[hn,q4]) h3
 ·rename_i fs hu;split at h
  ·rename_i f g oO;simp only[Vx,bne_iff_ne,ne_eq,beq_iff_eq,Wk]at h;obtain⟨⟨⟨⟨⟨⟨hf,hg⟩,eG⟩,hf0⟩,hg1⟩,hst⟩,iO⟩:=h;split at iO
   ·rename_i n e Yt;simp only[Vx,beq_iff_eq]at iO;obtain⟨iO,hsz⟩:=iO;obtain⟨e',k,q1,q2,q3,q4⟩:=IX iO;obtain⟨kf,oK⟩:=EQ eG;have xU:P.fieldsOf t=fs:=by simp[Program.fieldsOf,hu]
    rw[run_equalIn_struct w (d+2) t xs ys (by rw[xU];exact hu) hst,xU,oO];rw[hsz]at hn;cases vas with
    |nil=>simp at hn
    |cons a vas=>
     cases bs with
     |nil=>cases h3
     |cons b bs=>
      simp only[BM]at h3;cases hc:GZ a b with
      |none=>simp[hc]at h3
      |some q=>
       simp only[hc,zXa]at h3;cases hr:BM vas bs with
       |none=>simp[hr]at h3
       |some qq=>
        simp only[hr,zXa,Vv]at h3;obtain⟨u,g1,g2⟩:=h1.get (i:=0) (c:=a) rfl;obtain⟨v,g3,g4⟩:=h2.get (i:=0) (c:=b) rfl;obtain⟨j,x,y,rfl,rfl,rfl,rfl,rfl⟩:=QI hc g2 g4;have hx:xs[0]? = some (.int j x):=by simpa using g1
        have hy:ys[0]? = some (.int j y):=by simpa using g3
        have hl:vas.length=n:=by simpa using hn
        have cA:xs.size=n+1:=by have:=h1.1;simp at this;omega
        have zW:vas.length=bs.length:=QH hr;have eO:ys.size=n+1:=by have:=h2.1;simp at this;omega
        have part_arr:∀vs:Array Value,vs.size=n+1->(part g.type vs 1).run P w=.ok (.agg (vs.toList.drop 1).toArray) w:=λvs oD=>by
         have hagg:(isAgg g.type).run P w=.ok true w:=by simp[isAgg,zXf,run_underlying q1,zXg]
         simp only[part,zXf,hagg,zXg,if_true,Dd q1,q4,Sem.run_pure]
         congr 2
         apply XX;simp[X7];rw[Vy (by simp;omega)]
        have e2:=UY (P:=P) q1 q2 q3 d w (E:=E) (vas:=vas) (bs:=bs) (xs:=(xs.toList.drop 1).toArray) (ys:=(ys.toList.drop 1).toArray) (by simpa using h1.drop 1) (by simpa using h2.drop 1) hl hr;simp only[Op.eqFields,hf,hg,ne_eq,not_false_eq_true,if_true,hf0,hg1,zXf,J0 oK w hx,J0 oK w hy,part_arr _ cA,part_arr _ eO,zXg,Qe oK,e2];cases hxy:(x == y)with
        |false=>rw[hxy]at h3;simp only[Wh]at h3;subst h3;simp
        |true=>rw[hxy]at h3;simp only[zXn]at h3;subst h3;cases qq <;> simp[-List.drop_one,zXf,part_arr _ cA,part_arr _ eO,e2,Op.eqFields]
   ·cases iO
  ·cases h
 ·cases h
theorem Vg1 {t:TypeId}(h:eqB P t=true):P.eqGuardType P.depth t=false:=by unfold eqB at h;simp only[Vx,Wk]at h;exact h.1

end
section
variable {P:Program}
theorem HV {t:TypeId}(h:eqB P t=true):BF P t=true/\∃n e,(P.underlying t=some (.array n e))\/∃fs,P.underlying t=some (.struct fs):=by
 unfold eqB at h;simp only[Vx]at h;obtain⟨_,h⟩:=h;split at h
 ·rename_i n e hu;exact⟨by simp[BF,hu],n,e,.inl hu⟩
 ·rename_i fs hu;exact⟨by simp[BF,hu],0,0,.inr ⟨fs,hu⟩⟩
 ·cases h
theorem IW {t:TypeId}(h:NI P t=true):BF P t=false:=by obtain⟨k,hk⟩:=EQ h;simp[BF,hk]
inductive QQ (P:Program) (E:Env) (t:TypeId) (k:Ab) (kc:List Ab) (v:Value):Prop
 |agg {vs:Array Value} (he:eqB P t=true) (hk:k=.agg kc) (hv:v=.agg vs) (hr:A1 E kc vs.toList) (hl:kc.length=Aq P t) (ho:kc.all VfT=true)
 |int {K:IntKind} {i:Int} (hi:NI P t=true) (hk:k=.int K i) (hc:kc=[.int K i]) (hv:v=.int K i)
theorem Vc2 {E:Env}{t:TypeId}(ht:VlB P t=true){k:Ab}{kc:List Ab}{v:Value}(h:DU (BF P t) (Aq P t) k=some kc)(hv:Au E k v):QQ P E t k kc v:=by
 unfold VlB at ht;unfold DU at h;split at h
 ·rename_i a0 k0 cs ha;split at h
  ·rename_i hl;injection h with h;subst h;obtain⟨vs,rfl,hr⟩:=hv.agg_cells;refine .agg ?_ rfl rfl hr hl.1 hl.2;simp only[Wn]at ht;rcases ht with ht | ht
   ·exact ht
   ·rw[IW ht]at ha;cases ha
  ·cases h
 ·rename_i a0 k0 K i ha;injection h with h;subst h;refine .int ?_ rfl rfl hv.int_inv;simp only[Wn]at ht;rcases ht with ht | ht
  ·rw[(HV ht).1]at ha;cases ha
  ·exact ht
 ·cases h
theorem VfQ {E:Env}{t:TypeId}{k k':Ab}{kc kc':List Ab}{v v':Value}(h:QQ P E t k kc v)(h':QQ P E t k' kc' v'){b:Bool}(hc:BM kc kc'=some b)(w:World):(Op.equal t v v').run P w=.ok b w:=by
 cases h with
 |agg he hk hv hr hl ho=>
  cases h' with
  |agg cQ hk' aU eD dG cZ=>subst hv;subst aU;exact ST he 9997 w hr eD hl hc
  |int hi hk' cF aU=>have:=(HV he).1;rw[IW hi]at this;cases this
 |int hi hk hcc hv=>
  cases h' with
  |agg cQ hk' aU eD dG cZ=>have:=(HV cQ).1;rw[IW hi]at this;cases this
  |int aE hk' hcc' aU=>
   subst hv;subst aU;subst hcc;subst hcc';obtain⟨q,hq⟩:=EQ hi;simp only[BM,GZ]at hc;split at hc
   ·rename_i e;subst e;simp at hc;subst hc;exact Qe hq 9999 _ _ _ w
   ·simp at hc
theorem OQ:∀ {vas bs:List Ab},BM vas bs=some true->vas=bs
 |[],[],_=>rfl
 |[],_::_,h=>by cases h
 |_::_,[],h=>by cases h
 |a::vas,b::bs,h=>by
  simp only[BM]at h;cases hc:GZ a b with
  |none=>simp[hc]at h
  |some q=>
   cases hr:BM vas bs with
   |none=>simp[hc,hr]at h
   |some q2=>
    simp only[hc,hr,zXa,Vv,Vx]at h;obtain⟨rfl,rfl⟩:=h;rw[OQ hr];unfold GZ at hc;split at hc
    ·split at hc
     ·rename_i e;subst e;simp at hc;subst hc;rfl
     ·cases hc
    ·cases hc
theorem VcJ {w:World}(f:Nat->Sem Unit):∀(l:zAb),(∀i∈l,(f i).run P w=.ok () w)->(forIn l PUnit.unit λi _=>do f i;pure (ForInStep.yield PUnit.unit)).run P w=.ok PUnit.unit w
 |[],_=>by simp
 |i::l,h=>by simp only[List.forIn_cons,zXf,h i (by simp),zXg,Sem.run_pure];exact VcJ f l λj hj=>h j (by simp[hj])
theorem Ql {em:Bool}{n:Nat}{t:TypeId}{K:IntKind}(h:P.underlying t=some (.int K))(v:Value)(w:World)(hv:∀(d:TypeId) (x:Value),v≠Value.iface d x):(Instr.checkKey em (n+1) t v).run P w=.ok () w:=by cases v <;> simp[Instr.checkKey,run_underlying h]
theorem Ve {em:Bool}{d n:Nat}{t e:TypeId}{K:IntKind}(hu:P.underlying t=some (.array n e))(he:P.underlying e=some (.int K))(hz:Aq P e=1)(vs:Array Value)(hl:vs.size=n)(hv:∀(i:Nat) (v:Value),vs[i]? = some v->∀(d:TypeId) (x:Value),v≠Value.iface d x)(w:World):(Instr.checkKey em (d+2) t (.agg vs)).run P w=.ok () w:=by
 unfold Instr.checkKey;simp only[zXf,run_underlying hu,zXg];simp only[Std.Legacy.Range.forIn_eq_forIn_range',Std.Legacy.Range.size,Nat.sub_zero,Nat.add_one_sub_one,Nat.div_one];have:=VcJ (P:=P) (w:=w) (λi=>do
  let s ← sizeOf e
  let a ← part e vs (i*s)
  Instr.checkKey em (d+1) e a) (List.range' 0 n) (λi hi=>by
   have aE:i<vs.size:=by simp at hi;omega
   have hx:vs[i]? = some vs[i]:=by simp[aE]
   simp only[zXf,FX (P:=P) (t:=e) (by omega),hz,V4,zXg,J0 he w hx,Ql he _ w (hv i _ hx)])
 simp[Function.comp_def,bind_assoc]at this;simp[zXf,this]
def Vc3 (kc:List Ab):Bool:=kc.all VfT
theorem Ny {E:Env}{kc:List Ab}(h:Vc3 kc=true){vs:List Value}(hr:A1 E kc vs)(i:Nat)(v:Value)(hv:vs[i]? = some v):∃K n,v=.int K n:=by
 have hi:i<kc.length:=by have:=(Vn.1 hv).1;have:=hr.1;omega
 have h1:=hr.2 i kc[i] v (Vl hi) hv;have h2:=(V7.1 h) kc[i] (Vz hi);revert h1 h2;generalize kc[i]=c;intro h1 h2;cases c <;> first | exact⟨_,_,h1.int_inv⟩ | cases h2
theorem Vd {E:Env}{t:TypeId}{k:Ab}{kc:List Ab}{v:Value}(h:QQ P E t k kc v)(em:Bool)(w:World):(Instr.checkKey em 10000 t v).run P w=.ok () w:=by
 cases h with
 |int hi hk hc hv=>subst hv;obtain⟨q,hq⟩:=EQ hi;exact Ql hq _ w (by simp)
 |agg he hk hv hr hl ho=>
  rename_i vs;subst hv;have hi:Vc3 kc=true:=ho;have cJ:∀(i:Nat) (v:Value),vs[i]? = some v->∀(d:TypeId) (x:Value),v≠Value.iface d x:=λi v hv d x e=>by obtain⟨K,n,h⟩:=Ny hi hr i v (by simpa using hv);rw[h]at e;cases e
  have hsz:vs.size=Aq P t:=by have:=hr.1;simp at this;omega
  unfold eqB at he;simp only[Vx]at he;obtain⟨_,he⟩:=he;split at he
  ·rename_i n e hu;obtain⟨e',q,q1,q2,q3,q4⟩:=IX he;exact Ve (d:=9998) q1 q2 q3 vs (by omega) cJ w
  ·rename_i fs hu;split at he
   ·rename_i f g oO;simp only[Vx,bne_iff_ne,ne_eq,beq_iff_eq,Wk]at he;obtain⟨⟨⟨⟨⟨⟨hf,hg⟩,eG⟩,hf0⟩,hg1⟩,hst⟩,iO⟩:=he;split at iO
    ·rename_i n e Yt;simp only[Vx,beq_iff_eq]at iO;obtain⟨iO,zB⟩:=iO;obtain⟨e',q,q1,q2,q3,q4⟩:=IX iO;obtain⟨kf,oK⟩:=EQ eG;have hx:vs[0]? = some (vs[0]'(by omega)):=by simp
     have sL:(part g.type vs 1).run P w=.ok (.agg (vs.toList.drop 1).toArray) w:=by
      have hagg:(isAgg g.type).run P w=.ok true w:=by simp[isAgg,zXf,run_underlying q1,zXg]
      simp only[part,zXf,hagg,zXg,if_true,Dd q1,q4,Sem.run_pure]
      congr 2
      apply XX;simp[X7];rw[Vy (by simp;omega)]
     have c1:=Ql (P:=P) (em:=em) (n:=9998) oK (vs[0]'(by omega)) w (cJ 0 _ hx);have c2:=Ve (P:=P) (em:=em) (d:=9997) q1 q2 q3 (vs.toList.drop 1).toArray (by simp;omega) (λi v hv=>cJ (1+i) v (by simpa[-List.drop_one]using hv)) w;unfold Instr.checkKey;simp only[zXf,run_underlying hu,zXg];rw[<-Array.forIn_toList,oO];simp only[List.forIn_cons,List.forIn_nil,hf,hg,ne_eq,not_false_eq_true,if_true,hf0,hg1,zXf,J0 oK w hx,sL,zXg,c1,c2,Sem.run_pure]
    ·cases iO
   ·cases he
  ·cases he
def NT (E:Env)(es:List (Ab×Ab))(en:List MapEntry):Prop:=en.length=es.length/\∀(i:Nat) (k v:Ab),es[i]? = some (k,v)->∃e,en[i]? = some e/\Au E k e.key/\Au E v e.val
theorem NT.tail {E:Env}{p:Ab×Ab}{es:List (Ab×Ab)}{e:MapEntry}{en:List MapEntry}(h:NT E (p::es) (e::en)):NT E es en:=
 ⟨by simpa using h.1,λi k v hi=>by simpa using h.2 (i+1) k v (by simpa using hi)⟩
theorem VcL {E:Env}{t:TypeId}(ht:VlB P t=true){k:Ab}{kc:List Ab}{v:Value}(hk:QQ P E t k kc v)(w:World):∀(es:List (Ab×Ab)) (en:List MapEntry) (i:Nat) (r:Option Ab),NT E es en->EH (BF P t) (Aq P t) es kc=some r ->
  ∃res:Option (Nat×Value),(Instr.findAsking t v en i).run P w=.ok res w/\(∀K n,v=.int K n->∀q,P.underlying t=some (.int q)->Instr.findNow (.int q) v en i=some res) /\
   (match res with
   |none=>r=none/\∀x,D7 (BF P t) (Aq P t) es k kc x=some (es++[(k,x)])
   |some (j,u)=>∃j' k' y,j=i+j'/\es[j']? = some (k',y)/\r=some y/\Au E y u/\k'=k/\∀x,D7 (BF P t) (Aq P t) es k kc x=some (es.set j' (k',x)))
 |[],en,i,r,h,hl=>by have:en=[]:=V6 (by simpa using h.1);subst this;simp only[EH,Vv]at hl;subst hl;exact⟨none,by simp[Instr.findAsking],λ_ _ _ _ _=>by simp[Instr.findNow],rfl,λx=>rfl⟩
 |(k',y)::es,en,i,r,h,hl=>by
  cases en with
  |nil=>have:=h.1;simp at this
  |cons e en=>
   obtain⟨e',h1,h2,h3⟩:=h.2 0 k' y rfl;simp at h1;subst h1;simp only[EH]at hl;cases gK:DU (BF P t) (Aq P t) k' with
   |none=>simp[gK]at hl
   |some kc'=>
    simp only[gK,zXa]at hl;cases hb:BM kc kc' with
    |none=>simp[hb]at hl
    |some b=>
     simp only[hb,zXa]at hl;have hk':=Vc2 ht gK h2;have heq:=VfQ hk hk' hb w;have pY:∀K n,v=.int K n->∀q,Instr.sameNow (.int q) v e.key=some b:=by
      intro K n hv q;cases hk with
      |agg he dX hv0 hr hl0 ho=>rw[hv0]at hv;cases hv
      |int hi dX cO hv0=>
       cases hk' with
       |agg cQ _ _ _ _ _=>have:=(HV cQ).1;rw[IW hi]at this;cases this
       |int aE iL hc0' hv0'=>
        rw[hv0,hv0'];subst cO;subst hc0';simp only[BM,GZ]at hb;split at hb
        ·rename_i ee;subst ee;simp at hb;subst hb;simp[Instr.sameNow]
        ·simp at hb
     cases b with
     |true=>
      simp only[if_true,Vv]at hl;subst hl;have iU:kc=kc':=OQ hb;have hk2:k'=k:=by
       subst iU;cases hk with
       |agg he dX _ _ _ _=>cases hk' with
        |agg _ iL _ _ _ _=>rw[dX,iL]
        |int aE _ _ _=>have:=(HV he).1;rw[IW aE]at this;cases this
       |int hi dX cO _=>cases hk' with
        |agg cQ _ _ _ _ _=>have:=(HV cQ).1;rw[IW hi]at this;cases this
        |int _ iL hc0' _=>rw[dX,iL];rw[cO]at hc0';simpa using hc0'.symm
      refine⟨some (i,e.val),by simp[Instr.findAsking,zXf,heq,zXg],λK n hv q _=>by simp[Instr.findNow,pY K n hv q],0,k',y,rfl,rfl,rfl,h3,hk2,λx=>?_⟩;simp only[D7,gK,zXa,hb,if_true,List.set_cons_zero]
     |false=>
      simp only[Vq,if_false]at hl;obtain⟨res,r1,r2,r3⟩:=VcL ht hk w es en (i+1) r h.tail hl;refine⟨res,by simp[Instr.findAsking,zXf,heq,zXg,r1],λK n hv q hq=>by simp[Instr.findNow,pY K n hv q,r2 K n hv q hq],?_⟩;cases res with
      |none=>obtain⟨s1,s2⟩:=r3;exact⟨s1,λx=>by simp[D7,gK,hb,s2 x]⟩
      |some p=>obtain⟨j,u⟩:=p;obtain⟨j',k2,y2,s1,s2,s3,s4,s5,s6⟩:=r3;exact⟨j'+1,k2,y2,by omega,by simpa using s2,s3,s4,s5,λx=>by simp[D7,gK,hb,s6 x]⟩
theorem VcM {E:Env}{t:TypeId}(ht:VlB P t=true){k:Ab}{kc:List Ab}{v:Value}(hk:QQ P E t k kc v)(w:World){es:List (Ab×Ab)}{en:List MapEntry}{r:Option Ab}(h:NT E es en)(hl:EH (BF P t) (Aq P t) es kc=some r) :
  ∃res:Option (Nat×Value),(Instr.findKey t v en).run P w=.ok res w /\
   (match res with
   |none=>r=none/\∀x,D7 (BF P t) (Aq P t) es k kc x=some (es++[(k,x)])
   |some (j,u)=>∃k' y,es[j]? = some (k',y)/\r=some y/\Au E y u/\k'=k/\∀x,D7 (BF P t) (Aq P t) es k kc x=some (es.set j (k',x))):=by
 obtain⟨res,h1,h2,h3⟩:=VcL ht hk w es en 0 r h hl;refine⟨res,?_,?_⟩
 ·cases hk with
  |agg he dX hv0 hr hl0 ho=>obtain⟨_,n,e,hu⟩:=HV he;rw[run_findKey_eq w (by rcases hu with hu | ⟨fs,hu⟩ <;> simp[hu])];exact h1
  |int hi dX cO hv0=>obtain⟨q,hq⟩:=EQ hi;simp[Instr.findKey,zXf,run_underlying hq,zXg,h2 _ _ hv0 q hq]
 ·cases res with
  |none=>exact h3
  |some p=>
   obtain⟨j,u⟩:=p;obtain⟨j',k',y,s1,s2,s3,s4,s5,s6⟩:=h3;have:j=j':=by omega
   subst this;exact⟨k',y,s2,s3,s4,s5,s6⟩

end
section
variable {P:Program}{E:Env}{H:Aa}{w:World}
theorem MX {b:Nat}{en:Array MapEntry}{ck:Nat}(h:w.heap[b]? = some (.map en ck)):(getObj b).run P w=.ok (.map en ck) w:=by simp[getObj,Sem.run,h]
theorem RN {b:Nat}{en:Array MapEntry}{ck:Nat}{o':Obj}(h:w.heap[b]? = some (.map en ck)):(setObj b o').run P w=.ok () { w with heap:=w.heap.setIfInBounds b o' }:=by simp[setObj,Sem.run,h]
theorem VoZ {t:TypeId}{k:Ab}{kc:List Ab}{v v':Value}(h:QQ P E t k kc v)(h':QQ P E t k kc v'):(Instr.keyThatStays v' v).run P w=.ok v w:=by
 have hs:Instr.sameBits 10000 v' v=true:=by
  cases h with
  |int hi hk hc hv=>
   cases h' with
   |int _ hk' _ aU=>rw[hk]at hk';injection hk' with e1 e2;subst hv;subst aU;subst e1;subst e2;simp[Instr.sameBits]
   |agg cQ _ _ _ _ _=>have:=(HV cQ).1;rw[IW hi]at this;cases this
  |agg he hk hv hr hl ho=>
   rename_i vs;cases h' with
   |int aE _ _ _=>have:=(HV he).1;rw[IW aE]at this;cases this
   |agg _ _ aU eD _ _=>
    rename_i us _ _ _ _;subst hv;subst aU;have e:us.toList=vs.toList:=by
     apply WP;intro i;have l1:=hr.1;have l2:=eD.1;by_cases hi:i<kc.length
     ·obtain⟨a,a1,a2⟩:=hr.get (Vl hi);obtain⟨b,b1,b2⟩:=eD.get (Vl hi);have hii:=V7.1 ho kc[i] (Vz hi);rw[a1,b1];revert a2 b2 hii;generalize kc[i]=c;intro a2 b2 hii;cases c <;> first | (exact (by rw[a2.int_inv,b2.int_inv])) | cases hii
     ·rw[zYb (by omega),zYb (by omega)]
    have e':us=vs:=XX e;subst e';simp only[Instr.sameBits,beq_self_eq_true,zXn,V7];rintro⟨x,y⟩ hxy;obtain⟨i,hi,aH⟩:=VU hxy;simp only[List.getElem_zip,VC]at aH;obtain⟨rfl,rfl⟩:=aH;have hlt:i<us.toList.length:=by simp at hi;simpa using hi
    obtain⟨K,n,hKn⟩:=Ny (kc:=kc) ho hr i us.toList[i] (Vl hlt);rw[hKn];simp[Instr.sameBits]
 simp[Instr.keyThatStays,hs]
theorem IT {a:Bool}{n:Nat}{k:Ab}{kc:List Ab}{x:Ab}:∀ {es es':List (Ab×Ab)},D7 a n es k kc x=some es'->∃r,EH a n es kc=some r
 |[],_,_=>⟨none,rfl⟩
 |(k',v)::es,es',h=>by
  simp only[D7]at h;simp only[EH];cases hk:DU a n k' with
  |none=>simp[hk]at h
  |some kc'=>
   simp only[hk,zXa]at h ⊢;cases hb:BM kc kc' with
   |none=>simp[hb]at h
   |some b=>
    simp only[hb,zXa]at h ⊢;cases b with
    |true=>exact⟨_,rfl⟩
    |false=>
     simp only[Vq,if_false]at h ⊢;cases hu:D7 a n es k kc x with
     |none=>simp[hu]at h
     |some e2=>exact IT hu
theorem QB (hs:Sim E H w){id:Nat}{es:List (Ab×Ab)}(hH:H[id]? = some (.map es)):∃b en ck,E.φ id 0=some b/\w.heap[b]? = some (.map en ck)/\NT E es en.toList:=by obtain⟨b,en,ck,h1,h2,h3,h4⟩:=hs.blk id _ hH;refine⟨b,en,ck,h1,h2,by simpa using h3,λi k v hi=>?_⟩;obtain⟨e,q1,q2,q3⟩:=h4 i k v hi;exact⟨e,by simpa using q1,q2,q3⟩
theorem Vee {t:TypeId}{z:Ab}(h:TZ P t=some z):∃v,(zeroValue t).run P w=.ok v w/\Au E z v:=by
 unfold TZ at h;cases hi:P.info? t with
 |none=>simp[hi]at h
 |some i=>
  cases hz:i.zero with
  |none=>simp[hi,hz]at h
  |some v=>simp[hi,hz]at h;subst h;exact⟨v,L5 hi hz w,Vds E v⟩
theorem Viy {C:Cfg}(hC:C.key=VlB C.P)(t kt e:TypeId)(ok:Bool)(E:Env)(H:Aa)(w:World)(m k z:Ab)(u v:Value)(hu:C.P.underlying t=some (.map kt e))(hk:C.key kt=true)(hs:Sim E H w)(hm:Au E m u)(hv:Au E k v)
  (h:Fi (BF C.P kt) (Aq C.P kt) (TZ C.P e) ok m k H=some z):B7 E C.P w (Instr.lookup t u v ok) z:=by
 rw[hC]at hk;unfold Fi at h;cases hz:TZ C.P e with
 |none=>simp[hz]at h
 |some z0=>
  simp only[hz,zXa]at h;cases gK:DU (BF C.P kt) (Aq C.P kt) k with
  |none=>simp[gK]at h
  |some kc=>
   simp only[gK,zXa]at h;obtain⟨zv,iG,lK⟩:=Vee (w:=w) (E:=E) hz;have iK:=Vc2 hk gK hv;split at h
   ·rename_i id;split at h
    ·rename_i es hH;obtain⟨b,en,ck,h1,h2,h3⟩:=QB hs hH;have oJ:u=.map (some b):=by cases hm with | mp hx=>rw[h1]at hx;cases hx;rfl
     subst oJ;cases hl:EH (BF C.P kt) (Aq C.P kt) es kc with
     |none=>simp[hl]at h
     |some r=>
      obtain⟨res,f1,f2⟩:=VcM hk iK w h3 hl;have lG:=Vd iK en.isEmpty w;simp only[hl,zXb,Vv]at h;cases res with
      |none=>
       obtain⟨rfl,_⟩:=f2;refine⟨if ok then .tuple #[zv,.bool false]else zv,by unfold Instr.lookup;simp[zXf,run_underlying hu,MX h2,lG,f1,iG],?_⟩;subst h;cases ok
       ·exact lK
       ·exact .tup_of (.cons lK (.cons (.bool false) (.nil E)))
      |some p=>
       obtain⟨j,x⟩:=p;obtain⟨k',y,_,rfl,q2,_,_⟩:=f2;refine⟨if ok then .tuple #[x,.bool true]else x,by unfold Instr.lookup;simp[zXf,run_underlying hu,MX h2,lG,f1],?_⟩;subst h;cases ok
       ·exact q2
       ·exact .tup_of (.cons q2 (.cons (.bool true) (.nil E)))
    ·cases h
   ·cases h
theorem Vlz {C:Cfg}(hC:C.key=VlB C.P)(t kt e:TypeId)(E:Env)(H H':Aa)(w:World)(m k x:Ab)(u v y:Value)(hu:C.P.underlying t=some (.map kt e))(hk:C.key kt=true)(hs:Sim E H w)(hm:Au E m u)(hv:Au E k v)(hx:Au E x y)
  (h:Ec (BF C.P kt) (Aq C.P kt) m k x H=some H'):∃w',(Instr.mapUpdate t u v y).run C.P w=.ok () w'/\Sim E H' w'/\BL E H w E H' w':=by
 rw[hC]at hk;unfold Ec at h;cases gK:DU (BF C.P kt) (Aq C.P kt) k with
 |none=>simp[gK]at h
 |some kc=>
  simp only[gK,zXa]at h;have iK:=Vc2 hk gK hv;split at h
  ·rename_i id;split at h
   ·rename_i es hH;obtain⟨b,en,ck,h1,h2,h3⟩:=QB hs hH;have oJ:u=.map (some b):=by cases hm with | mp hx=>rw[h1]at hx;cases hx;rfl
    subst oJ;have hbl:b<w.heap.size:=(VX.1 h2).1;cases aR:D7 (BF C.P kt) (Aq C.P kt) es k kc x with
    |none=>simp[aR]at h
    |some es'=>
     simp only[aR,zXb,Vv]at h;subst h;obtain⟨r,hl⟩:=IT aR;obtain⟨res,f1,f2⟩:=VcM hk iK w h3 hl;have lG:=Vd iK false w;have fin:∀(en':Array MapEntry) (ck':Nat),NT E es' en'.toList->Sim E (H.set id (.map es')) { w with heap:=w.heap.setIfInBounds b (.map en' ck') }/\BL E H w E (H.set id (.map es')) { w with heap:=w.heap.setIfInBounds b (.map en' ck') }:=by
      intro en' ck' hr;refine hs.upd hH (.refl E) ⟨b,en',ck',h1,by simp[hbl],by simpa using hr.1,λi k v hi=>?_⟩ (λ_ _ _ _ h=>h) (λ_ _ _ _ h=>h) (λy hy hne=>?_) (λ_ _ _=>rfl) (λy o vv hv hcase=>?_) (λy hy=>.inl hy) (λn hB=>by cases hB) rfl rfl rfl (by simp)
      ·obtain⟨e,q1,q2,q3⟩:=hr.2 i k v hi;exact⟨e,by simpa using q1,q2,q3⟩
      ·have:b≠y:=λe=>hne (by rw[<-e];exact h1);simp[Wq this]
      ·exfalso;rcases hcase with hcase | hcase
       ·have:=hs.imm_lt hv;omega
       ·simp only[Cr]at hcase;rw[h1]at hcase;cases hcase;have:=hs.imm _ _ _ hv;simp[World.cell?,h2]at this
     cases res with
     |none=>
      obtain⟨_,q⟩:=f2;rw[q x]at aR;injection aR with aR;subst aR;obtain⟨s1,s2⟩:=fin (en.push { key:=v,val:=y,born:=ck }) (ck+1) ⟨by simp[h3.1],λi k1 v1 hi=>by
       rw[VY]at hi;rw[Array.toList_push,VY];have hl:=h3.1;split at hi
       ·rename_i hlt;rw[if_pos (by omega)];exact h3.2 i k1 v1 hi
       ·rename_i hlt;rw[if_neg (by omega)];cases hq:i-es.length with
        |zero=>rw[hq]at hi;simp at hi;obtain⟨rfl,rfl⟩:=hi;rw[hl,hq];exact⟨_,rfl,hv,hx⟩
        |succ n=>rw[hq]at hi;simp at hi⟩
      refine⟨_,?_,s1,s2⟩;unfold Instr.mapUpdate;simp only[zXf,run_underlying hu,zXg];simp[zXf,MX h2,lG,f1,RN h2]
     |some p=>
      obtain⟨j,z⟩:=p;obtain⟨k',y0,q1,_,q3,q4,q⟩:=f2;rw[q x]at aR;injection aR with aR;subst aR;subst q4;obtain⟨ej,p1,p2,p3⟩:=h3.2 j k' y0 q1;have qT:=Vc2 hk gK p2;have sR:j<es.length:=(Vn.1 q1).1;have xW:en[j]? = some ej:=by simpa using p1
      obtain⟨s1,s2⟩:=fin (en.modify j λe=>{ e with key:=v,val:=y }) ck ⟨by simp[h3.1],λi k1 v1 hi=>by
       rw[Yl]at hi;rw[WI,WY];split at hi
       ·rename_i hij;subst hij;simp at hi;obtain⟨rfl,rfl⟩:=hi;rw[xW];exact⟨_,by simp;rfl,hv,hx⟩
       ·rename_i hij;rw[if_neg (by omega)];obtain⟨e,q1,q2,q3⟩:=h3.2 i k1 v1 hi;exact⟨e,by simpa using q1,q2,q3⟩⟩
      refine⟨_,?_,s1,s2⟩;have hst:=VoZ (w:=w) iK qT;unfold Instr.mapUpdate;simp only[zXf,run_underlying hu,zXg];simp[zXf,MX h2,lG,f1,xW,hst,RN h2]
   ·cases h
  ·cases h

end
def mkC (P:Program)(G:Ig)(mu:Bool)(orc:Orc):Cfg:=⟨P,G,eqB P,VlB P,mu,orc⟩
theorem Vlv {P:Program}{G:Ig}{mu:Bool}{orc:Orc}(ho:G6 P G orc):MC (mkC P G mu orc):=
 ⟨⟨λt h=>Vg1 h,λt h E vas bs vs us b w h1 h2 h3 h4=>ST h 9997 w h1 h2 h3 h4⟩,⟨λt kt e ok E H w m k z u v=>Viy rfl t kt e ok E H w m k z u v,λt kt e E H H' w m k x u v y=>Vlz rfl t kt e E H H' w m k x u v y⟩,ho⟩
noncomputable def Vos (m:Fe)(H0:Aa)(x:Out)(k:Ab->Aa->Out):Out:=HE x k (λv H=>fin m H0 (.pan v) H)
noncomputable def AW (x:Out)(k:Ab->Aa->Out):Out:=HE x k (λ_ _=>none)
abbrev LK:=List Ab->Aa->Out
def ag (vs:List Ab)(i:Nat):Ab:=vs.getD i .undef
noncomputable def bK (H0:Aa)(x:Out)(k:Ab->Aa->Out):Out:=HE x k (λv H=>fin .keep H0 (.pan v) H)
noncomputable def bP (H0:Aa)(x:Out)(k:Ab->Aa->Out):Out:=HE x k (λv H=>fin .pure H0 (.pan v) H)
noncomputable def rK (H0:Aa)(v:Ab)(H:Aa):Out:=fin .keep H0 (.ret v) H
noncomputable def rP (H0:Aa)(v:Ab)(H:Aa):Out:=fin .pure H0 (.ret v) H
noncomputable def rKN (H0:Aa)(v:Ab)(H:Aa):Out:=fin .keepN H0 (.ret v) H
noncomputable def rPN (H0:Aa)(v:Ab)(H:Aa):Out:=fin .pureN H0 (.ret v) H
noncomputable def gbK (H0:Aa)(c:Ab)(w:Bool)(H:Aa)(x:Out)(k:Ab->Aa->Out):Out:=gbE c w H x k (λv H=>fin .keep H0 (.pan v) H)
noncomputable def gbP (H0:Aa)(c:Ab)(w:Bool)(H:Aa)(x:Out)(k:Ab->Aa->Out):Out:=gbE c w H x k (λv H=>fin .pure H0 (.pan v) H)
noncomputable def gbN (c:Ab)(w:Bool)(H:Aa)(x:Out)(k:Ab->Aa->Out):Out:=gbE c w H x k (λ_ _=>none)
def T7:List (Option Ab)->Option (List Ab)
 |[]=>some []
 |x::xs=>x.bind λv=>(T7 xs).map (v::·)
def GP (xs:List (Option Ab)):Option Ab:=(T7 xs).map .tup
def B3 (b:Bool)(sz:Nat)(x:Ab)(H:Aa):Option (Ab×Aa):=
 match x.acells with
 |some cs=>if !b\/cs.length≠sz then none else A3 (some cs) H
 |none=>none
def Vpl (x:Ab)(H:Aa):Out:=
 match x with
 |.iface t v=>some (.pan (.iface t v),H)
 |_=>none
def DI (orc:Orc)(f:Ab)(args:List Ab)(H:Aa):Out:=
 match f with
 |.fn g caps=>orc g (args++caps) H
 |.bfn g first=>orc g (first++args) H
 |_=>none
def noO:Orc:=λ_ _ _=>none
def ent (g:FuncId)(f:List Ab->Aa->Out)(o:Orc):Orc:=λh a H=>if h=g then f a H else o h a H
def ap0 (f:Aa->Out):List Ab->Aa->Out
 |[],H=>f H
 |_,_=>none
def ap1 (f:Ab->Aa->Out):List Ab->Aa->Out
 |[a],H=>f a H
 |_,_=>none
def ap2 (f:Ab->Ab->Aa->Out):List Ab->Aa->Out
 |[a,b],H=>f a b H
 |_,_=>none
def ap3 (f:Ab->Ab->Ab->Aa->Out):List Ab->Aa->Out
 |[a,b,c],H=>f a b c H
 |_,_=>none
def ap4 (f:Ab->Ab->Ab->Ab->Aa->Out):List Ab->Aa->Out
 |[a,b,c,d],H=>f a b c d H
 |_,_=>none
def ap5 (f:Ab->Ab->Ab->Ab->Ab->Aa->Out):List Ab->Aa->Out
 |[a,b,c,d,e],H=>f a b c d e H
 |_,_=>none
def Es (fn:Func):Code:=fn.body.getD .skip
def AG (P:Program)(G:Ig)(g:FuncId)(f:List Ab->Aa->Out):Prop:=∀args H res H',f args H=some (res,H')->Vhm P G g args H res H'
theorem Ar (P:Program)(G:Ig):G6 P G noO:=λg a H res H' h=>by cases h
theorem Ah {P:Program}{G:Ig}{g:FuncId}{f:List Ab->Aa->Out}{o:Orc}(hf:AG P G g f)(ho:G6 P G o):G6 P G (ent g f o):=by
 intro h a H res H' hx;unfold ent at hx;split at hx
 ·rename_i e;subst e;exact hf a H res H' hx
 ·exact ho h a H res H' hx
theorem Fk {P:Program}{f:FuncId}{fn:Func}(hf:P.funcs[f]? = some fn)(hb:fn.body.isNone=false)(hn:(fn.name == "runtime.NumGoroutine")=false)(vs:Array Value)(w:World):(callFunc f vs).run P w=.ok (.enter f vs) w:=by
 have h2:¬fn.name = "runtime.NumGoroutine" := λh=>by rw[h]at hn;simp at hn
 have h3:¬fn.body=none:=λh=>by rw[h]at hb;cases hb
 simp[callFunc,program,zXf,Sem.run,Result.andThen,hf,h2,h3]
theorem MZ {P:Program}{G:Ig}{mu:Bool}{orc:Orc}(ho:G6 P G orc)(hm:P.follows .mixedOrders=true){f:FuncId}{fn:Func}{ann:Ann}{m:Fe}(hf:P.funcs[f]? = some fn)(hb:fn.body.isNone=false)(hn:(fn.name == "runtime.NumGoroutine")=false)
  {args:List Ab}{H:Aa}{res:Res}{H':Aa}(h:fn2 (mkC P G mu orc) fn (Es fn) ann m args H=some (res,H'))(hl:args.length<=fn.ntmps):Vhm P G f args H res H':=by
 have hb':fn.body=some (Es fn):=by
  unfold Es;cases hx:fn.body with
  |none=>rw[hx]at hb;cases hb
  |some b=>rfl
 rw[<-Vpx]at h;exact Vpw (C:=mkC P G mu orc) (Vlv ho) (Vg7 (Vlv ho) hm) hf hb' (Fk hf hb hn) h hl
def fnB (n:Nat)(fn:Func):Bool:=fn.body.isSome && !(fn.name == "runtime.NumGoroutine")&&decide (n<=fn.ntmps)
theorem F6 {n:Nat}{fn:Func}(h:fnB n fn=true):fn.body.isNone=false/\(fn.name == "runtime.NumGoroutine")=false/\n<=fn.ntmps:=by
 simp only[fnB,Vx,Wk,zXe]at h;obtain⟨⟨h1,h2⟩,h3⟩:=h;refine⟨?_,h2,h3⟩;cases hx:fn.body with
 |none=>rw[hx]at h1;cases h1
 |some b=>rfl
def T0 (P:Program)(G:Ig)(mu:Bool)(orc:Orc)(fn:Func)(ann:Ann)(m:Fe)(F:Aa->Out):Prop:=∀H,fn2 (mkC P G mu orc) fn (Es fn) ann m [] H=F H
def T1 (P:Program)(G:Ig)(mu:Bool)(orc:Orc)(fn:Func)(ann:Ann)(m:Fe)(F:Ab->Aa->Out):Prop:=∀a H,fn2 (mkC P G mu orc) fn (Es fn) ann m [a] H=F a H
def T2 (P:Program)(G:Ig)(mu:Bool)(orc:Orc)(fn:Func)(ann:Ann)(m:Fe)(F:Ab->Ab->Aa->Out):Prop:=∀a b H,fn2 (mkC P G mu orc) fn (Es fn) ann m [a,b] H=F a b H
def T3 (P:Program)(G:Ig)(mu:Bool)(orc:Orc)(fn:Func)(ann:Ann)(m:Fe)(F:Ab->Ab->Ab->Aa->Out):Prop:=∀a b c H,fn2 (mkC P G mu orc) fn (Es fn) ann m [a,b,c] H=F a b c H
def T4 (P:Program)(G:Ig)(mu:Bool)(orc:Orc)(fn:Func)(ann:Ann)(m:Fe)(F:Ab->Ab->Ab->Ab->Aa->Out):Prop:=∀a b c d H,fn2 (mkC P G mu orc) fn (Es fn) ann m [a,b,c,d] H=F a b c d H
def T5 (P:Program)(G:Ig)(mu:Bool)(orc:Orc)(fn:Func)(ann:Ann)(m:Fe)(F:Ab->Ab->Ab->Ab->Ab->Aa->Out):Prop:=∀a b c d e H,fn2 (mkC P G mu orc) fn (Es fn) ann m [a,b,c,d,e] H=F a b c d e H
section
variable {P:Program}{G:Ig}{mu:Bool}{orc:Orc}{f:FuncId}{fn:Func}{ann:Ann}{m:Fe}
theorem VnW (hm:P.follows .mixedOrders=true)(ho:G6 P G orc){F:Aa->Out}(hf:P.funcs[f]? = some fn)(hb:fnB 0 fn=true)(h:T0 P G mu orc fn ann m F):AG P G f (ap0 F):=by
 obtain⟨b1,b2,b3⟩:=F6 hb;intro args H res H' hx;unfold ap0 at hx;split at hx
 ·exact MZ ho hm hf b1 b2 (by rw[h];exact hx) b3
 ·cases hx
theorem Vkg (hm:P.follows .mixedOrders=true)(ho:G6 P G orc){F:Ab->Aa->Out}(hf:P.funcs[f]? = some fn)(hb:fnB 1 fn=true)(h:T1 P G mu orc fn ann m F):AG P G f (ap1 F):=by
 obtain⟨b1,b2,b3⟩:=F6 hb;intro args H res H' hx;unfold ap1 at hx;split at hx
 ·exact MZ ho hm hf b1 b2 (by rw[h];exact hx) b3
 ·cases hx
theorem Qa (hm:P.follows .mixedOrders=true)(ho:G6 P G orc){F:Ab->Ab->Aa->Out}(hf:P.funcs[f]? = some fn)(hb:fnB 2 fn=true)(h:T2 P G mu orc fn ann m F):AG P G f (ap2 F):=by
 obtain⟨b1,b2,b3⟩:=F6 hb;intro args H res H' hx;unfold ap2 at hx;split at hx
 ·exact MZ ho hm hf b1 b2 (by rw[h];exact hx) b3
 ·cases hx
theorem Vgq (hm:P.follows .mixedOrders=true)(ho:G6 P G orc){F:Ab->Ab->Ab->Aa->Out}(hf:P.funcs[f]? = some fn)(hb:fnB 3 fn=true)(h:T3 P G mu orc fn ann m F):AG P G f (ap3 F):=by
 obtain⟨b1,b2,b3⟩:=F6 hb;intro args H res H' hx;unfold ap3 at hx;split at hx
 ·exact MZ ho hm hf b1 b2 (by rw[h];exact hx) b3
 ·cases hx
theorem Vcm {F:Ab->Ab->Ab->Aa->Out}(h:∀a b c H,F a b c H=none):AG P G f (ap3 F):=by
 intro args H res H' hx;unfold ap3 at hx;split at hx
 ·rw[h]at hx;cases hx
 ·cases hx
theorem VnV (hm:P.follows .mixedOrders=true)(ho:G6 P G orc){F:Ab->Ab->Ab->Ab->Aa->Out}(hf:P.funcs[f]? = some fn)(hb:fnB 4 fn=true)(h:T4 P G mu orc fn ann m F):AG P G f (ap4 F):=by
 obtain⟨b1,b2,b3⟩:=F6 hb;intro args H res H' hx;unfold ap4 at hx;split at hx
 ·exact MZ ho hm hf b1 b2 (by rw[h];exact hx) b3
 ·cases hx
theorem Vgp (hm:P.follows .mixedOrders=true)(ho:G6 P G orc){F:Ab->Ab->Ab->Ab->Ab->Aa->Out}(hf:P.funcs[f]? = some fn)(hb:fnB 5 fn=true)(h:T5 P G mu orc fn ann m F):AG P G f (ap5 F):=by
 obtain⟨b1,b2,b3⟩:=F6 hb;intro args H res H' hx;unfold ap5 at hx;split at hx
 ·exact MZ ho hm hf b1 b2 (by rw[h];exact hx) b3
 ·cases hx
theorem Vcl {F:Ab->Ab->Ab->Ab->Ab->Aa->Out}(h:∀a b c d e H,F a b c d e H=none):AG P G f (ap5 F):=by
 intro args H res H' hx;unfold ap5 at hx;split at hx
 ·rw[h]at hx;cases hx
 ·cases hx

end
def Tt {α:Type}:Code->Nat->List (zAb)->(Ann->Nat->List (zAb)->α)->α
 |.region _ ops true,c,L,k=>(match L with
  |[]::L=>k (.reg (List.range ops.size)) c L
  |(x::l)::L=>(match Nat.beq x ops.size with
   |true=>k (.regp l) c L
   |false=>k (.reg (x::l)) c L)
  |[]=>k .lf c [])
 |.seq a b,c,L,k=>(match L with
  |(x::l)::L'=>(match Nat.beq x (1000000+c)with
   |true=>Tt a (c+1) L' λp c L=>Tt b c L λq c L=>k (.join l p q) c L
   |false=>Tt a (c+1) L λp c L=>Tt b c L λq c L=>k (.tw p q) c L)
  |_=>Tt a (c+1) L λp c L=>Tt b c L λq c L=>k (.tw p q) c L)
 |.cond _ a b,c,L,k=>Tt a (c+1) L λp c L=>Tt b c L λq c L=>k (.tw p q) c L
 |.block _ a,c,L,k=>Tt a c L λp c L=>k (.one p) c L
 |.loop a,c,L,k=>(match L with
  |l::L=>Tt a c L λp c L=>k (.loop l p) c L
  |[]=>k .lf c [])
 |_,c,L,k=>k .lf c L
def VmV (b:Code)(L:List (zAb)):Ann:=Tt b 0 L λa _ _=>a
section
variable {P:Program}{G:Ig}{orc:Orc}{f:FuncId}{fn:Func}
theorem mk0 (m:Fe)(ho:G6 P G orc)(L:List (zAb))(hf:P.funcs[f]? = some fn){F:Aa->Out}(hm:P.follows .mixedOrders=true:=by kernel_rfl)(hb:fnB 0 fn=true:=by kernel_rfl)(h:T0 P G false orc fn (VmV (Es fn) L) m F:=by unfold T0;intros;kernel_rfl):AG P G f (ap0 F):=VnW hm ho hf hb h
theorem mk1 (m:Fe)(ho:G6 P G orc)(L:List (zAb))(hf:P.funcs[f]? = some fn){F:Ab->Aa->Out}(hm:P.follows .mixedOrders=true:=by kernel_rfl)(hb:fnB 1 fn=true:=by kernel_rfl)(h:T1 P G false orc fn (VmV (Es fn) L) m F:=by unfold T1;intros;kernel_rfl):AG P G f (ap1 F):=Vkg hm ho hf hb h
theorem mv1 (m:Fe)(ho:G6 P G orc)(L:List (zAb))(hf:P.funcs[f]? = some fn){F:Ab->Aa->Out}(hm:P.follows .mixedOrders=true:=by kernel_rfl)(hb:fnB 1 fn=true:=by kernel_rfl)(h:T1 P G true orc fn (VmV (Es fn) L) m F:=by unfold T1;intros;kernel_rfl):AG P G f (ap1 F):=Vkg hm ho hf hb h
theorem mk2 (m:Fe)(ho:G6 P G orc)(L:List (zAb))(hf:P.funcs[f]? = some fn){F:Ab->Ab->Aa->Out}(hm:P.follows .mixedOrders=true:=by kernel_rfl)(hb:fnB 2 fn=true:=by kernel_rfl)(h:T2 P G false orc fn (VmV (Es fn) L) m F:=by unfold T2;intros;kernel_rfl):AG P G f (ap2 F):=Qa hm ho hf hb h
theorem mk3 (m:Fe)(ho:G6 P G orc)(L:List (zAb))(hf:P.funcs[f]? = some fn){F:Ab->Ab->Ab->Aa->Out}(hm:P.follows .mixedOrders=true:=by kernel_rfl)(hb:fnB 3 fn=true:=by kernel_rfl)(h:T3 P G false orc fn (VmV (Es fn) L) m F:=by unfold T3;intros;kernel_rfl):AG P G f (ap3 F):=Vgq hm ho hf hb h
theorem mk5 (m:Fe)(ho:G6 P G orc)(L:List (zAb))(hf:P.funcs[f]? = some fn){F:Ab->Ab->Ab->Ab->Ab->Aa->Out}(hm:P.follows .mixedOrders=true:=by kernel_rfl)(hb:fnB 5 fn=true:=by kernel_rfl)(h:T5 P G false orc fn (VmV (Es fn) L) m F:=by unfold T5;intros;kernel_rfl):AG P G f (ap5 F):=Vgp hm ho hf hb h

end
abbrev B9:TypeId:=48
abbrev AY:TypeId:=169
abbrev BW:TypeId:=4
abbrev BN:TypeId:=147
abbrev Gh:TypeId:=3
abbrev IP:TypeId:=127
abbrev D5:TypeId:=9
abbrev Cd:TypeId:=96
def Gs:Ig:=λ_=>none
section
variable {m:Fe}{H0 H G:Aa}{k:Ab->Aa->Out}
@[simp] theorem Voq (v:Ab):Vos m H0 (some (.ret v,H)) k=k v H:=(rfl)
@[simp] theorem B5 (v:Ab):AW (some (.ret v,H)) k=k v H:=(rfl)
@[simp] theorem Vor (v:Ab):Vos m H0 (some (.pan v,H)) k=fin m H0 (.pan v) H:=(rfl)
@[simp] theorem Bj (v:Ab):Ao (some (v,H)) k=k v H:=(rfl)
@[simp] theorem VmB (b w:Bool):Qx (.bool b) w=some (b == w):=(rfl)
@[simp] theorem VmA (w:Bool):Qx (.tup []) w=some false:=(rfl)
@[simp] theorem VlM (x:Option Ab):gR true x=x:=(rfl)
@[simp] theorem ViP (x:Option Ab):gR false x=some Cf:=(rfl)
@[simp] theorem Vpt (x:Out):gE true H x=x:=(rfl)
@[simp] theorem VoG (x:Out):gE false H x=some (.ret Cf,H):=(rfl)
@[simp] theorem Vpu (x:Option (Ab×Aa)):gA true H x=x:=(rfl)
@[simp] theorem VoH (x:Option (Ab×Aa)):gA false H x=some (Cf,H):=(rfl)
@[simp] theorem BZ (a b:Ab):AB (.bool true) a b=some a:=(rfl)
@[simp] theorem Ca (a b:Ab):AB (.bool false) a b=some b:=(rfl)
@[simp] theorem AU (a b:Out):Ak (.bool true) a b=a:=(rfl)
@[simp] theorem AI (a b:Out):Ak (.bool false) a b=b:=(rfl)
@[simp] theorem VoJ (r:Res):fin .keep H0 r H=some (r,H):=(rfl)
theorem El {v:Ab}(h:H.take H0.length=H0):fin .pure H0 (.ret v) H=(frz H H0.length 8 v).map λv=>(.ret v,H0):=by simp only[fin,chk,h,if_true]
@[simp] theorem Var {K:IntKind}{n:Int}:fin .pure H0 (.ret (.int K n)) (H0++G)=some (.ret (.int K n),H0):=by rw[El (by simp)];simp[frz]
@[simp] theorem TI {b:Bool}:fin .pure H0 (.ret (.bool b)) (H0++G)=some (.ret (.bool b),H0):=by rw[El (by simp)];simp[frz]
@[simp] theorem Vaq {s:zAa}:fin .pure H0 (.ret (.str s)) (H0++G)=some (.ret (.str s),H0):=by rw[El (by simp)];simp[frz]
@[simp] theorem TH {K:IntKind}{n:Int}:fin .pure H0 (.ret (.int K n)) H0=some (.ret (.int K n),H0):=by rw[El (by simp)];simp[frz]
@[simp] theorem SN {b:Bool}:fin .pure H0 (.ret (.bool b)) H0=some (.ret (.bool b),H0):=by rw[El (by simp)];simp[frz]
@[simp] theorem TG {s:zAa}:fin .pure H0 (.ret (.str s)) H0=some (.ret (.str s),H0):=by rw[El (by simp)];simp[frz]
@[simp] theorem Ij (v:Ab):VpJ (some v) H=some (.ret v,H):=(rfl)
@[simp] theorem AJ:AE (some H)=some (.ret .undef,H):=(rfl)
@[simp] theorem Dk (v:Ab):Cy (some (v,H))=some (.ret v,H):=(rfl)

end
section
variable {ek:EqK}{k:IntKind}{a b:Int}
@[simp] theorem CC:Af ek .add (.int k a) (.int k b)=some (.int k (k.wrap (a+b))):=by simp[Af,Dr,Fu]
@[simp] theorem DJ:Af ek .sub (.int k a) (.int k b)=some (.int k (k.wrap (a-b))):=by simp[Af,Dr,Fu]
@[simp] theorem Id:Af ek .mul (.int k a) (.int k b)=some (.int k (k.wrap (a*b))):=by simp[Af,Dr,Fu]
@[simp] theorem Dv:Af ek .eql (.int k a) (.int k b)=some (.bool (a == b)):=by simp[Af,Dr,Fu]
@[simp] theorem Ic:Af ek .neq (.int k a) (.int k b)=some (.bool (a != b)):=by simp[Af,Dr,Fu]
@[simp] theorem Bh:Af ek .lss (.int k a) (.int k b)=some (.bool (decide (a<b))):=by simp[Af,Dr,Fu]
@[simp] theorem KO:Af ek .leq (.int k a) (.int k b)=some (.bool (decide (a<=b))):=by simp[Af,Dr,Fu]
@[simp] theorem Du:Af ek .gtr (.int k a) (.int k b)=some (.bool (decide (a>b))):=by simp[Af,Dr,Fu]
@[simp] theorem Ie:Af ek .geq (.int k a) (.int k b)=some (.bool (decide (a>=b))):=by simp[Af,Dr,Fu]
variable {s u:zAa}
@[simp] theorem JK:Af ek .eql (.str s) (.str u)=some (.bool (s == u)):=(rfl)
@[simp] theorem Vj1:Af ek .neq (.str s) (.str u)=some (.bool (!(s == u))):=(rfl)
@[simp] theorem Je {c:Bool}:unA .not (.bool c)=some (.bool (!c)):=(rfl)
@[simp] theorem CU:BU (.str s)=some (.i6 s.length):=(rfl)
@[simp] theorem VpL {es:List (List Ab)}{tk:Tok}:A5 (.sl es tk)=some (.i6 es.length):=(rfl)
@[simp] theorem VjT {id g off len cap sz:Nat}{ex:Bool}:A5 (.ms id g off len cap sz ex)=some (.i6 len):=(rfl)
@[simp] theorem Ae {off id g o:Nat}:Ac off (.ptr id g o)=some (.ptr id g (o+off)):=(rfl)
@[simp] theorem Ay {off o:Nat}{cs:List Ab}:Ac off (.cptr cs o)=some (.cptr cs (o+off)):=(rfl)

end
section
variable {H0 H:Aa}{k:Ab->Aa->Out}{kv:Ab->Out}
@[simp] theorem Al (v:Ab)(l:List Ab):ag (v::l) 0=v:=(rfl)
@[simp] theorem Aj (v:Ab)(l:List Ab)(i:Nat):ag (v::l) (i+1)=ag l i:=(rfl)
@[simp] theorem AZ (a v:Ab)(l:List Ab):ag (a::v::l) 1=v:=(rfl)
@[simp] theorem Bd (a b v:Ab)(l:List Ab):ag (a::b::v::l) 2=v:=(rfl)
@[simp] theorem Bx (a b c v:Ab)(l:List Ab):ag (a::b::c::v::l) 3=v:=(rfl)
@[simp] theorem BI (a b c d v:Ab)(l:List Ab):ag (a::b::c::d::v::l) 4=v:=(rfl)
@[simp] theorem D4 (a b c d e v:Ab)(l:List Ab):ag (a::b::c::d::e::v::l) 5=v:=(rfl)
@[simp] theorem Fd (v:Ab):bK H0 (some (.ret v,H)) k=k v H:=(rfl)
@[simp] theorem CD (v:Ab):bP H0 (some (.ret v,H)) k=k v H:=(rfl)
@[simp] theorem Oi (v:Ab):rK H0 v H=some (.ret v,H):=(rfl)
theorem VkL (v:Ab)(h:H.take H0.length=H0):rP H0 v H=(frz H H0.length 8 v).map λv=>(.ret v,H0):=El h
@[simp] theorem Io {G:Aa}{K:IntKind}{n:Int}:rP H0 (.int K n) (H0++G)=some (.ret (.int K n),H0):=Var
@[simp] theorem Dq {G:Aa}{b:Bool}:rP H0 (.bool b) (H0++G)=some (.ret (.bool b),H0):=TI
@[simp] theorem VeS {G:Aa}{s:zAa}:rP H0 (.str s) (H0++G)=some (.ret (.str s),H0):=Vaq
@[simp] theorem Vpi {K:IntKind}{n:Int}:rP H0 (.int K n) H0=some (.ret (.int K n),H0):=TH
@[simp] theorem VoC {b:Bool}:rP H0 (.bool b) H0=some (.ret (.bool b),H0):=SN
@[simp] theorem Vph {s:zAa}:rP H0 (.str s) H0=some (.ret (.str s),H0):=TG
@[simp] theorem GF (x:Option Ab):gk (.bool true) true x kv=x.bind kv:=(rfl)
@[simp] theorem QE (x:Option Ab):gk (.bool true) false x kv=kv Cf:=(rfl)
@[simp] theorem N0 (x:Option Ab):gk (.bool false) true x kv=kv Cf:=(rfl)
@[simp] theorem KX (x:Option Ab):gk (.bool false) false x kv=x.bind kv:=(rfl)
@[simp] theorem Vkd (w:Bool)(x:Option Ab):gk (.tup []) w x kv=kv Cf:=(rfl)
@[simp] theorem UT (w:Bool)(x:Out):gbK H0 (.tup []) w H x k=k Cf H:=(rfl)
@[simp] theorem UR (w:Bool)(x:Out):gbP H0 (.tup []) w H x k=k Cf H:=(rfl)
@[simp] theorem US (w:Bool)(x:Out):gbN (.tup []) w H x k=k Cf H:=(rfl)
@[simp] theorem PU (x:Out):gbK H0 (.bool true) true H x k=bK H0 x k:=(rfl)
@[simp] theorem PV (x:Out):gbK H0 (.bool true) false H x k=k Cf H:=(rfl)
@[simp] theorem PW (x:Out):gbK H0 (.bool false) true H x k=k Cf H:=(rfl)
@[simp] theorem PX (x:Out):gbK H0 (.bool false) false H x k=bK H0 x k:=(rfl)
@[simp] theorem PL (x:Out):gbP H0 (.bool true) true H x k=bP H0 x k:=(rfl)
@[simp] theorem PM (x:Out):gbP H0 (.bool true) false H x k=k Cf H:=(rfl)
@[simp] theorem PN (x:Out):gbP H0 (.bool false) true H x k=k Cf H:=(rfl)
@[simp] theorem PO (x:Out):gbP H0 (.bool false) false H x k=bP H0 x k:=(rfl)
@[simp] theorem PP (x:Out):gbN (.bool true) true H x k=AW x k:=(rfl)
@[simp] theorem PQ (x:Out):gbN (.bool true) false H x k=k Cf H:=(rfl)
@[simp] theorem PR (x:Out):gbN (.bool false) true H x k=k Cf H:=(rfl)
@[simp] theorem PT (x:Out):gbN (.bool false) false H x k=AW x k:=(rfl)

end
theorem An {n:Int}(h0:-9223372036854775808<=n)(h:n<=9223372036854775807):IntKind.i64.wrap n=n:=by have h1:IntKind.i64.bits=64:=(rfl);have h2:IntKind.i64.signed=true:=(rfl);unfold IntKind.wrap;simp only[h1,h2,zXn,zXe];split <;> omega
theorem C0 {G:LK->LK}(n:Nat)(vs:List Ab)(H:Aa):Am G (n+1) vs H=G (Am G n) vs H:=(rfl)
theorem DT {G:(List Ab->Aa->Out)->List Ab->Aa->Out}{n:Nat}(h:0<n)(vs:List Ab)(H:Aa):Am G n vs H=G (Am G (n-1)) vs H:=by
 cases n with
 |zero=>omega
 |succ n=>rfl
theorem ES:0<AP:=by rw[DB];decide
theorem Br {σ:Type}{G:LK->LK}(Inv:σ->Prop)(st:σ->List Ab)(hp:σ->Aa)(μ:σ->Nat)(res:σ->Out)
  (step:∀(s:σ) (rec:LK),Inv s->(∀s',Inv s'->μ s'<μ s->rec (st s') (hp s')=res s')->G rec (st s) (hp s)=res s)
  (s:σ)(hs:Inv s)(hm:μ s<1152921504606846976):Am G AP (st s) (hp s)=res s:=by
 have key:∀(n:Nat) (s:σ),Inv s->μ s<n->Am G n (st s) (hp s)=res s:=by
  intro n
  induction n with
  |zero=>intro s _ h;omega
  |succ n ih=>intro s hi h;rw[C0];exact step s _ hi λs' aE h'=>ih s' aE (by omega)
 exact key AP s hs (by rw[DB];exact hm)
theorem CA {G:LK->LK}(N:Nat)(st:Nat->List Ab)(hp:Nat->Aa)(out:Out)(hN:N<1152921504606846976)
  (turn:∀(rec:LK) (i:Nat),i<N->G rec (st i) (hp i)=rec (st (i+1)) (hp (i+1)))(last:∀rec:LK,G rec (st N) (hp N)=out):Am G AP (st 0) (hp 0)=out:=by
 refine Br (σ:=Nat) (λi=>i<=N) st hp (λi=>N-i) (λ_=>out) (λi rec hi hrec=>?_) 0 (VL _) (by omega);by_cases h:i<N
 ·rw[turn rec i h];exact hrec (i+1) h (by omega)
 ·have:i=N:=by omega
  subst this;exact last rec
theorem Gq {G:LK->LK}(N:Nat)(I:Nat->List Ab->Aa->Prop)(hN:N<1152921504606846976)
  (turn:∀(i:Nat) (vs:List Ab) (H:Aa),i<N->I i vs H->∃vs' H',I (i+1) vs' H'/\∀rec:LK,G rec vs H=rec vs' H')
  {vs:List Ab}{H:Aa}(h0:I 0 vs H):∃vs' H',I N vs' H'/\∃rec,Am G AP vs H=G rec vs' H':=by
 have key:∀(d i:Nat) (n:Nat) (vs:List Ab) (H:Aa),i+d=N->d<n->I i vs H->∃vs' H',I N vs' H'/\∃rec,Am G n vs H=G rec vs' H':=by
  intro d
  induction d with
  |zero=>
   intro i n vs H hi hn hI;cases n with
   |zero=>omega
   |succ n=>exact⟨vs,H,by
     have:i=N:=by omega
     rw[<-this];exact hI,Am G n,C0 n vs H⟩
  |succ d ih=>
   intro i n vs H hi hn hI;cases n with
   |zero=>omega
   |succ n=>obtain⟨vs1,H1,h1,h2⟩:=turn i vs H (by omega) hI;obtain⟨vs2,H2,h3,rec,h4⟩:=ih (i+1) n vs1 H1 (by omega) (by omega) h1;exact⟨vs2,H2,h3,rec,by rw[C0,h2,h4]⟩
 exact key N 0 AP vs H (by omega) (by rw[DB];exact hN) h0
theorem Vgi (k:Nat)(hk:k<1152921504606846976):∃n,AP=n+k:=⟨1152921504606846976-k,by rw[DB];omega⟩
theorem FE {n:Int}(h0:0<=n)(h:n<256):IntKind.u8.wrap n=n:=by have h1:IntKind.u8.bits=8:=rfl;have h2:IntKind.u8.signed=false:=rfl;unfold IntKind.wrap;simp only[h1,h2,Wh,Vq,if_false];omega
theorem Dj {n:Int}(h0:0<=n)(h:n<4294967296):IntKind.u32.wrap n=n:=by have h1:IntKind.u32.bits=32:=rfl;have h2:IntKind.u32.signed=false:=rfl;unfold IntKind.wrap;simp only[h1,h2,Wh,Vq,if_false];omega
theorem Ch {n:Int}(h0:0<=n)(h:n<18446744073709551616):IntKind.u64.wrap n=n:=by have h1:IntKind.u64.bits=64:=rfl;have h2:IntKind.u64.signed=false:=rfl;unfold IntKind.wrap;simp only[h1,h2,Wh,Vq,if_false];omega
@[simp] theorem wr0:IntKind.i64.wrap 0=0:=by decide
@[simp] theorem wr1:IntKind.i64.wrap 1=1:=by decide
@[simp] theorem wr2:IntKind.i64.wrap 2=2:=by decide
@[simp] theorem wr3:IntKind.i64.wrap 3=3:=by decide
@[simp] theorem wr4:IntKind.i64.wrap 4=4:=by decide
@[simp] theorem Vqk:IntKind.i64.wrap (-1) = -1:=by decide
@[simp] theorem Vqj:IntKind.i64.wrap (-2) = -2:=by decide
theorem Jc {ek:EqK}{k:IntKind}{a b:Int}(h:b≠0):Af ek .rem (.int k a) (.int k b)=some (.int k (a.tmod b)):=by simp[Af,Dr,Fu,h]
theorem OX {ek:EqK}{k:IntKind}{a b:Int}(h:b≠0):Af ek .quo (.int k a) (.int k b)=some (.int k (k.wrap (a.tdiv b))):=by simp[Af,Dr,Fu,h]
@[simp] theorem VoS {ek:EqK}{k:IntKind}{a:Nat}{b:Nat}[h:NeZero b]:Af ek .rem (.int k (a:Int)) (.int k (b:Int))=some (.int k ((a%b:Nat):Int)):=by rw[Jc (by have:=h.out;omega)];rfl
theorem Bo {k k':IntKind}{n:Int}:AC k (.int k' n)=some (.int k (k.wrap n)):=(rfl)
theorem IF (p q:Bool):Af .bool .eql (.bool p) (.bool q)=some (.bool (p == q)):=by cases p <;> cases q <;> rfl
theorem Vj0 (p q:Bool):Af .bool .neq (.bool p) (.bool q)=some (.bool (p != q)):=by cases p <;> cases q <;> rfl
theorem Ro {k:IntKind}{a b:Int}:GG IS (.int k a) [.int k b]=some (.int k (max a b)):=by simp only[GG,IS,zXa];congr 2;omega
theorem Vlw {k:IntKind}{a b:Int}:GG Sy (.int k a) [.int k b]=some (.int k (min a b)):=by simp only[GG,Sy,zXa];congr 2;omega
theorem Cq {ek:EqK}{a b:zAa}(h:a.length+b.length<=1152921504606846976):Af ek .add (.str a) (.str b)=some (.str (a++b)):=by simp[Af,VbN,h]
theorem Ds {s:zAa}{i:Nat}{K:IntKind}(h:i<s.length):Cj (.str s) (.int K (i:Int))=some (.int .u8 (s[i].toNat:Int)):=by simp[Cj,h]
theorem ViE {c:UInt8}{s:zAa}{K:IntKind}:Cj (.str (c::s)) (.int K 0)=some (.int .u8 (c.toNat:Int)):=by simp[Cj]
theorem Od {s:zAa}{h:Nat}{K:IntKind}(hh:h<=s.length):Ci (.str s) none (some (.int K (h:Int)))=some (.str (s.take h)):=by simp[Ci,Bw,hh]
theorem Gi {s:zAa}{l:Nat}{K:IntKind}(hl:l<=s.length):Ci (.str s) (some (.int K (l:Int))) none=some (.str (s.drop l)):=by simp[Ci,Bw,hl]
theorem Uj {s:zAa}{l h:Nat}{K K':IntKind}(hl:l<=h)(hh:h<=s.length):Ci (.str s) (some (.int K (l:Int))) (some (.int K' (h:Int)))=some (.str ((s.take h).drop l)):=by simp[Ci,Bw,hl,hh]
def enL {α:Type}(f:α->List Ab)(l:List α):List (List Ab):=l.map f
class Sz {α:Type} (f:α->List Ab) (n:outParam Nat):Prop where
 len:∀a,(f a).length=n
abbrev cB (b:Bool):List Ab:=[.bool b]
abbrev cU (n:Nat):List Ab:=[.int .u32 (n:Int)]
abbrev cI (n:Int):List Ab:=[.i6 n]
abbrev cN (n:Nat):List Ab:=[.i6 (n:Int)]
abbrev cY (b:UInt8):List Ab:=[.int .u8 (b.toNat:Int)]
abbrev cS (s:zAa):List Ab:=[.str s]
instance:Sz cB 1:=⟨λ_=>rfl⟩
instance:Sz cU 1:=⟨λ_=>rfl⟩
instance:Sz cI 1:=⟨λ_=>rfl⟩
instance:Sz cN 1:=⟨λ_=>rfl⟩
instance:Sz cY 1:=⟨λ_=>rfl⟩
instance:Sz cS 1:=⟨λ_=>rfl⟩
section
variable {α:Type}{f:α->List Ab}{l m:List α}{tk:Tok}{i sz:Nat}{K:IntKind}
theorem IY:enL f []=[]:=rfl
theorem VdR:enL f (l++m)=enL f l++enL f m:=by simp[enL]
@[simp] theorem VmQ:(enL f l).length=l.length:=by simp[enL]
@[simp] theorem Ax:A5 (.sl (enL f l) tk)=some (.i6 (l.length:Int)):=by simp[enL]
theorem Vhi [h:Sz f sz]:((enL f l).all λe=>e.length == sz)=true:=by simp[enL,h.len]
theorem Az [hf:Sz f sz](h:i<l.length):Aw sz (.sl (enL f l) tk) (.int K (i:Int))=some (.cptr (f l[i]) 0):=by simp[Aw,enL,h,hf.len]
theorem VbQ [hf:Sz f sz]{h:Nat}(hh:h<=l.length) :
  BS sz (.sl (enL f l) tk) none (some (.int K (h:Int))) none=some (.sl (enL f (l.take h)) (Jy tk 0 h l.length false)):=by
 simp[BS,Bw,enL,hf.len,hh,List.map_take]

end
theorem R2 (b:Bool):AN 1 [.bool b]=some (.sl (enL cB [b]) .ti):=by simp[AN,CP,Kl,BG,Ab.acells,enL]
theorem Vmp (n:Nat):AN 1 [.int .u32 (n:Int)]=some (.sl (enL cU [n]) .ti):=by simp[AN,CP,Kl,BG,Ab.acells,enL]
theorem Vmq (n:Nat):AN 1 [.i6 (n:Int)]=some (.sl (enL cN [n]) .ti):=by simp[AN,CP,Kl,BG,Ab.acells,enL]
theorem R1 (s:zAa):AN 1 [.str s]=some (.sl (enL cS [s]) .ti):=by simp[AN,CP,Kl,BG,Ab.acells,enL]
theorem VgY (b:UInt8):AN 1 [.int .u8 (b.toNat:Int)]=some (.sl (enL cY [b]) .ti):=by simp[AN,CP,Kl,BG,Ab.acells,enL]
theorem Vb0 (s:zAa):HZ (enL cY s)=some s:=by
 induction s with
 |nil=>rfl
 |cons b s ih=>simp only[enL,WT,HZ]at ih ⊢;simp[ih]
@[simp] theorem Ph {s:zAa}{tk:Tok}{H:Aa}:CF (.sl (enL cY s) tk) H=some (.str s):=by simp[CF,Vb0]
@[simp] theorem A0 {sz o:Nat}{cs:List Ab}{H:Aa}:Ad false sz (.cptr cs o) H=cs[o]? := (rfl)
@[simp] theorem alloc_eq {cs:List Ab}{H:Aa}(h:cs.all Ab.isScal=true):A3 (some cs) H=some (.ptr H.length 0 0,H++[.cel 0 cs]):=by simp only[A3,zXa,h,if_true]
section
variable {H G:Aa}{a:Bool}{sz k g o:Nat}{b:Blk}{cs:List Ab}{v:Ab}
@[simp] theorem Vbh:A6 (H++G) (H.length+k) g=A6 G k g:=by
 have:(H++G)[H.length+k]? = G[k]? := by rw[VG (by omega)];congr 1;omega
 unfold A6;rw[this]
@[simp] theorem VcI:A6 (H++G) H.length g=A6 G 0 g:=Vbh (k:=0)
theorem VlK {i:Nat}(h:i<H.length):A6 (H++G) i g=A6 H i g:=by simp[A6,Vp h]
@[simp] theorem VcG:A6 (b::G) (k+1) g=A6 G k g:=by simp[A6]
@[simp] theorem J4:A6 (.cel g cs::G) 0 g=some cs:=by simp[A6]
@[simp] theorem Vi4:Ad a sz (.ptr (H.length+k) g o) (H++G)=Ad a sz (.ptr k g o) G:=by simp only[Ad,Vbh]
@[simp] theorem Ga:Ad a sz (.ptr H.length g o) (H++G)=Ad a sz (.ptr 0 g o) G:=by simp only[Ad,VcI]
@[simp] theorem VfG:Ad a sz (.ptr (k+1) g o) (b::G)=Ad a sz (.ptr k g o) G:=by simp only[Ad,VcG]
@[simp] theorem GS:Ad false sz (.ptr 0 g o) (.cel g cs::G)=cs[o]? := by simp only[Ad,J4];rfl
theorem VdF:Ad true sz (.ptr 0 g o) (.cel g cs::G)=if o+sz<=cs.length then some (.agg ((cs.drop o).take sz))else none:=by simp only[Ad,J4];rfl
@[simp] theorem VdG (h:cs.length=sz):Ad true sz (.ptr 0 g 0) (.cel g cs::G)=some (.agg cs):=by simp[VdF,h,Vy (Xz h)]
theorem RO:F0 (H++G) (H.length+k) g cs=H++F0 G k g cs:=by
 have:(H++G)[H.length+k]? = G[k]? := by rw[VG (by omega)];congr 1;omega
 unfold F0;rw[this];split <;> (rw[Wa _ _ (by omega)];congr 2 <;> omega)
theorem Us:F0 (b::G) (k+1) g cs=b::F0 G k g cs:=by unfold F0;simp only[List.getElem?_cons_succ,List.set_cons_succ];split <;> simp_all
@[simp] theorem Uh:Ai sz (.ptr (H.length+k) g o) v (H++G)=(Ai sz (.ptr k g o) v G).map (H++·):=by
 simp only[Ai,Vbh];cases A6 G k g with
 |none=>rfl
 |some cs=>
  simp only[zXa];cases v.acells with
  |none=>rfl
  |some vs=>
   simp only[zXa];split
   ·simp[RO]
   ·rfl
@[simp] theorem N5:Ai sz (.ptr H.length g o) v (H++G)=(Ai sz (.ptr 0 g o) v G).map (H++·):=Uh (k:=0)
@[simp] theorem Vdz:Ai sz (.ptr (k+1) g o) v (b::G)=(Ai sz (.ptr k g o) v G).map (b::·):=by
 simp only[Ai,VcG];cases A6 G k g with
 |none=>rfl
 |some cs=>
  simp only[zXa];cases v.acells with
  |none=>rfl
  |some vs=>
   simp only[zXa];split
   ·simp[Us]
   ·rfl
@[simp] theorem RI:Ai sz (.ptr 0 g o) v (.cel g cs::G)=v.acells.bind λvs=>if vs.length=sz/\o+sz<=cs.length then some (.cel g (Dx cs o sz vs)::G)else none:=by simp only[Ai,J4,zXa,F0,zXh,List.set_cons_zero]
@[simp] theorem Vec {K:IntKind}{n:Int}:(Ab.int K n).acells=some [.int K n]:=(rfl)
@[simp] theorem Vm6 {t:Bool}:(Ab.bool t).acells=some [.bool t]:=(rfl)
@[simp] theorem VmX {s:zAa}:(Ab.str s).acells=some [.str s]:=(rfl)
@[simp] theorem Qv {es:List (List Ab)}{tk:Tok}:(Ab.sl es tk).acells=some [.sl es tk]:=(rfl)
@[simp] theorem Vox {id g off len cap sz:Nat}{ex:Bool}:(Ab.ms id g off len cap sz ex).acells=some [.ms id g off len cap sz ex]:=(rfl)
@[simp] theorem VmY {id g off:Nat}:(Ab.ptr id g off).acells=some [.ptr id g off]:=(rfl)
@[simp] theorem Vm5:Ab.nilp.acells=some [.nilp]:=(rfl)
@[simp] theorem Voy {id:Nat}:(Ab.mp id).acells=some [.mp id]:=(rfl)
@[simp] theorem Voz {f:FuncId}{caps:List Ab}:(Ab.fn f caps).acells=some [.fn f caps]:=(rfl)
theorem Cc {cs:List Ab}(h:cs.all Ab.isScal=true):(Ab.agg cs).acells=some cs:=by simp[Ab.acells,h]

end
section
variable {K:IntKind}{n:Int}{t:Bool}{s:zAa}{es:List (List Ab)}{tk:Tok}{id g off len cap sz:Nat}{ex:Bool}{f:FuncId}{caps:List Ab}
@[simp] theorem VoB:(Ab.int K n).isScal=true:=(rfl)
@[simp] theorem Vnq:(Ab.bool t).isScal=true:=(rfl)
@[simp] theorem Vo9:(Ab.str s).isScal=true:=(rfl)
@[simp] theorem Vpb:(Ab.sl es tk).isScal=true:=(rfl)
@[simp] theorem Vpc:(Ab.ms id g off len cap sz ex).isScal=true:=(rfl)
@[simp] theorem VoA:(Ab.ptr id g off).isScal=true:=(rfl)
@[simp] theorem Vpd:(Ab.mp id).isScal=true:=(rfl)
@[simp] theorem Vnp:Ab.nilp.isScal=true:=(rfl)
@[simp] theorem Vpe:(Ab.fn f caps).isScal=true:=(rfl)

end
open Classical in
theorem Vol (p:Prop)(x:Out):chk p x=if p then x else none:=rfl
theorem Vby {p:Prop}(h:p)(x:Out):chk p x=x:=by rw[Vol,if_pos h]
def I6 (H:Aa)(n d:Nat)(v:Ab):Option Ab:=(frz H n d v).map fgt
def FQ (H:Aa)(n d:Nat)(vs:List Ab):Option (List Ab):=(FP H n d vs).map (List.map fgt)
def ET (H:Aa)(n d:Nat)(v:Ab):Option Ab:=(frz H n d v).map Em
def I3 (H:Aa)(n d:Nat)(vs:List Ab):Option (List Ab):=(FP H n d vs).map (List.map Em)
def GV (H:Aa)(n d:Nat)(v:Ab):Option Ab:=(frz H n d v).map forget
section
variable {H H0 G:Aa}{n d:Nat}{v:Ab}{vs cs:List Ab}
theorem GQ (h:H.take H0.length=H0):rPN H0 v H=(GV H H0.length 8 v).map λv=>(.ret v,H0):=by simp only[rPN,fin,Vby h,GV,XB];rfl
@[simp] theorem CT:rPN H0 v (H0++G)=(GV (H0++G) H0.length 8 v).map λv=>(.ret v,H0):=GQ (by simp)
@[simp] theorem Oh:rPN H0 v H0=(GV H0 H0.length 8 v).map λv=>(.ret v,H0):=GQ (by simp)
@[simp] theorem Ef:rKN H0 v H=some (.ret (forget v),H):=(rfl)
theorem Vgj {es:List (List Ab)}{tk:Tok}:∃tk',frz H n (d+1) (.sl es tk)=some (.sl es tk'):=by
 cases tk with
 |no=>exact⟨.no,by simp[frz]⟩
 |ti=>exact⟨.ti,by simp[frz]⟩
 |own t=>
   by_cases h:t<n
   ·exact⟨.own t,by simp[frz,h]⟩
   ·exact⟨.no,by simp[frz,h]⟩
@[simp] theorem Dn:GV H n (d+1) (.tup vs)=(I3 H n d vs).map .tup:=by simp only[GV,I3,frz,XB];rfl
@[simp] theorem ViX:GV H n (d+1) (.agg cs)=(FQ H n d cs).map .agg:=by simp only[GV,FQ,frz,XB];rfl
@[simp] theorem VoP {K:IntKind}{i:Int}:GV H n (d+1) (.int K i)=some (.int K i):=by simp[GV,frz,forget,Em,fgt]
@[simp] theorem VnZ {t:Bool}:GV H n (d+1) (.bool t)=some (.bool t):=by simp[GV,frz,forget,Em,fgt]
@[simp] theorem VoO {s:zAa}:GV H n (d+1) (.str s)=some (.str s):=by simp[GV,frz,forget,Em,fgt]
@[simp] theorem HU {es:List (List Ab)}{tk:Tok}:GV H n (d+1) (.sl es tk)=some (.sl es .no):=by obtain⟨tk',h⟩:=Vgj (H:=H) (n:=n) (d:=d) (es:=es) (tk:=tk);simp[GV,h,forget,Em,fgt]
@[simp] theorem Cv:I3 H n (d+1) []=some []:=by simp[I3,FP]
@[simp] theorem BY:I3 H n (d+1) (v::vs)=(ET H n d v).bind λv'=>(I3 H n (d+1) vs).map (v'::·):=by
 simp only[I3,ET,FP];cases frz H n d v with
 |none=>rfl
 |some x=>cases FP H n (d+1) vs <;> rfl
@[simp] theorem I5:FQ H n (d+1) []=some []:=by simp[FQ,FP]
@[simp] theorem Hs:FQ H n (d+1) (v::vs)=(I6 H n d v).bind λv'=>(FQ H n (d+1) vs).map (v'::·):=by
 simp only[FQ,I6,FP];cases frz H n d v with
 |none=>rfl
 |some x=>cases FP H n (d+1) vs <;> rfl
@[simp] theorem J8:ET H n (d+1) (.agg cs)=(FQ H n d cs).map .agg:=by simp only[ET,FQ,frz,XB];rfl
@[simp] theorem EC {K:IntKind}{i:Int}:ET H n (d+1) (.int K i)=some (.int K i):=by simp[ET,frz,Em,fgt]
@[simp] theorem GU {t:Bool}:ET H n (d+1) (.bool t)=some (.bool t):=by simp[ET,frz,Em,fgt]
@[simp] theorem Vgl {s:zAa}:ET H n (d+1) (.str s)=some (.str s):=by simp[ET,frz,Em,fgt]
@[simp] theorem O9 {es:List (List Ab)}{tk:Tok}:ET H n (d+1) (.sl es tk)=some (.sl es .no):=by obtain⟨tk',h⟩:=Vgj (H:=H) (n:=n) (d:=d) (es:=es) (tk:=tk);simp[ET,h,Em,fgt]
@[simp] theorem Vgz {K:IntKind}{i:Int}:I6 H n (d+1) (.int K i)=some (.int K i):=by simp[I6,frz,fgt]
@[simp] theorem Kr {t:Bool}:I6 H n (d+1) (.bool t)=some (.bool t):=by simp[I6,frz,fgt]
@[simp] theorem Vgy {s:zAa}:I6 H n (d+1) (.str s)=some (.str s):=by simp[I6,frz,fgt]
@[simp] theorem Ma {es:List (List Ab)}{tk:Tok}:I6 H n (d+1) (.sl es tk)=some (.sl es .no):=by obtain⟨tk',h⟩:=Vgj (H:=H) (n:=n) (d:=d) (es:=es) (tk:=tk);simp[I6,h,fgt]
@[simp] theorem UU {es:List (List Ab)}{tk:Tok}:forget (.sl es tk)=.sl es .no:=(rfl)
@[simp] theorem VmO:forget (.agg cs)=.agg (cs.map fgt):=(rfl)
@[simp] theorem VmM:forget (.tup cs)=.tup (cs.map Em):=(rfl)
@[simp] theorem VoN:Em (.agg cs)=.agg (cs.map fgt):=(rfl)
@[simp] theorem Vp0 {es:List (List Ab)}{tk:Tok}:Em (.sl es tk)=.sl es .no:=(rfl)
@[simp] theorem VoM {K:IntKind}{i:Int}:Em (.int K i)=.int K i:=(rfl)
@[simp] theorem VnY {t:Bool}:Em (.bool t)=.bool t:=(rfl)
@[simp] theorem VoL {s:zAa}:Em (.str s)=.str s:=(rfl)
@[simp] theorem VpM {es:List (List Ab)}{tk:Tok}:fgt (.sl es tk)=.sl es .no:=(rfl)
@[simp] theorem Vpz {K:IntKind}{i:Int}:fgt (.int K i)=.int K i:=(rfl)
@[simp] theorem VoK {t:Bool}:fgt (.bool t)=.bool t:=(rfl)
@[simp] theorem Vpy {s:zAa}:fgt (.str s)=.str s:=(rfl)
@[simp] theorem F1:T7 []=some []:=(rfl)
@[simp] theorem E8 {x:Option Ab}{xs:List (Option Ab)}:T7 (x::xs)=x.bind λv=>(T7 xs).map (v::·):=(rfl)
@[simp] theorem Hj {xs:List (Option Ab)}:GP xs=(T7 xs).map .tup:=(rfl)
@[simp] theorem Ce:At 0 (.tup (v::vs))=some v:=(rfl)
@[simp] theorem Cg {w:Ab}:At 1 (.tup (v::w::vs))=some w:=(rfl)
@[simp] theorem UX {w u:Ab}:At 2 (.tup (v::w::u::vs))=some u:=(rfl)

end
def Jh:Ab->Bool
 |.int _ _=>true
 |.bool _=>true
 |.str _=>true
 |_=>false
def Jg:Ab->Bool
 |.tup vs=>vs.all Jh
 |v=>Jh v
section
variable {H H0 G:Aa}{n d:Nat}{v:Ab}{vs:List Ab}{K:IntKind}{i:Int}{t:Bool}{s:zAa}
@[simp] theorem VmH:Jh (.int K i)=true:=(rfl)
@[simp] theorem Vlf:Jh (.bool t)=true:=(rfl)
@[simp] theorem VmG:Jh (.str s)=true:=(rfl)
@[simp] theorem VmD:Jg (.tup vs)=vs.all Jh:=(rfl)
@[simp] theorem VmF:Jg (.int K i)=true:=(rfl)
@[simp] theorem Vle:Jg (.bool t)=true:=(rfl)
@[simp] theorem VmE:Jg (.str s)=true:=(rfl)
theorem VdL (h:Jh v=true):frz H n (d+1) v=some v:=by cases v <;> first | (simp[Jh]at h;done) | simp[frz]
theorem SJ:∀(vs:List Ab),vs.all Jh=true->FP H n (d+2) vs=some vs
 |[],_=>by simp[FP]
 |v::vs,h=>by simp only[List.all_cons,Vx]at h;simp[FP,VdL h.1,SJ vs h.2]
theorem FY (h:Jg v=true)(ht:H.take H0.length=H0):rP H0 v H=some (.ret v,H0):=by rw[VkL v ht];cases v <;> first | (simp[Jg,Jh]at h;done) | (simp[frz];done) | (rename_i vs;simp[frz,SJ vs (by simpa[Jg]using h)])
@[simp] theorem Vca (h:Jg v=true):rP H0 v (H0++G)=some (.ret v,H0):=FY h (by simp)
@[simp] theorem Vnv (h:Jg v=true):rP H0 v H0=some (.ret v,H0):=FY h (by simp)

end
section
variable {α:Type}{f:α->List Ab}{H:Aa}{ty:TypeId}{sz bytes:Nat}{l m:List α}{tk:Tok}
theorem Eu [hf:Sz f sz](hm:m≠[])(hb:(l.length+m.length)*bytes<=140737488355328)(hn:l.length+m.length<=140737488355328) :
  Bf ty sz bytes (.sl (enL f l) .ti) (.sl (enL f m) tk) H=some (.sl (enL f (l++m)) (.own H.length),H++[.tok (l.length+m.length) ty sz]):=by
 simp[Bf,Cw,enL,hf.len,hm,hb,hn]
theorem FS [hf:Sz f sz]{t:Nat}(hm:m≠[])(hH:H[t]? = some (.tok l.length ty sz))(hb:(l.length+m.length)*bytes<=140737488355328)(hn:l.length+m.length<=140737488355328) :
  Bf ty sz bytes (.sl (enL f l) (.own t)) (.sl (enL f m) tk) H=some (.sl (enL f (l++m)) (.own t),H.set t (.tok (l.length+m.length) ty sz)):=by
 simp[Bf,Cw,enL,hf.len,hm,hb,hn,hH]
theorem M5 {x:Ab}(hx:(Cw sz x H).isSome=true):Bf ty sz bytes x (.sl [] tk) H=some (x,H):=by
 cases h:Cw sz x H with
 |none=>simp[h]at hx
 |some es=>simp only[Bf,h];simp[Cw]
def Fq (f:α->List Ab)(B:Aa):List α->Ab
 |[]=>.sl [] .ti
 |l=>.sl (enL f l) (.own B.length)
def ED (f:α->List Ab)(ty:TypeId)(sz:Nat)(B:Aa):List α->Aa
 |[]=>B
 |l=>B++[.tok l.length ty sz]
def VpK (B:Aa):List α->Tok
 |[]=>.ti
 |_=>.own B.length
theorem HO (B:Aa)(l:List α):Fq f B l=.sl (enL f l) (VpK B l):=by cases l <;> rfl
theorem JY (B:Aa)(l:List α):∃G,ED f ty sz B l=B++G:=by
 cases l with
 |nil=>exact⟨[],by simp[ED]⟩
 |cons a l=>exact⟨_,rfl⟩
theorem Hb [hf:Sz f sz]{B:Aa}(hm:m≠[])(hb:(l.length+m.length)*bytes<=140737488355328)(hn:l.length+m.length<=140737488355328) :
  Bf ty sz bytes (Fq f B l) (.sl (enL f m) tk) (ED f ty sz B l)=some (Fq f B (l++m),ED f ty sz B (l++m)):=by
 obtain⟨x,m',rfl⟩:∃x m',m=x::m':=by cases m with | nil=>exact absurd rfl hm | cons x m'=>exact⟨x,m',rfl⟩
 cases l with
 |nil=>have:=Eu (f:=f) (l:=[]) (ty:=ty) (tk:=tk) (H:=B) hm hb hn;simpa[Fq,ED,IY]using this
 |cons a l=>have:=FS (f:=f) (l:=a::l) (ty:=ty) (tk:=tk) (H:=B++[.tok (a::l).length ty sz]) (t:=B.length) hm (by simp) hb hn;simp only[Fq,ED,List.cons_append]at this ⊢;rw[this];simp;omega

end
end Go.Gm
