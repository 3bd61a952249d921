/- Texts of this proof, joined. -/
import Derived.Test.YtagddbecnkbcdaaGreatJ1
import Derived.Orders
import Derived.Laws.StructEq
import Derived.ChangeKeysEq
import Derived.WideKeyRuns
import Derived.KernelRfl
import Derived.Lib.Bytealg
import Derived.Shelf.GgClosure.StringsIndexFunc
set_option linter.unusedVariables false
set_option linter.unusedSimpArgs false
namespace Go.Gm
structure Ny (C:Cfg):Prop where
 eq:EqOk C
 map:MapOk C
 orc:G6 C.P C.G C.orc
section
variable {C:Cfg} {E:Env} {H:Aa} {w:World}
theorem call_run {ρ:Operand→Value} {o:Oper} {c:Call} {f:Operand} {g:FuncId} {vs:Array Value} (ho:o.op=.call c) (hc:c.callee=.value f) (hf:ρ f=.func (.func g) #[] vs):execOp ρ o=callFunc g (c.args.map ρ++vs):=by
 unfold execOp
 rw [ho]
 simp only [resolve,hc,Deferred.ofValue,hf,pure_bind,invoke]
 congr 1
 simp
theorem call_runB {ρ:Operand→Value} {o:Oper} {c:Call} {f:Operand} {g:FuncId} {vs:Array Value} (ho:o.op=.call c) (hc:c.callee=.value f) (hf:ρ f=.func (.func g) vs #[]):execOp ρ o=callFunc g (vs++c.args.map ρ):=by
 unfold execOp
 rw [ho]
 simp only [resolve,hc,Deferred.ofValue,hf,pure_bind,invoke]
 congr 1
theorem Rz (hC:Ny C) (hG:D9 C.G E) (hs:Sim E H w) {a:Act} {r:Operand→Ab} (hr:∀x,Ax E (r x) (a.eval x)) {o:Oper} {res:Res} {H':Aa} (h:Ft C o.op r H=some (res,H')) {next:Act→World→Prop} {Q:Exit→Act→World→Prop}
  (hn:∀E' w' v x,res=.ret x→Ax E' x v→Sim E' H' w'→BH E H w E' H' w'→next (a.put o.dst v) w')
  (hp:∀E' w' v x,res=.pan x→Ax E' x v→Sim E' H' w'→BH E H w E' H' w'→Q (.panic [{ v,recovered:=false }]) a w'):o.wp C.P a w next Q:=by
 unfold Oper.wp
 have skip:∀w',(execOp a.eval o).run C.P w=.ok .skip w'→res=.ret .undef→Sim E H' w'→BH E H w E H' w'→o.upon C.P a next Q ((execOp a.eval o).run C.P w):=by
  intro w' hrun hres h1 h2
  rw [hrun,Oper.upon_skip]
  exact hn E w' undef .undef hres (.undef _) h1 h2
 have value:∀v w' E' x,(execOp a.eval o).run C.P w=.ok (.value v) w'→res=.ret x→Ax E' x v→Sim E' H' w'→BH E H w E' H' w'→o.upon C.P a next Q ((execOp a.eval o).run C.P w):=by
  intro v w' E' x hrun hres hv h1 h2
  rw [hrun,Oper.upon_value]
  exact hn E' w' v x hres hv h1 h2
 cases hop:o.op with
 | store t x v=>
  simp only [hop,Ft]at h
  split at h
  ·cases h
  ·rename_i hk
   obtain ⟨_,hz,_⟩:=C7 (P:=C.P) (t:=t) (by simpa using hk)
   cases hst:Ag (Aq C.P t) (r x) (r v) H with
   | none=>simp [hst,AF]at h
   | some H1=>
    simp only [hst,AF,Option.map_some,Ve,Vv]at h
    obtain ⟨rfl,rfl⟩:=h
    obtain ⟨w',h1,h2,h3⟩:=store_ok hs hz (hr x) (hr v) hst
    exact skip w' (by simp [execOp,hop,Sem.run_bind,h1,Result.andThen]) rfl h2 h3
 | mapUpdate t m k x=>
  simp only [hop,Ft]at h
  split at h
  ·rename_i kt e hu
   split at h
   ·rename_i hk
    cases hst:DW (B6 C.P kt) (Aq C.P kt) (r m) (r k) (r x) H with
    | none=>simp [hst,AF]at h
    | some H1=>
     simp only [hst,AF,Option.map_some,Ve,Vv]at h
     obtain ⟨rfl,rfl⟩:=h
     obtain ⟨w',h1,h2,h3⟩:=hC.map.upd t kt e E H _ w _ _ _ _ _ _ hu hk hs (hr m) (hr k) (hr x) hst
     exact skip w' (by simp [execOp,hop,Sem.run_bind,h1,Result.andThen]) rfl h2 h3
   ·cases h
  ·cases h
 | insert t m k x=>
  simp only [hop,Ft]at h
  split at h
  ·rename_i kt e hu
   split at h
   ·rename_i hk
    cases hst:DW (B6 C.P kt) (Aq C.P kt) (r m) (r k) (r x) H with
    | none=>simp [hst,AF]at h
    | some H1=>
     simp only [hst,AF,Option.map_some,Ve,Vv]at h
     obtain ⟨rfl,rfl⟩:=h
     obtain ⟨w',h1,h2,h3⟩:=hC.map.upd t kt e E H _ w _ _ _ _ _ _ hu hk hs (hr m) (hr k) (hr x) hst
     exact skip w' (by simp [execOp,hop,Sem.run_bind,h1,Result.andThen]) rfl h2 h3
   ·cases h
  ·cases h
 | range t x=>
  simp only [hop,Ft]at h
  split at h
  ·rename_i hu
   cases hst:N2 (r x) H with
   | none=>simp [hst,BZ]at h
   | some p=>
    obtain ⟨z,H1⟩:=p
    simp only [hst,BZ,Option.map_some,Ve,Vv]at h
    obtain ⟨rfl,rfl⟩:=h
    obtain ⟨u,w',E',h1,h2,h3,h4⟩:=range_ok hs hu (hr x) hst
    exact value u w' E' z (by simp [execOp,hop,Sem.run_bind,h1,Result.andThen]) rfl h2 h3 h4
  ·cases h
 | next x isStr=>
  simp only [hop,Ft]at h
  split at h
  ·rename_i hstr
   cases hst:Ob (r x) H with
   | none=>simp [hst,BZ]at h
   | some p=>
    obtain ⟨z,H1⟩:=p
    simp only [hst,BZ,Option.map_some,Ve,Vv]at h
    obtain ⟨rfl,rfl⟩:=h
    obtain ⟨u,w',h1,h2,h3,h4⟩:=next_ok (ty:=o.type) (C:=C) hs (hr x) hst
    exact value u w' E z (by simp [execOp,hop,Sem.run_bind,hstr,h1,Result.andThen]) rfl h2 h3 h4
  ·cases h
 | panic x=>
  simp only [hop,Ft]at h
  split at h
  ·rename_i t y hx
   simp only [Ve,Vv]at h
   obtain ⟨rfl,rfl⟩:=h
   have hx':=hr x
   rw [hx]at hx'
   obtain ⟨u,hu,hv⟩:=hx'.iface_inv
   have hrun:(execOp a.eval o).run C.P w=.halt (.panic (.iface t u)) w:=by
    have h0:(Instr.panic (.iface t u)).run C.P w=.halt (.panic (.iface t u)) w:=rfl
    simp [execOp,hop,hu,Sem.run_bind,h0,Result.andThen]
   rw [hrun,Oper.upon_panic]
   exact hp E w _ _ rfl (.iface hv) hs (.refl _ _ _)
  ·cases h
 | call c=>
  simp only [hop,Ft]at h
  split at h
  ·rename_i hb
   split at h
   ·rename_i x y t ty ha ht
    have ha':=arr2 ha
    have ht':=arr2 ht
    split at h
    ·rename_i e e' hu hu'
     split at h
     ·cases h
     ·rename_i hk
      have hk1:okT C.P e=true:=by cases hq:okT C.P e <;> simp_all
      have hk2:t=ty:=by
       by_cases hq:t=ty
       ·exact hq
       ·exact absurd (.inr hq) hk
      subst hk2
      by_cases hmu:C.mu=true
      ·rw [if_pos hmu]at h
       cases hst:FG e (Aq C.P e) (Fs C.P e) (r x) (r y) H with
       | none=>simp [hst,BZ]at h
       | some p=>
        obtain ⟨z,H1⟩:=p
        simp only [hst,BZ,Option.map_some,Ve,Vv]at h
        obtain ⟨rfl,rfl⟩:=h
        have hno:∀s,r y≠.str s:=fun s h2=>by
         simp [FG,h2,BY]at hst
        obtain ⟨q,w',E',h1,h2,h3,h4⟩:=SZ (ty:=o.type) (u2:=t) hs hu hk1 (hr x) (hr y) (.inl ⟨rfl,hno⟩) (appendM_Y hno hst)
        refine value q w' E' z ?_ rfl h2 h3 h4
        rw [D0 hop hb,ha',ht',show (#[x,y]:Array Operand).map a.eval = #[a.eval x,a.eval y] from by simp]
        exact JR h1
      ·rw [if_neg hmu]at h
       cases hst:AW e (Aq C.P e) (Fs C.P e) (r x) (r y) H with
       | none=>simp [hst,BZ]at h
       | some p=>
        obtain ⟨z,H1⟩:=p
        simp only [hst,BZ,Option.map_some,Ve,Vv]at h
        obtain ⟨rfl,rfl⟩:=h
        have hno:∀q s,BY (Aq C.P e) q H≠none→q≠.str s:=fun q s h1 h2=>by subst h2;exact h1 rfl
        have hx1:BY (Aq C.P e) (r y) H≠none:=fun hq=>by simp [AW,hq]at hst
        have hx2:BY (Aq C.P e) (r x) H≠none:=fun hq=>by
         unfold AW at hst
         rw [hq]at hst
         cases hq1:BY (Aq C.P e) (r y) H <;> simp [hq1]at hst
        obtain ⟨q,w',E',h1,h2,h3,h4⟩:=append_ok (ty:=o.type) hs hu hk1 (hr x) (hr y) (fun s=>hno _ s hx2) (fun s=>hno _ s hx1) hst
        refine value q w' E' z ?_ rfl h2 h3 h4
        rw [D0 hop hb,ha',ht',show (#[x,y]:Array Operand).map a.eval = #[a.eval x,a.eval y] from by simp]
        exact JR h1
    ·rename_i e hu hu'
     split at h
     ·cases h
     ·rename_i hk
      have hk1:okT C.P e=true:=by cases hq:okT C.P e <;> simp_all
      cases hst:appendS e (Aq C.P e) (Fs C.P e) (r x) (r y) H with
      | none=>simp [hst,BZ]at h
      | some p=>
       obtain ⟨z,H1⟩:=p
       simp only [hst,BZ,Option.map_some,Ve,Vv]at h
       obtain ⟨rfl,rfl⟩:=h
       obtain ⟨s,hs',hst'⟩:=appendS_str hst
       obtain ⟨q,w',E',h1,h2,h3,h4⟩:=SZ (ty:=o.type) (u2:=ty) hs hu hk1 (hr x) (hr y) (.inr ⟨hu',s,hs'⟩) hst'
       refine value q w' E' z ?_ rfl h2 h3 h4
       rw [D0 hop hb,ha',ht',show (#[x,y]:Array Operand).map a.eval = #[a.eval x,a.eval y] from by simp]
       exact JR h1
    ·cases h
   ·cases h
  ·rename_i hb
   split at h
   ·rename_i x t ha ht
    have ha':=arr1 ha
    have ht':=arr1 ht
    split at h
    ·rename_i e hu
     split at h
     ·cases h
     ·rename_i hk
      cases hst:Kx (Aq C.P e) (GB C.P e) (r x) H with
      | none=>simp [hst,AF]at h
      | some H1=>
       simp only [hst,AF,Option.map_some,Ve,Vv]at h
       obtain ⟨rfl,rfl⟩:=h
       obtain ⟨w',h1,h2,h3⟩:=clear_ok (ty:=o.type) hs hu (by simpa using hk) (hr x) hst
       refine value (.tuple #[]) w' E .undef ?_ rfl (.undef _) h2 h3
       rw [D0 hop hb,ha',ht',show (#[x]:Array Operand).map a.eval = #[a.eval x] from by simp]
       exact JR h1
    ·cases h
   ·cases h
  ·rename_i f hf
   split at h
   ·rename_i g caps hg
    have hf':=hr f
    rw [hg]at hf'
    generalize hfe:a.eval f=fv at hf'
    cases hf' with
    | fn hn' hv'=>
     rename_i vs
     have hrun:=call_run (ρ:=a.eval) hop hf (g:=g) (vs:=vs) hfe
     have hargs:A4 E (c.args.toList.map r++caps) (c.args.map a.eval++vs).toList:=by
      rw [WM,Xs]
      exact A4.append (A4.map _ _ _ fun x _=>hr x) ⟨by simpa using hn',fun i c v h1 h2=>hv' i c v h1 (by simpa using h2)⟩
     rw [hrun]
     rcases hC.orc g _ H res H' h E w _ hG hs hargs with ⟨h1,h2⟩ | ⟨v,w',h1,E',h2,h3,h4⟩
     ·rw [h1,Oper.upon_enter]
      refine h2.mono fun e w' hh=>?_
      obtain ⟨E',h3,h4,h5⟩:=hh
      cases e with
      | returned v=>
       cases res with
       | ret x=>exact hn E' w' v x rfl h3 h4 h5
       | pan x=>exact h3.elim
      | panicked chain=>
       cases res with
       | ret x=>exact h3.elim
       | pan x=>
        obtain ⟨v,rfl,hv⟩:=h3
        exact hp E' w' v x rfl hv h4 h5
      | outgrown=>cases res <;> exact h3.elim
     ·rw [h1,Oper.upon_value]
      cases res with
      | ret x=>exact hn E' w' v x rfl h2 h3 h4
      | pan x=>exact h2.elim
   ·rename_i g first hg
    have hf':=hr f
    rw [hg]at hf'
    generalize hfe:a.eval f=fv at hf'
    cases hf' with
    | bfn hn' hv'=>
     rename_i vs
     have hrun:=call_runB (ρ:=a.eval) hop hf (g:=g) (vs:=vs) hfe
     have hargs:A4 E (first++c.args.toList.map r) (vs++c.args.map a.eval).toList:=by
      rw [WM,Xs]
      exact A4.append ⟨by simpa using hn',fun i c v h1 h2=>hv' i c v h1 (by simpa using h2)⟩ (A4.map _ _ _ fun x _=>hr x)
     rw [hrun]
     rcases hC.orc g _ H res H' h E w _ hG hs hargs with ⟨h1,h2⟩ | ⟨v,w',h1,E',h2,h3,h4⟩
     ·rw [h1,Oper.upon_enter]
      refine h2.mono fun e w' hh=>?_
      obtain ⟨E',h3,h4,h5⟩:=hh
      cases e with
      | returned v=>
       cases res with
       | ret x=>exact hn E' w' v x rfl h3 h4 h5
       | pan x=>exact h3.elim
      | panicked chain=>
       cases res with
       | ret x=>exact h3.elim
       | pan x=>
        obtain ⟨v,rfl,hv⟩:=h3
        exact hp E' w' v x rfl hv h4 h5
      | outgrown=>cases res <;> exact h3.elim
     ·rw [h1,Oper.upon_value]
      cases res with
      | ret x=>exact hn E' w' v x rfl h2 h3 h4
      | pan x=>exact h2.elim
   ·cases h
  ·cases h
 | _=>simp [hop,Ft]at h

end
structure HE (n:Nat) (E:Env) (H:Aa) (tm:List Ab) (a:Act) (w:World):Prop where
 rel:A4 E tm a.tmps.toList
 len:tm.length=n
 defers:a.defers=[]
 sim:Sim E H w
section
variable {C:Cfg} {E:Env} {H:Aa} {w:World}
theorem J8 {tm:List Ab} {ts:Array Value} (h:A4 E tm ts.toList) (t:Nat):Ax E (tm.getD t .undef) (ts.getD t undef):=by
 rw [UZ]
 cases ht:tm[t]? with
 | none=>exact .undef _
 | some x=>
  obtain ⟨v,h1,h2⟩:=h.get ht
  have:ts.getD t undef=v:=by
   have h1':ts[t]? = some v:=by simpa using h1
   simp [Vq,h1']
  rw [this];exact h2
theorem NQ (hG:D9 C.G E) {tm:List Ab} {a:Act} (h:A4 E tm a.tmps.toList) (x:Operand):Ax E (rho C.G tm x) (a.eval x):=by
 cases x with
 | tmp t=>exact J8 h t
 | const v=>exact absV_rel E v
 | global g=>
  simp only [rho,Act.eval]
  cases hg:C.G g with
  | none=>exact .undef _
  | some cs=>exact hG g cs hg
 | func f=>exact .fn rfl fun i c v h=>by simp at h
theorem put_rel {tm:List Ab} {a:Act} (h:A4 E tm a.tmps.toList) {x:Ab} {v:Value} (hv:Ax E x v) (d:Option Tmp):A4 E (G9 tm d x) (a.put d v).tmps.toList:=by
 cases d with
 | none=>exact h
 | some d=>
  simp only [G9,Act.put,Array.toList_setIfInBounds]
  exact h.set d hv
theorem RD (a:Act) (d:Option Tmp) (v:Value):(a.put d v).defers=a.defers:=by cases d <;> rfl
theorem HE.put {tm:List Ab} {a:Act} {n:Nat} (h:HE n E H tm a w) {E':Env} {H':Aa} {w':World} (hle:E.le E') (hs:Sim E' H' w') {x:Ab} {v:Value} (hv:Ax E' x v) (d:Option Tmp):HE n E' H' (G9 tm d x) (a.put d v) w':=
 ⟨put_rel (h.rel.mono hle) hv d,by cases d <;> simp [G9,h.len],by rw [RD];exact h.defers,hs⟩
theorem NO:Ax E Ce undef:=.tup (by simp) fun i c v h=>by simp at h
theorem NL {tm:List Ab} {a:Act} (h:A4 E tm a.tmps.toList) {ops:Array Oper} {o:Oper} {b:Bool} (hw:If ops o tm=some b):Region.wanted o (yielded ops a.tmps)=b:=by
 unfold If at hw
 unfold Region.wanted
 cases hg:o.guard with
 | none=>simp [hg]at hw;simp [hw]
 | some p=>
  obtain ⟨j,want⟩:=p
  simp only [hg]at hw
  split at hw
  ·rename_i b' hb'
   injection hw with hw;subst hw
   cases hd:(ops[j]?).bind (·.dst)with
   | none=>simp [hd]at hb'
   | some d=>
    simp only [hd,Option.map_some,Ve]at hb'
    have hr:=J8 h d
    rw [hb']at hr
    have hv:=hr.bool_inv
    have hlt:d<a.tmps.size:=by
     rcases VH d a.tmps.size with hlt | hge
     ·exact hlt
     ·rw [Vq,XN hge]at hv
      cases hv
    have hget:a.tmps[d]? = some (.bool b'):=by
     rw [Vq,Xc hlt]at hv
     rw [Xc hlt]
     simpa using hv
    simp only [yielded,hd,Option.bind_some,hget]
    cases b' <;> cases want <;> rfl
  ·rename_i hb'
   injection hw with hw;subst hw
   cases hd:(ops[j]?).bind (·.dst)with
   | none=>simp [hd]at hb'
   | some d=>
    simp only [hd,Option.map_some,Ve]at hb'
    have hr:=J8 h d
    rw [hb']at hr
    obtain ⟨vs,hv,_⟩:=hr.tup_cells
    have hy:yielded ops a.tmps j=none:=by
     unfold yielded
     rw [hd]
     simp only [Option.bind_some]
     cases hget:a.tmps[d]? with
     | none=>rfl
     | some u=>
      have:u=.tuple vs:=by
       rw [Vq,hget]at hv
       simpa using hv
      subst this;rfl
    simp only [hy];rfl
  ·cases hw
def KOk (C:Cfg) (n:Nat) (E0:Env) (H0:Aa) (w0:World) (out:Res×Aa) (k:List Ab→Aa→Out) (Q:Act→World→Prop):Prop:=
 ∀E tm H a w,D9 C.G E→BH E0 H0 w0 E H w→HE n E H tm a w→k tm H=some out→Q a w
def KPOk (C:Cfg) (n:Nat) (E0:Env) (H0:Aa) (w0:World) (out:Res×Aa) (k:Ab→List Ab→Aa→Out) (Q:Exit→Act→World→Prop):Prop:=
 ∀E tm H a w x v,D9 C.G E→BH E0 H0 w0 E H w→HE n E H tm a w→Ax E x v→k x tm H=some out→Q (.panic [{ v,recovered:=false }]) a w
theorem evOps_wp (hC:Ny C) {n:Nat} {E0:Env} {H0:Aa} {w0:World} {out:Res×Aa} {ops:Array Oper} {k:List Ab→Aa→Out} {kp:Ab→List Ab→Aa→Out} {Q:Exit→Act→World→Prop}
  (hk:KOk C n E0 H0 w0 out k (Q .normal)) (hkp:KPOk C n E0 H0 w0 out kp Q) :
  ∀(os:List Oper) (i:Nat) (E:Env) (tm:List Ab) (H:Aa) (a:Act) (w:World),(∀j,j<os.length→ops[i+j]? = os[j]?)→D9 C.G E→BH E0 H0 w0 E H w→HE n E H tm a w→O3 C ops os k kp tm H=some out →
   wpOps C.P ops Q (List.range' i os.length) a w
 | [],i,E,tm,H,a,w,_,hG,st,hf,h=>hk E tm H a w hG st hf h
 | o::os,i,E,tm,H,a,w,ho,hG,st,hf,h=>by
  rw [List.length_cons,List.range'_succ,wpOps_cons]
  have hi:ops[i]? = some o:=by have:=ho 0 (by simp);simpa using this
  have ho':∀j,j<os.length→ops[i+1+j]? = os[j]? := fun j hj=>by
   have:=ho (j+1) (by simp;omega)
   rw [show i+1+j=i+(j+1) from by omega,this];rfl
  have ih:=evOps_wp (ops:=ops) hC hk hkp os (i+1)
  unfold wpOp
  simp only [hi]
  simp only [O3]at h
  cases hw:If ops o tm with
  | none=>simp [hw]at h
  | some b=>
   simp only [hw,Option.bind_some]at h
   rw [NL hf.rel hw]
   have hr:=NQ (C:=C) hG hf.rel
   cases b with
   | false=>
    simp only [Vd,if_false]
    have hput:=hf.put (.refl E) hf.sim (x:=Ce) (v:=undef) NO o.dst
    cases hc:cls o.op <;> simp only [hc,gR,gA,gE,Vd,if_false,Option.bind_some,Am,HD]at h <;> exact ih E _ H _ w ho' hG st hput h
   | true=>
    simp only [if_true]
    refine .inl ?_
    cases hc:cls o.op with
    | r=>
     simp only [hc,gR,if_true]at h
     cases hst:BC C o.op (rho C.G tm) H with
     | none=>simp [hst]at h
     | some z=>
      simp only [hst,Option.bind_some]at h
      obtain ⟨v,w',E',h1,h2,h3,h4⟩:=stepR_ok hC.eq hC.map hf.sim hr (fun _=>rfl) hst
      unfold Oper.wp
      rw [h1,Oper.upon_value]
      exact ih E' _ H _ w' ho' (hG.mono h4.le) (st.trans h4) (hf.put h4.le h3 h2 o.dst) h
    | a=>
     simp only [hc,gA,if_true]at h
     cases hst:C9 C o.op (rho C.G tm) H with
     | none=>simp [hst,Am]at h
     | some p=>
      obtain ⟨z,H'⟩:=p
      simp only [hst,Am,Option.bind_some]at h
      obtain ⟨B,v,ob,f,rfl,hz,_,h1,h2,h3⟩:=(stepA_ok hf.sim hr hst).ex
      obtain ⟨l1,l2⟩:=hf.sim.laid ob
      obtain ⟨t1,t2⟩:=h2.take l1 l2 (Va _)
      have g2:=h3 (E.setφ H.length 0 w.heap.size) H.length (by simp [Env.setφ])
      rw [←hz]at g2
      unfold Oper.wp
      rw [h1,Oper.upon_value]
      exact ih _ _ _ _ _ ho' (hG.mono t2.le) (st.trans t2) (hf.put t2.le t1 g2 o.dst) h
    | e=>
     simp only [hc,gE,if_true]at h
     cases hst:Ft C o.op (rho C.G tm) H with
     | none=>simp [hst,HD]at h
     | some p=>
      obtain ⟨res,H'⟩:=p
      simp only [hst,HD,Option.bind_some]at h
      refine Rz hC hG hf.sim hr hst (fun E' w' v x hres hv h1 h2=>?_) (fun E' w' v x hres hv h1 h2=>?_)
      ·subst hres
       exact ih E' _ H' _ w' ho' (hG.mono h2.le) (st.trans h2) (hf.put h2.le h1 hv o.dst) h
      ·subst hres
       exact hkp E' tm H' a w' x v (hG.mono h2.le) (st.trans h2) ⟨hf.rel.mono h2.le,hf.len,hf.defers,h1⟩ hv h

end
def XRel (E:Env):AExit→Exit→Prop
 | .normal,.normal=>True
 | .exit i,.exit j=>i=j
 | .ret,.ret=>True
 | .pan x,.panic chain=>∃v,chain=[{ v,recovered:=false }]∧Ax E x v
 | _,_=>False
def Th (C:Cfg) (n:Nat) (E0:Env) (H0:Aa) (w0:World) (out:Res×Aa) (K:QK) (e:Exit) (a:Act) (w:World):Prop:=
 ∃E H tm x,D9 C.G E∧BH E0 H0 w0 E H w∧HE n E H tm a w∧XRel E x e∧K x tm H=some out
section
variable {C:Cfg} {n:Nat} {E0:Env} {H0:Aa} {w0:World} {out:Res×Aa}
theorem Th.mk {K:QK} {E:Env} {H:Aa} {tm:List Ab} {a:Act} {w:World} {x:AExit} {e:Exit} (hG:D9 C.G E) (st:BH E0 H0 w0 E H w) (hf:HE n E H tm a w) (hx:XRel E x e) (h:K x tm H=some out):Th C n E0 H0 w0 out K e a w:=
 ⟨E,H,tm,x,hG,st,hf,hx,h⟩
theorem projT_get (L:List Nat) (tm:List Ab) (n i:Nat):(NR n L (Ik L tm)).getD i .undef=.undef∨(NR n L (Ik L tm)).getD i .undef=tm.getD i .undef:=by
 unfold NR Ik
 rw [UZ,V0]
 by_cases hi:i<n
 ·rw [Wh hi]
  simp only [Option.map_some,Option.getD_some]
  cases hL:L.idxOf? i with
  | none=>exact .inl rfl
  | some j=>
   right
   simp only []
   have hj:L[j]? = some i:=by
    have:=List.idxOf?_eq_some_iff.1 hL
    obtain ⟨h1,h2,_⟩:=this
    rw [UU h1]
    simpa using h2
   rw [UZ,V0,hj]
   simp
 ·rw [Vl (by simp;omega)]
  exact .inl rfl
theorem reb_rel {E:Env} {tm:List Ab} {ts:List Value} (h:A4 E tm ts) (L:List Nat) (n:Nat) (hn:tm.length=n):A4 E (NR n L (Ik L tm)) ts:=by
 have hl:(NR n L (Ik L tm)).length=n:=by simp [NR]
 refine ⟨by rw [hl,←hn];exact h.1,fun i c v h1 h2=>?_⟩
 have hc:c=(NR n L (Ik L tm)).getD i .undef:=by rw [UZ,h1];rfl
 rcases projT_get L tm n i with h3 | h3
 ·rw [hc,h3];exact .undef _
 ·rw [hc,h3]
  have hi:i<tm.length:=by have:=(UV.1 h1).1;omega
  rw [UZ,UU hi]
  exact h.2 i _ v (UU hi) h2
def DrawOk (C:Cfg):Prop:=
 ∀(n:Nat) (E0:Env) (H0:Aa) (w0:World) (out:Res×Aa) (ops:Array Oper) (perm:List Nat) (k:List Ab→Aa→Out) (kp:Ab→List Ab→Aa→Out) (Q:Exit→Act→World→Prop) (id:Nat) (E:Env) (tm:List Ab) (H:Aa) (a:Act) (w:World),
  KOk C n E0 H0 w0 out k (Q .normal)→KPOk C n E0 H0 w0 out kp Q→N5 ops perm=true→D9 C.G E→BH E0 H0 w0 E H w→HE n E H tm a w →
  GM C ops (fun i j=>((Region.before ops).getD j 0).testBit i) k kp perm [] H H tm=some out→(Code.region id ops true).wp C.P Q a w
theorem evOps_region (hC:Ny C) {ops:Array Oper} {k:List Ab→Aa→Out} {kp:Ab→List Ab→Aa→Out} {Q:Exit→Act→World→Prop} {id:Nat} {E:Env} {tm:List Ab} {H:Aa} {a:Act} {w:World}
  (hk:KOk C n E0 H0 w0 out k (Q .normal)) (hkp:KPOk C n E0 H0 w0 out kp Q) (hG:D9 C.G E) (st:BH E0 H0 w0 E H w) (hf:HE n E H tm a w) (h:O3 C ops ops.toList k kp tm H=some out):(Code.region id ops false).wp C.P Q a w:=by
 refine wp_region ?_
 have:=evOps_wp (Q:=Q) hC hk hkp ops.toList 0 E tm H a w (fun j hj=>by simp) hG st hf h
 rw [List.range_eq_range']
 simpa using this
theorem wp_loop_fuel {c:Code} {P:Program} {Q:Exit→Act→World→Prop} (J:Nat→Act→World→Prop) (h0:∀a w,¬J 0 a w) (step:∀n a w,J (n+1) a w→c.wp P (Exit.then (J n) Q) a w) :
  ∀(m:Nat) (a:Act) (w:World),J m a w→(Code.loop c).wp P Q a w:=by
 intro m a w hJ b k cs
 have key:∀n a w,J n a w→∃e a' w',Q e a' w'∧Arrives P (lone (b.at a (.code c::.inLoop c::k)) cs w) b k cs e a' w':=by
  intro n
  induction n with
  | zero=>intro a w h;exact absurd h (h0 a w)
  | succ n ih=>
   intro a w h
   obtain ⟨e,a₁,w₁,hq,harr⟩:=step n a w h b (.inLoop c::k) cs
   cases e with
   | normal=>
    obtain ⟨e₂,a₂,w₂,hq₂,harr₂⟩:=ih a₁ w₁ hq
    exact ⟨e₂,a₂,w₂,hq₂,.of_steps (Steps.trans harr (.one step_inLoop)) harr₂⟩
   | exit id=>exact ⟨_,a₁,w₁,hq,.pass (x:=.inLoop c) rfl (fun _ _=>.inl (by simp)) harr⟩
   | goto l=>exact ⟨_,a₁,w₁,hq,.pass (x:=.inLoop c) rfl (fun _ _=>.inl (by simp)) harr⟩
   | ret=>exact ⟨_,a₁,w₁,hq,.pass (x:=.inLoop c) rfl (fun _ _=>.inl (by simp)) harr⟩
   | panic ch=>exact ⟨_,a₁,w₁,hq,.pass (x:=.inLoop c) rfl (fun _ _=>.inl (by simp)) harr⟩
   | outgrown=>exact ⟨_,a₁,w₁,hq,.pass (x:=.inLoop c) rfl (fun _ _=>.inl (by simp)) harr⟩
 obtain ⟨e,a',w',hq,harr⟩:=key m a w hJ
 exact ⟨e,a',w',hq,.of_steps (.one step_loop) harr⟩
theorem Po {k:List Ab→Aa→Out} {K:QK} {N:Act→World→Prop} (hN:∀E H tm a w,D9 C.G E→BH E0 H0 w0 E H w→HE n E H tm a w→k tm H=some out→N a w) :
  ∀e a w,Th C n E0 H0 w0 out (kseq k K) e a w→Exit.then N (Th C n E0 H0 w0 out K) e a w:=by
 rintro e a w ⟨E,H,tm,x,hG,st,hf,hx,h⟩
 cases x <;> cases e <;> first | exact hx.elim | skip
 ·exact hN E H tm a w hG st hf h
 ·exact ⟨E,H,tm,_,hG,st,hf,hx,h⟩
 ·exact ⟨E,H,tm,_,hG,st,hf,hx,h⟩
 ·exact ⟨E,H,tm,_,hG,st,hf,hx,h⟩
theorem reb_frel {E:Env} {H:Aa} {tm:List Ab} {a:Act} {w:World} (hf:HE n E H tm a w) (L:List Nat):HE n E H (NR n L (Ik L tm)) a w:=
 ⟨reb_rel hf.rel L n hf.len,by simp [NR],hf.defers,hf.sim⟩
theorem S2 (hC:Ny C) (hD:DrawOk C):∀(c:Code) (ann:Ann) (K:QK) (E:Env) (tm:List Ab) (H:Aa) (a:Act) (w:World),D9 C.G E→BH E0 H0 w0 E H w→HE n E H tm a w →
  evC C n c ann K tm H=some out→c.wp C.P (Th C n E0 H0 w0 out K) a w:=by
 intro c
 induction c with
 | skip=>intro ann K E tm H a w hG st hf h;exact wp_skip (.mk hG st hf (x:=.normal) trivial (by simpa only [evC]using h))
 | label l=>intro ann K E tm H a w hG st hf h;exact wp_label (.mk hG st hf (x:=.normal) trivial (by simpa only [evC]using h))
 | ret=>intro ann K E tm H a w hG st hf h;exact wp_ret (.mk hG st hf (x:=.ret) trivial (by simpa only [evC]using h))
 | exit id=>intro ann K E tm H a w hG st hf h;exact wp_exit (.mk hG st hf (x:=.exit id) rfl (by simpa only [evC]using h))
 | region id ops draw=>
  intro ann K E tm H a w hG st hf h
  have hk:KOk C n E0 H0 w0 out (fun tm H=>K .normal tm H) (Th C n E0 H0 w0 out K .normal):=fun E tm H a w hG st hf h=>.mk hG st hf (x:=.normal) trivial h
  have hkp:KPOk C n E0 H0 w0 out (fun v tm H=>K (.pan v) tm H) (Th C n E0 H0 w0 out K):=fun E tm H a w x v hG st hf hv h=>.mk hG st hf (x:=.pan x) ⟨v,rfl,hv⟩ h
  cases draw with
  | false=>exact evOps_region hC hk hkp hG st hf (by simpa only [evC]using h)
  | true=>
   cases ann with
   | reg perm=>
    simp only [evC]at h
    split at h
    ·rename_i hok
     exact hD n E0 H0 w0 out ops perm _ _ _ id E tm H a w hk hkp hok hG st hf h
    ·cases h
   | _=>simp [evC]at h
 | seq x y ihx ihy=>
  intro ann K E tm H a w hG st hf h
  cases ann with
  | tw p q=>
   simp only [evC]at h
   refine wp_seq (wp_mono (ihx p _ E tm H a w hG st hf h) (Po fun E H tm a w hG st hf h=>ihy q K E tm H a w hG st hf h))
  | join L p q=>
   simp only [evC,AN]at h
   refine wp_seq (wp_mono (ihx p _ E tm H a w hG st hf h) (Po fun E H tm a w hG st hf h=>ihy q K E _ H a w hG st (reb_frel hf L) h))
  | _=>simp [evC]at h
 | cond c x y ihx ihy=>
  intro ann K E tm H a w hG st hf h
  cases ann with
  | tw p q=>
   simp only [evC]at h
   unfold Aj at h
   split at h
   ·rename_i t ht
    have hr:=NQ (C:=C) hG hf.rel c
    rw [ht]at hr
    have hc:=hr.bool_inv
    cases t with
    | true=>exact wp_cond hc (ihx p K E tm H a w hG st hf (by simpa using h))
    | false=>exact wp_cond hc (ihy q K E tm H a w hG st hf (by simpa using h))
   ·rename_i ht
    have hr:=NQ (C:=C) hG hf.rel c
    rw [ht]at hr
    obtain ⟨t,hc⟩:∃t,a.eval c=.bool t:=by
     generalize a.eval c=u at hr
     cases hr;exact ⟨_,rfl⟩
    split at h
    ·rename_i heq
     cases t with
     | true=>exact wp_cond hc (ihx p K E tm H a w hG st hf h)
     | false=>exact wp_cond hc (ihy q K E tm H a w hG st hf (by rw [←heq];exact h))
    ·cases h
   ·cases h
  | _=>simp [evC]at h
 | block id x ih=>
  intro ann K E tm H a w hG st hf h
  cases ann with
  | one p=>
   simp only [evC]at h
   refine wp_block (wp_mono (ih p _ E tm H a w hG st hf h) ?_)
   rintro e a w ⟨E,H,tm,x,hG,st,hf,hx,h⟩
   cases x <;> cases e <;> first | exact hx.elim | skip
   ·exact ⟨E,H,tm,.normal,hG,st,hf,trivial,h⟩
   ·rename_i i j
    have hx':i=j:=hx
    subst hx'
    simp only [kblock]at h
    simp only [Exit.inBlock]
    split
    ·rename_i hid;rw [if_pos hid]at h;exact ⟨E,H,tm,.normal,hG,st,hf,trivial,h⟩
    ·rename_i hid;rw [if_neg hid]at h;exact ⟨E,H,tm,.exit i,hG,st,hf,rfl,h⟩
   ·exact ⟨E,H,tm,.ret,hG,st,hf,trivial,h⟩
   ·exact ⟨E,H,tm,_,hG,st,hf,hx,h⟩
  | _=>simp [evC]at h
 | loop x ih=>
  intro ann K E tm H a w hG st hf h
  cases ann with
  | loop L p=>
   simp only [evC]at h
   let G:=fun (rec:List Ab→Aa→Out) (vs:List Ab) (H:Aa)=>evC C n x p (kseq (fun tm H=>rec (Ik L tm) H) K) (NR n L vs) H
   refine wp_loop_fuel (fun m a w=>∃E tm H,D9 C.G E∧BH E0 H0 w0 E H w∧HE n E H tm a w∧Ao G m (Ik L tm) H=some out) ?_ ?_ AQ a w ⟨E,tm,H,hG,st,hf,h⟩
   ·rintro a w ⟨E,tm,H,_,_,_,h⟩
    simp [Ao]at h
   ·rintro m a w ⟨E,tm,H,hG,st,hf,h⟩
    simp only [Ao,G]at h
    exact wp_mono (ih p _ E _ H a w hG st (reb_frel hf L) h) (Po fun E H tm a w hG st hf h=>⟨E,tm,H,hG,st,hf,h⟩)
  | _=>simp [evC]at h
 | _=>intro ann K E tm H a w hG st hf h;cases ann <;> simp [evC]at h

end
inductive RL (n:Nat):Ab→Prop
 | undef:RL n .undef
 | bool (b:Bool):RL n (.bool b)
 | ubool:RL n .ubool
 | int (k:IntKind) (i:Int):RL n (.int k i)
 | str (s:List UInt8):RL n (.str s)
 | nilp:RL n .nilp
 | ptr {id g off:Nat} (h:id<n):RL n (.ptr id g off)
 | cptr {cells:List Ab} {off:Nat} (h:∀(i:Nat) (c:Ab),cells[i]? = some c→RL n c):RL n (.cptr cells off)
 | sl {es:List (List Ab)} {tk:Tok} (ht:∀t,tk=.own t→t<n) (h:∀(i:Nat) (e:List Ab) (j:Nat) (c:Ab),es[i]? = some e→e[j]? = some c→RL n c):RL n (.sl es tk)
 | ms {id g off len cap sz:Nat} {ex:Bool} (h:id<n):RL n (.ms id g off len cap sz ex)
 | fn {f:FuncId} {caps:List Ab} (h:∀(i:Nat) (c:Ab),caps[i]? = some c→RL n c):RL n (.fn f caps)
 | bfn {f:FuncId} {first:List Ab} (h:∀(i:Nat) (c:Ab),first[i]? = some c→RL n c):RL n (.bfn f first)
 | nilfn:RL n .nilfn
 | mp {id:Nat} (h:id<n):RL n (.mp id)
 | nilmap:RL n .nilmap
 | iface {t:TypeId} {x:Ab} (h:RL n x):RL n (.iface t x)
 | nilif:RL n .nilif
 | agg {cs:List Ab} (h:∀(i:Nat) (c:Ab),cs[i]? = some c→RL n c):RL n (.agg cs)
 | tup {cs:List Ab} (h:∀(i:Nat) (c:Ab),cs[i]? = some c→RL n c):RL n (.tup cs)
theorem G5 {α β:Type} {xs:List α} {vs:Array β} (h:xs.length=vs.size) {i:Nat} {c:α} (hc:xs[i]? = some c):∃v,vs[i]? = some v:=by
 have:i<xs.length:=(UV.1 hc).1
 exact ⟨vs[i]'(by omega),by simp [show i<vs.size from by omega]⟩
theorem Ax.rl {E:Env} {n:Nat} (hd:∀id g b,E.φ id g=some b→id<n) {x:Ab} {v:Value} (h:Ax E x v):RL n x:=by
 induction h with
 | undef v=>exact .undef
 | bool b=>exact .bool b
 | ubool b=>exact .ubool
 | int k i=>exact .int k i
 | str s=>exact .str s
 | nilp=>exact .nilp
 | ptr h=>exact .ptr (hd _ _ _ h)
 | cptr f hI hm hv ih=>exact .cptr ih
 | sl0 ht ha=>
  refine .sl (fun t e=>?_) (fun i e j c h=>by simp at h)
  subst e
  obtain ⟨b,h1,_⟩:=ht
  exact hd _ _ _ h1
 | sl f hl hI hm hv hc ht ih=>
  refine .sl (fun t e=>?_) ih
  subst e
  obtain ⟨b,h1,_⟩:=ht
  exact hd _ _ _ h1
 | ms h _ _ _ _=>exact .ms (hd _ _ _ h)
 | fn hn hv ih=>exact .fn fun i c hc=>by obtain ⟨v,hv'⟩:=G5 hn hc;exact ih i c v hc hv'
 | bfn hn hv ih=>exact .bfn fun i c hc=>by obtain ⟨v,hv'⟩:=G5 hn hc;exact ih i c v hc hv'
 | nilfn=>exact .nilfn
 | mp h=>exact .mp (hd _ _ _ h)
 | nilmap=>exact .nilmap
 | iface _ ih=>exact .iface ih
 | nilif=>exact .nilif
 | agg hn hv ih=>exact .agg fun i c hc=>by obtain ⟨v,hv'⟩:=G5 hn hc;exact ih i c v hc hv'
 | tup hn hv ih=>exact .tup fun i c hc=>by obtain ⟨v,hv'⟩:=G5 hn hc;exact ih i c v hc hv'
theorem Ax.cut {E E':Env} {n:Nat} (hφ:∀id g b,id<n→E.φ id g=some b→E'.φ id g=some b) (hκ:∀id g b,id<n→E.κ id g=some b→E'.κ id g=some b) (hI:∀b o v,E.I b o=some v→E'.I b o=some v)
  {x:Ab} {v:Value} (h:Ax E x v):RL n x→Ax E' x v:=by
 induction h with
 | undef v=>exact fun _=>.undef v
 | bool b=>exact fun _=>.bool b
 | ubool b=>exact fun _=>.ubool b
 | int k i=>exact fun _=>.int k i
 | str s=>exact fun _=>.str s
 | nilp=>exact fun _=>.nilp
 | ptr h=>intro r;cases r with | ptr hl=>exact .ptr (hφ _ _ _ hl h)
 | cptr f hI' hm hv ih=>intro r;cases r with | cptr hl=>exact .cptr f (fun i hi=>hI _ _ _ (hI' i hi)) hm (fun i c hc=>ih i c hc (hl i c hc))
 | sl0 ht ha=>
  intro r
  rename_i tk a cap
  cases r with
  | sl hl _=>
   refine .sl0 ?_ ha
   cases tk with
   | no=>trivial
   | tight=>exact ht
   | own t=>obtain ⟨b,h1,h2,h3⟩:=ht;exact ⟨b,hφ _ _ _ (hl t rfl) h1,hκ _ _ _ (hl t rfl) h2,h3⟩
 | sl f hl hI' hm hv hc ht ih=>
  intro r
  rename_i es tk b o s cap
  cases r with
  | sl hlt hr=>
   refine .sl f hl (fun i j hi hj=>hI _ _ _ (hI' i j hi hj)) hm (fun i e j c h1 h2=>ih i e j c h1 h2 (hr i e j c h1 h2)) hc ?_
   cases tk with
   | no=>trivial
   | tight=>exact ht
   | own t=>obtain ⟨b,h1,h2,h3⟩:=ht;exact ⟨b,hφ _ _ _ (hlt t rfl) h1,hκ _ _ _ (hlt t rfl) h2,h3⟩
 | ms h hc hl he ho hk=>intro r;cases r with | ms hl'=>exact .ms (hφ _ _ _ hl' h) hc hl he ho (fun a b=>⟨hκ _ _ _ hl' (hk a b).1,(hk a b).2⟩)
 | fn hn hv ih=>intro r;cases r with | fn hl=>exact .fn hn fun i c v h1 h2=>ih i c v h1 h2 (hl i c h1)
 | bfn hn hv ih=>intro r;cases r with | bfn hl=>exact .bfn hn fun i c v h1 h2=>ih i c v h1 h2 (hl i c h1)
 | nilfn=>exact fun _=>.nilfn
 | mp h=>intro r;cases r with | mp hl=>exact .mp (hφ _ _ _ hl h)
 | nilmap=>exact fun _=>.nilmap
 | iface _ ih=>intro r;cases r with | iface hl=>exact .iface (ih hl)
 | nilif=>exact fun _=>.nilif
 | agg hn hv ih=>intro r;cases r with | agg hl=>exact .agg hn fun i c v h1 h2=>ih i c v h1 h2 (hl i c h1)
 | tup hn hv ih=>intro r;cases r with | tup hl=>exact .tup hn fun i c v h1 h2=>ih i c v h1 h2 (hl i c h1)
section
variable {C:Cfg}
open Classical in
noncomputable def Env.cut (E:Env) (H:Aa) (w:World) (n:Nat):Env where
 φ:=fun i g=>if i<n then E.φ i g else none
 κ:=fun i g=>if i<n then E.κ i g else none
 I:=fun b o=>match E.I b o with
  | some v=>some v
  | none=>if ∃id,n≤id∧loc E H id=some b then w.cell? ⟨b,o,none⟩else none
theorem Sim.cut {E0 E:Env} {H0 H:Aa} {w0 w:World} (hs0:Sim E0 H0 w0) (hs:Sim E H w) (st:BH E0 H0 w0 E H w) (ht:H.take H0.length=H0) :
  Sim (E.cut H w H0.length) H0 w∧BH E0 H0 w0 (E.cut H w H0.length) H0 w:=by
 have hget:∀i,i<H0.length→H[i]? = H0[i]? := fun i hi=>by rw [←ht,VU hi]
 have hI:∀b o v,E.I b o=some v→(E.cut H w H0.length).I b o=some v:=fun b o v h=>by simp [Env.cut,h]
 have hφ:∀id g b,id<H0.length→E.φ id g=some b→(E.cut H w H0.length).φ id g=some b:=fun id g b h1 h2=>by simp [Env.cut,h1,h2]
 have hκ:∀id g b,id<H0.length→E.κ id g=some b→(E.cut H w H0.length).κ id g=some b:=fun id g b h1 h2=>by simp [Env.cut,h1,h2]
 have hφ':∀id g b,(E.cut H w H0.length).φ id g=some b→id<H0.length∧E.φ id g=some b:=fun id g b h=>by
  simp only [Env.cut]at h;split at h
  ·rename_i h1;exact ⟨h1,h⟩
  ·cases h
 have hκ':∀id g b,(E.cut H w H0.length).κ id g=some b→id<H0.length∧E.κ id g=some b:=fun id g b h=>by
  simp only [Env.cut]at h;split at h
  ·rename_i h1;exact ⟨h1,h⟩
  ·cases h
 have hle:E0.le (E.cut H w H0.length):=⟨fun id g b h=>hφ id g b (hs0.dom _ _ _ h) (st.le.φ _ _ _ h),fun id g b h=>hκ id g b (hs0.domk _ _ _ h) (st.le.κ _ _ _ h),fun b o v h=>hI _ _ _ (st.le.I _ _ _ h)⟩
 have hIkeep:∀i b,i<H0.length→loc E H i=some b→∀o,(E.cut H w H0.length).I b o=E.I b o:=by
  intro i b hi hl o
  simp only [Env.cut]
  cases hx:E.I b o with
  | some v=>rfl
  | none=>
   simp only []
   rw [if_neg]
   rintro ⟨id,h1,h2⟩
   have:=hs.inj i id b hl h2
   omega
 have locB':∀i B,i<H0.length→Ck (E.cut H w H0.length) i B=Ck E i B:=by
  intro i B hi
  cases B <;> simp [Ck,Env.cut,hi]
 have loc':∀i b,loc (E.cut H w H0.length) H0 i=some b→i<H0.length∧loc E H i=some b:=by
  intro i b hl
  unfold loc at hl ⊢
  cases hH:H0[i]? with
  | none=>simp [hH]at hl
  | some B=>
   have hi:i<H0.length:=(UV.1 hH).1
   rw [hH]at hl
   refine ⟨hi,?_⟩
   rw [hget i hi,hH]
   simp only [Option.bind_some]at hl ⊢
   rw [←locB' i B hi];exact hl
 constructor
 ·refine ⟨fun i B hB=>?_,fun i g b h=>(hφ' i g b h).1,fun i g b h=>(hκ' i g b h).1,fun i B n hB hn g hg=>?_,fun i i' b h1 h2=>hs.inj i i' b (loc' i b h1).2 (loc' i' b h2).2,fun b o v hv=>?_,fun b cs hf=>⟨(hs.fix b cs hf).1,(hs.fix b cs hf).2.1.imp fun v hv=>hI _ _ _ hv,fun i hi=>(hs.fix b cs hf).2.2 i (loc' i b hi).2⟩⟩
  ·have hi:i<H0.length:=(UV.1 hB).1
   have hB0:=hs0.blk i B hB
   have hB1:=hs.blk i B (by rw [hget i hi];exact hB)
   have hl1:∀b,Ck E i B=some b→loc E H i=some b:=fun b hb=>by unfold loc;rw [hget i hi,hB];exact hb
   cases B with
   | dead=>trivial
   | cel g cells=>
    obtain ⟨b,cs,t,h1,h2,h3,h4⟩:=hB1
    obtain ⟨b0,cs0,t0,k1,k2,k3,k4⟩:=hB0
    refine ⟨b,cs,t,hφ _ _ _ hi h1,h2,⟨h3.1,fun j c v hc hv=>?_⟩,fun o=>by rw [hIkeep i b hi (hl1 b h1)];exact h4 o⟩
    obtain ⟨v0,_,hv0⟩:=k3.get hc
    exact (h3.2 j c v hc hv).cut hφ hκ hI (hv0.rl hs0.dom)
   | typ t cells=>
    obtain ⟨b,cs,h1,h2,h3,h4⟩:=hB1
    obtain ⟨b0,cs0,k1,k2,k3,k4⟩:=hB0
    refine ⟨b,cs,hφ _ _ _ hi h1,h2,⟨h3.1,fun j c v hc hv=>?_⟩,fun o=>by rw [hIkeep i b hi (hl1 b h1)];exact h4 o⟩
    obtain ⟨v0,_,hv0⟩:=k3.get hc
    exact (h3.2 j c v hc hv).cut hφ hκ hI (hv0.rl hs0.dom)
   | tok n e sz=>
    obtain ⟨b,cap,cs,h1,h2,h3,h4,h5,h6,h7⟩:=hB1
    exact ⟨b,cap,cs,hφ _ _ _ hi h1,hκ _ _ _ hi h2,h3,h4,h5,h6,fun o ho=>by rw [hIkeep i b hi (hl1 b h1)];exact h7 o ho⟩
   | buf g cells e sz=>
    obtain ⟨b,cap,cs,h1,h2,h3,h4,h5,h6,h7,h8⟩:=hB1
    obtain ⟨b0,cap0,cs0,k1,k2,k3,k4,k5,k6,k7,k8⟩:=hB0
    refine ⟨b,cap,cs,hφ _ _ _ hi h1,hκ _ _ _ hi h2,h3,h4,h5,h6,⟨h7.1,fun j c v hc hv=>?_⟩,fun o=>by rw [hIkeep i b hi (hl1 b h1)];exact h8 o⟩
    obtain ⟨v0,_,hv0⟩:=k7.get hc
    exact (h7.2 j c v hc hv).cut hφ hκ hI (hv0.rl hs0.dom)
   | map es=>
    obtain ⟨b,en,ck,h1,h2,h3,h4⟩:=hB1
    obtain ⟨b0,en0,ck0,k1,k2,k3,k4⟩:=hB0
    refine ⟨b,en,ck,hφ _ _ _ hi h1,h2,h3,fun j k v hj=>?_⟩
    obtain ⟨e,q1,q2,q3⟩:=h4 j k v hj
    obtain ⟨e0,r1,r2,r3⟩:=k4 j k v hj
    exact ⟨e,q1,q2.cut hφ hκ hI (r2.rl hs0.dom),q3.cut hφ hκ hI (r3.rl hs0.dom)⟩
   | iter s pos=>
    obtain ⟨b,h1,h2⟩:=hB1
    exact ⟨b,hφ _ _ _ hi h1,h2⟩
  ·have hi:i<H0.length:=(UV.1 hB).1
   obtain ⟨h1,h2⟩:=hs.late i B n (by rw [hget i hi];exact hB) hn g hg
   exact ⟨by simp [Env.cut,h1],by simp [Env.cut,h2]⟩
  ·simp only [Env.cut]at hv
   cases hx:E.I b o with
   | some u=>rw [hx]at hv;simp only [Ve]at hv;subst hv;exact hs.imm _ _ _ hx
   | none=>
    rw [hx]at hv
    simp only []at hv
    split at hv
    ·exact hv
    ·cases hv
 ·refine ⟨hle,st.os,st.tape,st.output,st.size,st.frame,fun b ⟨i,hi⟩=>st.own b ⟨i,(loc' i b hi).2⟩,fun b o hb ho=>?_⟩
  rw [←st.imm b o hb ho]
  simp only [Env.cut]
  cases hx:E.I b o with
  | some v=>rfl
  | none=>
   simp only []
   rw [if_neg]
   rintro ⟨id,h1,h2⟩
   rcases st.own b ⟨id,h2⟩with h3 | h3
   ·exact ho h3
   ·omega
theorem imm_rl {E:Env} {n:Nat} {x:Ab} {v:Value} (h:Ax E x v):BE x=true→RL n x:=by
 induction h with
 | undef v=>intro h;simp [BE]at h
 | bool b=>exact fun _=>.bool b
 | ubool b=>intro h;simp [BE]at h
 | int k i=>exact fun _=>.int k i
 | str s=>exact fun _=>.str s
 | nilp=>exact fun _=>.nilp
 | ptr h=>intro h;simp [BE]at h
 | cptr f hI hm hv ih=>exact fun _=>.cptr fun i c hc=>ih i c hc (hm i c hc)
 | sl0 ht ha=>
  rename_i tk a cap
  intro h
  exact .sl (fun t e=>by subst e;simp [BE]at h) (fun i e j c h=>by simp at h)
 | sl f hl hI hm hv hc ht ih=>
  rename_i es tk b o s cap
  intro h
  exact .sl (fun t e=>by subst e;simp [BE]at h) (fun i e j c h1 h2=>ih i e j c h1 h2 (hm i e j c h1 h2))
 | ms _ _ _ _ _=>intro h;simp [BE]at h
 | fn _ _ _=>intro h;simp [BE]at h
 | bfn _ _ _=>intro h;simp [BE]at h
 | nilfn=>exact fun _=>.nilfn
 | mp _=>intro h;simp [BE]at h
 | nilmap=>exact fun _=>.nilmap
 | iface _ _=>intro h;simp [BE]at h
 | nilif=>exact fun _=>.nilif
 | agg _ _ _=>intro h;simp [BE]at h
 | tup _ _ _=>intro h;simp [BE]at h
theorem all_mem {p:Ab→Bool} {l:List Ab} (h:l.all p=true) {c:Ab} (hc:c∈l):p c=true:=Vn.1 h c hc
theorem frz_ok {E:Env} {H:Aa} {w:World} {n:Nat} (hs:Sim E H w) :
  ∀d,(∀x x' v,frz H n d x=some x'→Ax E x v→Ax (E.cut H w n) x' v)∧(∀xs xs' vs,FM H n d xs=some xs'→A4 E xs vs→A4 (E.cut H w n) xs' vs):=by
 have hI:∀b o v,E.I b o=some v→(E.cut H w n).I b o=some v:=fun b o v h=>by simp [Env.cut,h]
 have hφ:∀id g b,id<n→E.φ id g=some b→(E.cut H w n).φ id g=some b:=fun id g b h1 h2=>by simp [Env.cut,h1,h2]
 have hκ:∀id g b,id<n→E.κ id g=some b→(E.cut H w n).κ id g=some b:=fun id g b h1 h2=>by simp [Env.cut,h1,h2]
 intro d
 induction d with
 | zero=>exact ⟨fun x x' v h=>by simp [frz]at h,fun x x' v h=>by simp [FM]at h⟩
 | succ d ih=>
  obtain ⟨ih1,ih2⟩:=ih
  constructor
  ·intro x x' v h hx
   have plain:RL n x→x'=x→Ax (E.cut H w n) x' v:=fun h1 h2=>by rw [h2];exact hx.cut hφ hκ hI h1
   cases x with
   | undef=>simp [frz]at h
   | ptr id g off=>
    simp only [frz]at h
    split at h
    ·rename_i hid;injection h with h;exact plain (.ptr hid) h.symm
    ·cases h
   | mp id=>
    simp only [frz]at h
    split at h
    ·rename_i hid;injection h with h;exact plain (.mp hid) h.symm
    ·cases h
   | ms id g off len cap sz ex=>
    simp only [frz]at h
    split at h
    ·rename_i hid;injection h with h;exact plain (.ms hid) h.symm
    ·rename_i hid
     cases hg:A8 H id g with
     | none=>simp [hg]at h
     | some cs=>
      simp only [hg,Option.bind_some]at h
      split at h
      ·rename_i hle
       cases hf:FM H n d ((cs.drop off).take (len*sz))with
       | none=>simp [hf]at h
       | some cs'=>
        simp only [hf,Option.bind_some]at h
        split at h
        ·rename_i him
         injection h with h;subst h
         obtain ⟨⟨B0,hH,hlB,_⟩,b,vs,t,q1,q2,q3,hqn,q4⟩:=Gp hs hg
         have hrel:=ih2 _ _ (((vs.toList.take cs.length).drop off).take (len*sz)) hf ((q3.drop off).take (len*sz))
         have hl':cs'.length=len*sz:=by
          rw [hrel.1,←((q3.drop off).take (len*sz)).1,Vm,Vx];omega
         obtain ⟨k1,k2⟩:=Ky sz len cs' hl'
         have k3:=PM sz len cs'
         cases hx with
         | ms p1 p2 p3 p4 p5 p6=>
          rename_i off' cap' b'
          rw [q1]at p1;cases p1
          have hto:KP (E.cut H w n) (if (ex&&decide (cap=len))=true then .tight else .no) (some ⟨b,off',none⟩) len cap':=by
           split
           ·rename_i hc
            simp only [Vh,decide_eq_true_eq]at hc
            show cap'=len
            rw [p4 hc.1];exact hc.2
           ·trivial
          have hloc:loc E H id=some b:=by unfold loc;rw [hH];simp only [Option.bind_some];rw [hlB];exact q1
          have hIc:∀o u,w.cell? ⟨b,o,none⟩=some u→(E.cut H w n).I b o=some u:=by
           intro o u hu
           simp only [Env.cut,q4 o]
           rw [if_pos ⟨id,by omega,hloc⟩];exact hu
          have hif:(if ex=true∧cap=len then Tok.tight else Tok.no)=(if (ex&&decide (cap=len))=true then .tight else .no):=by
           simp
          rw [hif]
          by_cases hz:len=0
          ·subst hz
           have:Gt sz 0 cs'=[]:=rfl
           rw [this]
           exact .sl0 hto (fun h=>by cases h)
          ·have key:∀(i j:Nat) (e:List Ab) (c:Ab),(Gt sz len cs')[i]? = some e→e[j]? = some c→∃u,(E.cut H w n).I b (off'+(i*sz+j))=some u∧Ax (E.cut H w n) c u∧BE c=true:=by
            intro i j e c h1 h2
            have h3:=EM _ i j e c k2 h1 h2
            rw [k1]at h3
            obtain ⟨u,h4,h5⟩:=hrel.get h3
            refine ⟨u,hIc _ _ ?_,h5,all_mem him (Vz h3)⟩
            rw [Bj q2,p5 (by omega)]
            have:=Jt h4
            rw [VB]at this
            have:=HZ this
            simpa using this
           have:=Ax.sl (E:=E.cut H w n) (es:=Gt sz len cs') (b:=b) (o:=off') (s:=sz) (cap:=cap') (fun i j=>((E.cut H w n).I b (off'+(i*sz+j))).getD undef) (fun i e h=>k2 e (Vz h)) (fun i j hi hj=>?_)
            (fun i e j c h1 h2=>(key i j e c h1 h2).elim fun _ h=>h.2.2) (fun i e j c h1 h2=>?_) (by rw [k3];omega) (by rw [k3];exact hto)
           ·rw [k3]at this;exact this
           ·have hxl:=k2 _ (Vi hi)
            obtain ⟨u,h1,_⟩:=key i j _ _ (UU hi) (UU (show j<((Gt sz len cs')[i]).length by omega))
            rw [h1];rfl
           ·obtain ⟨u,h3,h4,_⟩:=key i j e c h1 h2
            rw [h3];exact h4
        ·cases h
      ·cases h
   | sl es tk=>
    cases tk with
    | own t=>
     simp only [frz]at h
     have him:BE (.sl es .no)=true:=rfl
     have hno:Ax E (.sl es .no) v:=by
      cases hx with
      | sl0 ht ha=>exact .sl0 trivial ha
      | sl f hl hI' hm hv hc ht=>exact .sl f hl hI' hm hv hc trivial
     have hrl:RL n (.sl es .no):=imm_rl hno him
     split at h
     ·rename_i ht
      injection h with h
      refine plain ?_ h.symm
      cases hrl with
      | sl _ hr=>exact .sl (fun t' e=>by cases e;exact ht) hr
     ·injection h with h;subst h
      exact hno.cut hφ hκ hI hrl
    | no=>simp only [frz,Ve]at h;exact plain (imm_rl hx rfl) h.symm
    | tight=>simp only [frz,Ve]at h;exact plain (imm_rl hx rfl) h.symm
   | fn f caps=>
    simp only [frz]at h
    cases hf:FM H n d caps with
    | none=>simp [hf]at h
    | some caps'=>
     simp only [hf,Option.map_some,Ve]at h
     subst h
     cases hx with
     | fn hn hv=>
      rename_i vs
      have:=ih2 _ _ vs.toList hf ⟨by simpa using hn,fun i c v h1 h2=>hv i c v h1 (by simpa using h2)⟩
      exact .fn (by simpa using this.1) fun i c v h1 h2=>this.2 i c v h1 (by simpa using h2)
   | bfn f first=>simp only [frz]at h;cases h
   | ubool=>simp only [frz]at h;cases h
   | iface t y=>
    simp only [frz]at h
    cases hf:frz H n d y with
    | none=>simp [hf]at h
    | some y'=>
     simp only [hf,Option.map_some,Ve]at h
     subst h
     obtain ⟨u,rfl,hu⟩:=hx.iface_inv
     exact .iface (ih1 _ _ _ hf hu)
   | agg cs=>
    simp only [frz]at h
    cases hf:FM H n d cs with
    | none=>simp [hf]at h
    | some cs'=>
     simp only [hf,Option.map_some,Ve]at h
     subst h
     obtain ⟨vs,rfl,hv⟩:=hx.agg_cells
     exact .agg_of (ih2 _ _ _ hf hv)
   | tup cs=>
    simp only [frz]at h
    cases hf:FM H n d cs with
    | none=>simp [hf]at h
    | some cs'=>
     simp only [hf,Option.map_some,Ve]at h
     subst h
     obtain ⟨vs,rfl,hv⟩:=hx.tup_cells
     exact .tup_of (ih2 _ _ _ hf hv)
   | _=>simp only [frz,Ve]at h;exact plain (imm_rl hx rfl) h.symm
  ·intro xs
   induction xs with
   | nil=>
    intro xs' vs h hv
    simp only [FM,Ve]at h
    subst h
    have:vs=[]:=Vo (by rw [←hv.1];rfl)
    subst this;exact .nil _
   | cons x xs ihx=>
    intro xs' vs h hv
    cases vs with
    | nil=>have:=hv.1;simp at this
    | cons v vs=>
     simp only [FM]at h
     cases hf:frz H n d x with
     | none=>simp [hf]at h
     | some x'=>
      simp only [hf,Option.bind_some]at h
      cases hr:FM H n (d+1) xs with
      | none=>simp [hr]at h
      | some r'=>
       simp only [hr,Option.map_some,Ve]at h
       subst h
       exact .cons (ih1 _ _ _ hf hv.head) (ihx _ _ hr hv.tail)

end
section
variable {C:Cfg} {E:Env} {H:Aa} {w:World}
theorem result_ok {n:Nat} {tm:List Ab} {a:Act} (hf:HE n E H tm a w) {rv:ResultVar} {x:Ab} (h:HI C tm H rv=some x) :
  ∃v,((match rv with
   | .tmp t=>pure (a.tmps.getD t undef)
   | .cell ad t=>do loadVar t (←asAddr (a.tmps.getD ad undef))):Sem Value).run C.P w=.ok v w∧Ax E x v:=by
 cases rv with
 | tmp t=>
  simp only [HI,Ve]at h
  subst h
  exact ⟨_,rfl,J8 hf.rel t⟩
 | cell ad t=>
  simp only [HI]at h
  split at h
  ·cases h
  ·rename_i hk
   obtain ⟨⟨d,hd⟩,_⟩:=C7 (P:=C.P) (t:=t) (by simpa using hk)
   have hr:=J8 hf.rel ad
   obtain ⟨v,h1,h2⟩:=load_ok hd hf.sim hr h
   have hp:∃p,a.tmps.getD ad undef=.pointer (some p):=by
    unfold Ac at h
    split at h
    ·rename_i id g o he;rw [he]at hr;obtain ⟨b,_,h3⟩:=hr.ptr_inv;exact ⟨_,h3⟩
    ·rename_i cs o he;rw [he]at hr;obtain ⟨b,o',h3⟩:=hr.cptr_inv;exact ⟨_,h3⟩
    ·cases h
   obtain ⟨p,hp⟩:=hp
   refine ⟨v,?_,h2⟩
   rw [hp]at h1
   show (do loadVar t (←asAddr (a.tmps.getD ad undef)):Sem Value).run C.P w=_
   rw [hp]
   simpa [Instr.loadAt,Instr.sureAddr,asAddr]using h1
theorem L2 {n:Nat} {tm:List Ab} {a:Act} (hf:HE n E H tm a w):∀(rs:List ResultVar) (xs:List Ab),ED C tm H rs=some xs →
  ∃vs:List Value,(rs.mapM (fun | .tmp t=>pure (a.tmps.getD t undef) | .cell ad t=>do loadVar t (←asAddr (a.tmps.getD ad undef)):ResultVar→Sem Value)).run C.P w=.ok vs w∧A4 E xs vs
 | [],xs,h=>by simp only [ED,Ve]at h;subst h;exact ⟨[],by simp,.nil E⟩
 | r::rs,xs,h=>by
  simp only [ED]at h
  cases h1:HI C tm H r with
  | none=>simp [h1]at h
  | some x=>
   simp only [h1,Option.bind_some]at h
   cases h2:ED C tm H rs with
   | none=>simp [h2]at h
   | some xs'=>
    simp only [h2,Option.map_some,Ve]at h
    subst h
    obtain ⟨v,g1,g2⟩:=result_ok hf h1
    obtain ⟨vs,g3,g4⟩:=L2 hf rs xs' h2
    refine ⟨v::vs,?_,.cons g2 g4⟩
    rw [XT]
    simp only [Sem.run_bind,g1,Result.andThen_ok,g3,Sem.run_pure]
theorem R8 {n:Nat} {fn:Func} {tm:List Ab} {a:Act} (hf:HE n E H tm a w) {x:Ab} (h:Fx C fn.results.toList tm H=some x):∃v,(results fn a.tmps).run C.P w=.ok v w∧Ax E x v:=by
 have hrun:∀vs:List Value,(fn.results.toList.mapM (fun | .tmp t=>pure (a.tmps.getD t undef) | .cell ad t=>do loadVar t (←asAddr (a.tmps.getD ad undef)):ResultVar→Sem Value)).run C.P w=.ok vs w →
   (results fn a.tmps).run C.P w=.ok (if h:vs.toArray.size=1 then vs.toArray[0]else .tuple vs.toArray) w:=by
  intro vs hvs
  unfold results
  rw [Array.mapM_eq_mapM_toList]
  simp only [map_eq_pure_bind,Sem.run_bind,Sem.run_pure]
  erw [hvs]
  rfl
 unfold Fx at h
 split at h
 ·rename_i r hr
  obtain ⟨vs,g1,g2⟩:=L2 (C:=C) hf [r] [x] (by simp [ED,h])
  rw [←hr]at g1
  refine ⟨_,hrun vs g1,?_⟩
  have hl:vs.length=1:=by rw [←g2.1];rfl
  obtain ⟨v,rfl⟩:=WR.1 hl
  simpa using g2.head
 ·rename_i hne
  cases hx:ED C tm H fn.results.toList with
  | none=>simp [hx]at h
  | some xs=>
   simp only [hx,Option.map_some,Ve]at h
   subst h
   obtain ⟨vs,g1,g2⟩:=L2 hf _ _ hx
   refine ⟨_,hrun vs g1,?_⟩
   have hl:¬(vs.toArray.size=1):=by
    have h1:xs.length=fn.results.toList.length:=by
     clear g1 g2 hrun hne
     generalize fn.results.toList=rs at hx
     induction rs generalizing xs with
     | nil=>simp only [ED,Ve]at hx;subst hx;rfl
     | cons r rs ih=>
      simp only [ED]at hx
      cases h1:HI C tm H r with
      | none=>simp [h1]at hx
      | some y=>
       simp only [h1,Option.bind_some]at hx
       cases h2:ED C tm H rs with
       | none=>simp [h2]at hx
       | some ys=>simp only [h2,Option.map_some,Ve]at hx;subst hx;simp [ih _ h2]
    intro hs
    have h2:fn.results.toList.length=1:=by rw [←h1,g2.1];simpa using hs
    obtain ⟨r,hr⟩:=WR.1 h2
    exact hne r hr
   rw [dif_neg hl]
   exact .tup_of (by simpa using g2)
theorem Rc {E0:Env} {H0:Aa} {w0:World} {m:EW} (hm:m=.keep∨m=.pure) (hs0:Sim E0 H0 w0) (st:BH E0 H0 w0 E H w) (hs:Sim E H w) {r:Res} {e:Ending} (hr:I9 E r e) {out:Res×Aa} (h:fin m H0 r H=some out) :
  ∃E',I9 E' out.1 e∧Sim E' out.2 w∧BH E0 H0 w0 E' out.2 w:=by
 cases m with
 | keepN=>rcases hm with hm | hm <;> cases hm
 | pureN=>rcases hm with hm | hm <;> cases hm
 | keep=>simp only [fin,Ve]at h;subst h;exact ⟨E,hr,hs,st⟩
 | pure=>
  simp only [fin,chk]at h
  split at h
  ·rename_i ht
   obtain ⟨k1,k2⟩:=hs0.cut hs st ht
   cases r with
   | ret v=>
    simp only []at h
    cases hf:frz H H0.length 8 v with
    | none=>simp [hf]at h
    | some v'=>
     simp only [hf,Option.map_some,Ve]at h
     subst h
     refine ⟨_,?_,k1,k2⟩
     cases e with
     | returned u=>exact (frz_ok hs 8).1 v v' u hf hr
     | panicked c=>exact hr.elim
     | outgrown=>exact hr.elim
   | pan v=>
    simp only []at h
    cases hf:frz H H0.length 8 v with
    | none=>simp [hf]at h
    | some v'=>
     simp only [hf,Option.map_some,Ve]at h
     subst h
     refine ⟨_,?_,k1,k2⟩
     cases e with
     | returned u=>exact hr.elim
     | panicked c=>obtain ⟨u,h1,h2⟩:=hr;exact ⟨u,h1,(frz_ok hs 8).1 v v' u hf h2⟩
     | outgrown=>exact hr.elim
  ·cases h
theorem fgt_ok {x:Ab} {v:Value} (h:Ax E x v):Ax E (fgt x) v:=by
 cases h with
 | sl0 ht ha=>exact .sl0 trivial ha
 | sl f hl hI hm hv hc ht=>exact .sl f hl hI hm hv hc trivial
 | _=>first | (constructor <;> assumption) | constructor
theorem fgtA_ok {x:Ab} {v:Value} (h:Ax E x v):Ax E (Eh x) v:=by
 unfold Eh
 split
 ·rename_i cs
  obtain ⟨vs,rfl,h1⟩:=h.agg_cells
  refine .agg_of ⟨by simp [h1.1],fun i c u h2 h3=>?_⟩
  rw [V0]at h2
  cases hc:cs[i]? with
  | none=>simp [hc]at h2
  | some d=>simp [hc]at h2;subst h2;exact fgt_ok (h1.2 i d u hc h3)
 ·exact fgt_ok h
theorem forget_ok {x:Ab} {v:Value} (h:Ax E x v):Ax E (forget x) v:=by
 unfold forget
 split
 ·rename_i cs
  obtain ⟨vs,rfl,h1⟩:=h.tup_cells
  refine .tup_of ⟨by simp [h1.1],fun i c u h2 h3=>?_⟩
  rw [V0]at h2
  cases hc:cs[i]? with
  | none=>simp [hc]at h2
  | some d=>simp [hc]at h2;subst h2;exact fgtA_ok (h1.2 i d u hc h3)
 ·exact fgtA_ok h
theorem Nw {r:Res} {e:Ending} (h:I9 E r e):I9 E r.forget e:=by
 cases r with
 | ret v=>cases e with
  | returned u=>exact forget_ok (v:=u) h
  | panicked c=>exact h.elim
  | outgrown=>exact h.elim
 | pan v=>exact h
theorem fin_keepN (H0:Aa) (r:Res) (H:Aa):fin .keepN H0 r H=(fin .keep H0 r H).map fun o=>(o.1.forget,o.2):=rfl
theorem fin_pureN (H0:Aa) (r:Res) (H:Aa):fin .pureN H0 r H=(fin .pure H0 r H).map fun o=>(o.1.forget,o.2):=by
 simp only [fin,chk]
 split
 ·cases r <;> simp [X6,Function.comp_def,Res.forget]
 ·rfl
theorem fin_ok {E0:Env} {H0:Aa} {w0:World} {m:EW} (hs0:Sim E0 H0 w0) (st:BH E0 H0 w0 E H w) (hs:Sim E H w) {r:Res} {e:Ending} (hr:I9 E r e) {out:Res×Aa} (h:fin m H0 r H=some out) :
  ∃E',I9 E' out.1 e∧Sim E' out.2 w∧BH E0 H0 w0 E' out.2 w:=by
 cases m with
 | keep=>exact Rc (.inl rfl) hs0 st hs hr h
 | pure=>exact Rc (.inr rfl) hs0 st hs hr h
 | keepN=>
  rw [fin_keepN]at h
  cases hx:fin .keep H0 r H with
  | none=>simp [hx]at h
  | some o=>
   simp only [hx,Option.map_some,Ve]at h
   subst h
   obtain ⟨E',h1,h2,h3⟩:=Rc (.inl rfl) hs0 st hs hr hx
   exact ⟨E',Nw h1,h2,h3⟩
 | pureN=>
  rw [fin_pureN]at h
  cases hx:fin .pure H0 r H with
  | none=>simp [hx]at h
  | some o=>
   simp only [hx,Option.map_some,Ve]at h
   subst h
   obtain ⟨E',h1,h2,h3⟩:=Rc (.inr rfl) hs0 st hs hr hx
   exact ⟨E',Nw h1,h2,h3⟩
theorem fn_ok (hC:Ny C) (hD:DrawOk C) {f:FuncId} {fn:Func} {body:Code} {ann:Ann} {m:EW} (hf:C.P.funcs[f]? = some fn) (hb:fn.body=some body) (hc:∀(vs:Array Value) (w:World),(callFunc f vs).run C.P w=.ok (.enter f vs) w)
  {args:List Ab} {H:Aa} {res:Res} {H':Aa} (h:fnA C fn body ann m args H=some (res,H')) (hn:args.length≤fn.ntmps):CallA C.P C.G f args H res H':=by
 intro E w vs hG hs hv
 refine .inl ⟨hc vs w,calls_of_wp hf hb ?_⟩
 unfold fnA at h
 have hlen:args.length=vs.size:=by simpa using hv.1
 have hfr:HE fn.ntmps E H (args++List.replicate (fn.ntmps-args.length) .undef) { tmps:=vs++Array.replicate (fn.ntmps-vs.size) undef,defers:=[] } w:=by
  refine ⟨?_,by simp;omega,rfl,hs⟩
  rw [WM]
  refine hv.append ⟨by simp [hlen],fun i c v h1 h2=>?_⟩
  rw [Xg]at h1
  split at h1
  ·simp at h1;subst h1;exact .undef _
  ·cases h1
 refine wp_mono (S2 hC hD body ann _ E _ H _ w hG (.refl E H w) hfr h) ?_
 rintro e a w' ⟨E',H1,tm,x,hG',st,hf',hx,hk⟩
 have ret:∀y,Fx C fn.results.toList tm H1=some y→fin m H (.ret y) H1=some (res,H')→a.defers=[]∧∃v,(results fn a.tmps).run C.P w'=.ok v w'∧∃E2,I9 E2 res (.returned v)∧Sim E2 H' w'∧BH E H w E2 H' w':=by
  intro y hy hfin
  obtain ⟨v,h1,h2⟩:=R8 hf' hy
  obtain ⟨E2,g1,g2,g3⟩:=fin_ok (r:=.ret y) (e:=.returned v) hs st hf'.sim h2 hfin
  exact ⟨hf'.defers,v,h1,E2,g1,g2,g3⟩
 cases x <;> cases e <;> first | exact hx.elim | skip
 ·simp only []at hk
  cases hy:Fx C fn.results.toList tm H1 with
  | none=>simp [hy]at hk
  | some y=>simp only [hy,Option.bind_some]at hk;exact ret y hy hk
 ·cases hk
 ·simp only []at hk
  cases hy:Fx C fn.results.toList tm H1 with
  | none=>simp [hy]at hk
  | some y=>simp only [hy,Option.bind_some]at hk;exact ret y hy hk
 ·simp only []at hk
  obtain ⟨v,rfl,hv'⟩:=hx
  obtain ⟨E2,g1,g2,g3⟩:=fin_ok (r:=.pan _) (e:=.panicked [{ v,recovered:=false }]) hs st hf'.sim ⟨v,rfl,hv'⟩ hk
  exact ⟨hf'.defers,E2,g1,g2,g3⟩

end
theorem Sk (acc:Array Nat) (i:Nat):∀(es:List Edge) (s:Nat),(es.foldl (fun s e=>if Region.binds .any e then s ||| 2^e.on ||| acc.getD e.on 0 else s) s).testBit i=true →
  s.testBit i=true∨∃e∈es,Region.binds .any e=true∧(i=e.on∨(acc.getD e.on 0).testBit i=true)
 | [],s,h=>.inl h
 | e::es,s,h=>by
  simp only [List.foldl_cons]at h
  rcases Sk acc i es _ h with h1 | ⟨e',h1,h2⟩
  ·split at h1
   ·rename_i hb
    rw [Nat.testBit_or,Nat.testBit_or,Wa,Wa]at h1
    rcases h1 with (h1 | h1) | h1
    ·exact .inl h1
    ·refine .inr ⟨e,by simp,hb,.inl ?_⟩
     rw [Nat.testBit_two_pow]at h1
     exact (of_decide_eq_true h1).symm
    ·exact .inr ⟨e,by simp,hb,.inr h1⟩
   ·exact .inl h1
  ·exact .inr ⟨e',by simp [h1],h2⟩
theorem before_list:∀(l:List Oper),let acc:=l.foldl (fun (acc:Array Nat) o=>acc.push (o.after.foldl (fun s e=>if Region.binds .any e then s ||| 2^e.on ||| acc.getD e.on 0 else s) 0)) #[]
  acc.size=l.length∧∀j i,(acc.getD j 0).testBit i=true→∃o,l[j]? = some o∧∃e∈o.after,Region.binds .any e=true∧(i=e.on∨(e.on<j∧(acc.getD e.on 0).testBit i=true)):=by
 suffices hrev:∀(l:List Oper),let acc:=l.reverse.foldl (fun (acc:Array Nat) o=>acc.push (o.after.foldl (fun s e=>if Region.binds .any e then s ||| 2^e.on ||| acc.getD e.on 0 else s) 0)) #[]
   acc.size=l.reverse.length∧∀j i,(acc.getD j 0).testBit i=true→∃o,l.reverse[j]? = some o∧∃e∈o.after,Region.binds .any e=true∧(i=e.on∨(e.on<j∧(acc.getD e.on 0).testBit i=true))by
  intro l
  have:=hrev l.reverse
  rwa [List.reverse_reverse]at this
 intro l
 induction l with
 | nil=>exact ⟨rfl,fun j i h=>by simp at h⟩
 | cons o l' ih=>
  rw [XF]
  generalize l'.reverse=l at ih ⊢
  simp only [WY,List.foldl_cons,List.foldl_nil]at ih ⊢
  generalize l.foldl (fun (acc:Array Nat) o=>acc.push (o.after.foldl (fun s e=>if Region.binds .any e then s ||| 2^e.on ||| acc.getD e.on 0 else s) 0)) #[]=acc at ih ⊢
  obtain ⟨ih1,ih2⟩:=ih
  have hget:∀(v j:Nat),j<acc.size→(acc.push v).getD j 0=acc.getD j 0:=fun v j hj=>by
   rw [Vq,Vq,Wt,if_neg (by omega)]
  refine ⟨by simp [ih1],fun j i h=>?_⟩
  rcases Nat.lt_trichotomy j acc.size with hj | hj | hj
  ·rw [hget _ j hj]at h
   obtain ⟨o',h1,e,h2,h3,h4⟩:=ih2 j i h
   refine ⟨o',by rw [UW (by omega)];exact h1,e,h2,h3,?_⟩
   rcases h4 with h4 | ⟨h4,h5⟩
   ·exact .inl h4
   ·exact .inr ⟨h4,by rw [hget _ e.on (by omega)];exact h5⟩
  ·subst hj
   refine ⟨o,by rw [ih1,Vu (Va _)];simp,?_⟩
   rw [Vq,Wt,if_pos rfl,Option.getD_some,←XY]at h
   rcases Sk acc i _ 0 h with h1 | ⟨e,h1,h2,h3⟩
   ·simp at h1
   ·refine ⟨e,by simpa using h1,h2,?_⟩
    rcases h3 with h3 | h3
    ·exact .inl h3
    ·have hlt:e.on<acc.size:=by
      rcases VH e.on acc.size with hlt | hge
      ·exact hlt
      ·rw [Vq,XN hge]at h3
       simp at h3
     exact .inr ⟨hlt,by rw [hget _ _ hlt];exact h3⟩
  ·rw [Vq,Wt,if_neg (by omega),XN (by omega)]at h
   simp at h
theorem before_spec {ops:Array Oper} {i j:Nat} (h:((Region.before ops).getD j 0).testBit i=true) :
  ∃o,ops[j]? = some o∧∃e∈o.after,Region.binds .any e=true∧(i=e.on∨(e.on<j∧((Region.before ops).getD e.on 0).testBit i=true)):=by
 unfold Region.before at h ⊢
 rw [←XY]at h ⊢
 obtain ⟨o,h1,h2⟩:=(before_list ops.toList).2 j i h
 exact ⟨o,by simpa using h1,h2⟩
theorem Mu {ops:Array Oper} {S:Nat→Prop} (hS:∀j o,S j→ops[j]? = some o→∀e∈o.after,Region.binds .any e=true→S e.on) :
  ∀(j i:Nat),(∀o,ops[j]? = some o→∀e∈o.after,Region.binds .any e=true→S e.on)→((Region.before ops).getD j 0).testBit i=true→S i:=by
 intro j
 induction j using Nat.strongRecOn with
 | _ j ih=>
  intro i hj h
  obtain ⟨o,h1,e,h2,h3,h4⟩:=before_spec h
  have hs:=hj o h1 e h2 h3
  rcases h4 with rfl | ⟨h4,h5⟩
  ·exact hs
  ·exact ih e.on h4 i (fun o' ho' e' he' hb'=>hS e.on o' hs ho' e' he' hb') h5

section
variable {C:Cfg} {H:Aa} {r r':Operand→Ab}
theorem Ke {place:Nat→Option (Nat×Nat)}:∀(ps:List (Nat×Operand)),(∀p∈ps,r p.2=r' p.2)→Jh place r ps=Jh place r' ps
 | [],_=>rfl
 | p::ps,h=>by simp only [Jh];rw [h p (by simp),Ke ps fun q hq=>h q (by simp [hq])]
theorem Ex {α β:Type} {f g:α→β} {l:List α} (h:∀x∈l,f x=g x):l.map f=l.map g:=X0 h
theorem stepR_congr {op:Op} (h:∀x∈op.operands,r x=r' x):BC C op r H=BC C op r' H:=by
 cases op with
 | build t parts=>
  have hp:∀p∈parts.toList,r p.2=r' p.2:=fun p hp=>h p.2 (by simp [Op.operands];exact ⟨p.1,by simpa using hp⟩)
  simp only [BC,RI]
  split
  ·rename_i fs _
   cases hx:fs.toList.mapM (fun f=>(C.P.info? f.type).map fun i=>(f.offset,i.size))with
   | none=>rfl
   | some places=>simp only [Option.bind_some];rw [Ke _ hp]
  ·rename_i n e _
   cases hx:C.P.info? e with
   | none=>rfl
   | some i=>simp only [Option.bind_some];rw [Ke _ hp]
  ·rfl
 | buildSlice t len parts=>
  have hp:∀p∈parts.toList,r p.2=r' p.2:=fun p hp=>h p.2 (by simp [Op.operands];exact ⟨p.1,by simpa using hp⟩)
  simp only [BC]
  rw [Ex (f:=fun p:Nat×Operand=>r p.2) hp]
 | makeFunc fn first caps=>
  have hp:∀p∈caps.toList,r p=r' p:=fun p hp=>h p (by simp [Op.operands];exact .inr (by simpa using hp))
  have hq:∀p∈first.toList,r p=r' p:=fun p hp=>h p (by simp [Op.operands];exact .inl (by simpa using hp))
  simp only [BC]
  rw [Ex hp,Ex hq]
 | slice t x lo hi mx=>
  have hx:=h x (by simp [Op.operands])
  have hl:lo.map r=lo.map r':=by cases lo with | none=>rfl | some y=>simp [h y (by simp [Op.operands])]
  have hh:hi.map r=hi.map r':=by cases hi with | none=>rfl | some y=>simp [h y (by simp [Op.operands])]
  have hm:mx.map r=mx.map r':=by cases mx with | none=>rfl | some y=>simp [h y (by simp [Op.operands])]
  simp only [BC,hx,hl,hh,hm]
 | call c=>
  have hp:∀p∈c.args.toList,r p=r' p:=fun p hp=>h p (by simp [Op.operands,Call.operands];exact .inr (by simpa using hp))
  simp only [BC]
  generalize c.args.toList=args at hp
  split <;> first | rfl | skip
  ·rw [hp _ (by simp)]
  ·rw [hp _ (by simp)]
  ·rename_i tl x xs hq
   rw [hp x (by simp),Ex (l:=xs) (f:=r) (g:=r') fun y hy=>hp y (by simp [hy])]
  ·rename_i tl x xs hq
   rw [hp x (by simp),Ex (l:=xs) (f:=r) (g:=r') fun y hy=>hp y (by simp [hy])]
 | _=>simp [Op.operands]at h;simp [BC,h]
theorem stepA_congr {op:Op} (h:∀x∈op.operands,r x=r' x):C9 C op r H=C9 C op r' H:=by
 cases op with
 | makeMap t x=>
  cases x with
  | none=>rfl
  | some y=>
   have hy:=h y (by simp [Op.operands])
   cases hu:C.P.underlying t with
   | none=>simp [C9,hu]
   | some d=>cases d <;> simp [C9,hu,hy]
 | _=>simp [Op.operands]at h;simp [C9,h]
theorem Qd {op:Op} (h:∀x∈op.operands,r x=r' x):Ft C op r H=Ft C op r' H:=by
 cases op with
 | call c=>
  have hp:∀p∈c.args.toList,r p=r' p:=fun p hp=>h p (by simp [Op.operands,Call.operands];exact .inr (by simpa using hp))
  simp only [Ft]
  split
  ·generalize c.args.toList=args at hp
   split <;> first | rfl | skip
   rename_i x y t ty _
   rw [hp x (by simp),hp y (by simp)]
  ·generalize c.args.toList=args at hp
   split <;> first | rfl | skip
   rename_i x t _
   rw [hp x (by simp)]
  ·rename_i f hf
   rw [h f (by simp [Op.operands,Call.operands,hf]),Ex hp]
  ·rfl
 | _=>simp [Op.operands]at h;simp [Ft,h]
theorem stepR_blind {op:Op} (h:Jf op=false) (H':Aa):BC C op r H=BC C op r H':=by
 cases op <;> first | rfl | simp [Jf]at h
theorem Nt {id g:Nat} {cs:List Ab} (p:Aa) (h:A8 H id g=some cs):A8 (H++p) id g=some cs:=by
 unfold A8 at h ⊢
 cases hx:H[id]? with
 | none=>simp [hx]at h
 | some B=>
  rw [UW (UV.1 hx).1,hx]
  rw [hx]at h;exact h
theorem loadA_mono {a:Bool} {sz:Nat} {x z:Ab} (p:Aa) (h:Ac a sz x H=some z):Ac a sz x (H++p)=some z:=by
 cases x <;> first | exact h | skip
 rename_i id g o
 simp only [Ac]at h ⊢
 cases hg:A8 H id g with
 | none=>simp [hg]at h
 | some cs=>rw [Nt p hg];rw [hg]at h;exact h
theorem SI {x z:Ab} (p:Aa) (h:Fg x H=some z):Fg x (H++p)=some z:=by
 cases x <;> first | exact h | skip
 rename_i id g off len cap sz ex
 simp only [Fg]at h ⊢
 split at h
 ·rename_i hz
  rw [if_pos hz]
  cases hg:A8 H id g with
  | none=>simp [hg]at h
  | some cs=>rw [Nt p hg];rw [hg]at h;exact h
 ·cases h
theorem lookupA_mono {a:Bool} {n:Nat} {zz:Option Ab} {ok:Bool} {m k z:Ab} (p:Aa) (h:Fb a n zz ok m k H=some z):Fb a n zz ok m k (H++p)=some z:=by
 unfold Fb at h ⊢
 cases zz with
 | none=>simp at h
 | some z0=>
  simp only [Option.bind_some]at h ⊢
  cases hc:DK a n k with
  | none=>simp [hc]at h
  | some kc=>
   simp only [hc,Option.bind_some]at h ⊢
   cases m <;> first | exact h | skip
   rename_i id
   simp only []at h ⊢
   cases hH:H[id]? with
   | none=>simp [hH]at h
   | some B=>
    rw [UW (UV.1 hH).1,hH]
    rw [hH]at h;exact h
theorem stepR_mono {op:Op} {z:Ab} (p:Aa) (h:BC C op r H=some z):BC C op r (H++p)=some z:=by
 cases op with
 | load t x=>
  simp only [BC]at h ⊢
  split
  ·rename_i hk;rw [if_pos hk]at h;cases h
  ·rename_i hk
   rw [if_neg hk]at h
   exact loadA_mono p h
 | convert src dst x=>
  simp only [BC,convA]at h ⊢
  split at h <;> first | exact h | skip
  split at h
  ·rename_i hk
   rw [if_pos hk]
   exact SI p h
  ·cases h
 | lookup t m k ok=>
  simp only [BC]at h ⊢
  split at h
  ·split at h
   ·rename_i kt e hu hk
    rw [if_pos hk]
    exact lookupA_mono p h
   ·cases h
  ·cases h
 | _=>exact h

end
structure Tr where
 T:Nat→List Ab
 hE:Nat→Aa
 cur:Nat→Aa
 hist:Nat→List (Nat×Aa)
 V:Nat→Ab
 B:Nat→Bool
section
variable {C:Cfg} {ops:Array Oper} {bf:Nat→Nat→Bool} {out:Res×Aa} {k:List Ab→Aa→Out} {kp:Ab→List Ab→Aa→Out}
def Tg (C:Cfg) (ops:Array Oper) (bf:Nat→Nat→Bool) (perm:List Nat) (t:Tr) (j:Nat):Prop:=
 ∃i o,perm[j]? = some i∧ops[i]? = some o∧If ops o (t.T j)=some (t.B j)∧t.T (j+1)=G9 (t.T j) o.dst (t.V j) ∧
  ((cls o.op=.r∧gR (t.B j) (BC C o.op (rho C.G (t.T j)) (t.hE j))=some (t.V j)∧(Jf o.op=true→stab (fun e=>bf e i) (fun h=>gR (t.B j) (BC C o.op (rho C.G (t.T j)) h)) (t.V j) (t.hist j)) ∧
    t.hE (j+1)=t.hE j∧t.cur (j+1)=t.cur j∧t.hist (j+1)=t.hist j) ∨
   (cls o.op=.a∧gA (t.B j) (t.cur j) (C9 C o.op (rho C.G (t.T j)) (t.cur j))=some (t.V j,t.cur (j+1))∧t.hE (j+1)=t.hE j∧t.hist (j+1)=t.hist j) ∨
   (cls o.op=.e∧gE (t.B j) (t.cur j) (Ft C o.op (rho C.G (t.T j)) (t.cur j))=some (.ret (t.V j),t.cur (j+1))∧t.hE (j+1)=t.cur (j+1)∧t.hist (j+1)=(i,t.hE j)::t.hist j))
def Ro (C:Cfg) (ops:Array Oper) (perm:List Nat) (kp:Ab→List Ab→Aa→Out) (out:Res×Aa) (t:Tr) (m:Nat):Prop:=
 m+1=perm.length∧∃i o x H',perm[m]? = some i∧ops[i]? = some o∧cls o.op=.e∧If ops o (t.T m)=some true∧Ft C o.op (rho C.G (t.T m)) (t.cur m)=some (.pan x,H')∧kp x ((t.T m).map fun _=>.undef) H'=some out
def Tr.cons (T0:List Ab) (hE0 cur0:Aa) (hist0:List (Nat×Aa)) (v:Ab) (b:Bool) (t:Tr):Tr where
 T:=fun j=>match j with | 0=>T0 | j+1=>t.T j
 hE:=fun j=>match j with | 0=>hE0 | j+1=>t.hE j
 cur:=fun j=>match j with | 0=>cur0 | j+1=>t.cur j
 hist:=fun j=>match j with | 0=>hist0 | j+1=>t.hist j
 V:=fun j=>match j with | 0=>v | j+1=>t.V j
 B:=fun j=>match j with | 0=>b | j+1=>t.B j
theorem NM:∀(perm:List Nat) (hist0:List (Nat×Aa)) (hE0 cur0:Aa) (tm0:List Ab),GM C ops bf k kp perm hist0 hE0 cur0 tm0=some out →
  ∃(t:Tr) (m:Nat),t.T 0=tm0∧t.hE 0=hE0∧t.cur 0=cur0∧t.hist 0=hist0∧m≤perm.length∧(∀j,j<m→Tg C ops bf perm t j) ∧
   ((m=perm.length∧k (t.T m) (t.cur m)=some out)∨Ro C ops perm kp out t m)
 | [],hist0,hE0,cur0,tm0,h=>by
  simp only [GM]at h
  exact ⟨⟨fun _=>tm0,fun _=>hE0,fun _=>cur0,fun _=>hist0,fun _=>.undef,fun _=>true⟩,0,rfl,rfl,rfl,rfl,Va _,fun j hj=>by omega,.inl ⟨rfl,h⟩⟩
 | i::rest,hist0,hE0,cur0,tm0,h=>by
  simp only [GM]at h
  cases ho:ops[i]? with
  | none=>simp [ho]at h
  | some o=>
   simp only [ho]at h
   cases hw:If ops o tm0 with
   | none=>simp [hw]at h
   | some b=>
    simp only [hw,Option.bind_some]at h
    have shift:∀(t:Tr) (m:Nat) (v:Ab),t.T 0=G9 tm0 o.dst v→m≤rest.length→(∀j,j<m→Tg C ops bf rest t j)→((m=rest.length∧k (t.T m) (t.cur m)=some out)∨Ro C ops rest kp out t m) →
      Tg C ops bf (i::rest) (Tr.cons tm0 hE0 cur0 hist0 v b t) 0 →
      ∃(t:Tr) (m:Nat),t.T 0=tm0∧t.hE 0=hE0∧t.cur 0=cur0∧t.hist 0=hist0∧m≤(i::rest).length∧(∀j,j<m→Tg C ops bf (i::rest) t j) ∧
       ((m=(i::rest).length∧k (t.T m) (t.cur m)=some out)∨Ro C ops (i::rest) kp out t m):=by
     intro t m v h0 hm hst hfin hhead
     refine ⟨Tr.cons tm0 hE0 cur0 hist0 v b t,m+1,rfl,rfl,rfl,rfl,by simp;omega,fun j hj=>?_,?_⟩
     ·cases j with
      | zero=>exact hhead
      | succ j=>exact hst j (by omega)
     ·rcases hfin with ⟨h1,h2⟩ | ⟨h1,h2⟩
      ·exact .inl ⟨by simp [h1],h2⟩
      ·exact .inr ⟨by simp;omega,h2⟩
    cases hc:cls o.op with
    | r=>
     simp only [hc]at h
     cases hg:gR b (BC C o.op (rho C.G tm0) hE0)with
     | none=>simp [hg]at h
     | some v=>
      simp only [hg,Option.bind_some]at h
      have key:(Jf o.op=true→stab (fun e=>bf e i) (fun h=>gR b (BC C o.op (rho C.G tm0) h)) v hist0)∧GM C ops bf k kp rest hist0 hE0 cur0 (G9 tm0 o.dst v)=some out:=by
       split at h
       ·rename_i hr
        unfold chk at h
        split at h
        ·rename_i hs;exact ⟨fun _=>hs,h⟩
        ·cases h
       ·rename_i hr;exact ⟨fun h=>absurd h hr,h⟩
      obtain ⟨t,m,q1,q2,q3,q4,q5,q6,q7⟩:=NM rest _ _ _ _ key.2
      exact shift t m v q1 q5 q6 q7 ⟨i,o,rfl,ho,hw,q1,.inl ⟨hc,hg,key.1,q2,q3,q4⟩⟩
    | a=>
     simp only [hc,Am]at h
     cases hg:gA b cur0 (C9 C o.op (rho C.G tm0) cur0)with
     | none=>simp [hg]at h
     | some p=>
      obtain ⟨v,H1⟩:=p
      simp only [hg,Option.bind_some]at h
      obtain ⟨t,m,q1,q2,q3,q4,q5,q6,q7⟩:=NM rest _ _ _ _ h
      exact shift t m v q1 q5 q6 q7 ⟨i,o,rfl,ho,hw,q1,.inr (.inl ⟨hc,by rw [show (Tr.cons tm0 hE0 cur0 hist0 v b t).cur (0+1)=H1 from q3];exact hg,q2,q4⟩)⟩
    | e=>
     simp only [hc,HD]at h
     cases hg:gE b cur0 (Ft C o.op (rho C.G tm0) cur0)with
     | none=>simp [hg]at h
     | some p=>
      obtain ⟨res,H1⟩:=p
      simp only [hg,Option.bind_some]at h
      cases res with
      | ret v=>
       obtain ⟨t,m,q1,q2,q3,q4,q5,q6,q7⟩:=NM rest _ _ _ _ h
       exact shift t m v q1 q5 q6 q7 ⟨i,o,rfl,ho,hw,q1,.inr (.inr ⟨hc,by rw [show (Tr.cons tm0 hE0 cur0 hist0 v b t).cur (0+1)=H1 from q3];exact hg,q2.trans q3.symm,q4⟩)⟩
      | pan x=>
       simp only []at h
       cases rest with
       | nil=>
        simp only []at h
        have hb:b=true:=by
         cases b with
         | true=>rfl
         | false=>simp [gE]at hg
        subst hb
        refine ⟨⟨fun _=>tm0,fun _=>hE0,fun _=>cur0,fun _=>hist0,fun _=>.undef,fun _=>true⟩,0,rfl,rfl,rfl,rfl,Vy _,fun j hj=>by omega,.inr ⟨rfl,i,o,x,H1,rfl,ho,hc,hw,by simpa [gE]using hg,h⟩⟩
       | cons _ _=>cases h
theorem Qj:∀(rest done:List Nat),N5.okFrom ops bf done rest=true →
  (∀(a:Nat) (j:Nat),rest[a]? = some j→∃oj,ops[j]? = some oj∧(∀e∈oj.after,Region.binds .any e=true→e.on∈done∨∃b,b<a∧rest[b]? = some e.on) ∧
   ∀i,(i∈done∨∃b,b<a∧rest[b]? = some i)→∃oi,ops[i]? = some oi∧i≠j∧(bf i j=true∨(isE oj=false∧oi.apart ops oj=true∧oj.apart ops oi=true)) ∧
    (isA oi=true→isE oj=false→∀d,oi.dst=some d→d ∉ oj.looksAt ops))
 | [],done,_=>fun a j h=>by simp at h
 | x::rest,done,h=>by
  simp only [N5.okFrom,Vh]at h
  obtain ⟨h1,h2⟩:=h
  have ih:=Qj rest (x::done) h2
  intro a j haj
  cases a with
  | zero=>
   simp at haj;subst haj
   cases ho:ops[x]? with
   | none=>simp [ho]at h1
   | some oj=>
    simp only [ho,Vh]at h1
    obtain ⟨h3,h4⟩:=h1
    refine ⟨oj,rfl,fun e he hb=>?_,fun i hi=>?_⟩
    ·have:=Array.all_eq_true_iff_forall_mem.1 h3 e he
     simp only [hb,VX,W4]at this
     exact .inl (by simpa using this)
    ·have hi':i∈done:=hi.resolve_right (fun ⟨b,hb,_⟩=>by omega)
     have:=Vn.1 h4 i hi'
     cases hoi:ops[i]? with
     | none=>simp [hoi]at this
     | some oi=>
      simp only [hoi,Vh,bne_iff_ne,Wa,Wc]at this
      obtain ⟨⟨q1,q2⟩,q3⟩:=this
      refine ⟨oi,rfl,q1,?_,fun ha he d hd=>?_⟩
      ·rcases q2 with q2 | ⟨⟨q2,q4⟩,q5⟩
       ·exact .inl q2
       ·exact .inr ⟨q2,q4,q5⟩
      ·rcases q3 with (q3 | q3) | q3
       ·rw [ha]at q3;cases q3
       ·rw [he]at q3;cases q3
       ·simpa [hd]using q3
  | succ a=>
   simp at haj
   obtain ⟨oj,q1,q2,q3⟩:=ih a j haj
   refine ⟨oj,q1,fun e he hb=>?_,fun i hi=>q3 i ?_⟩
   ·rcases q2 e he hb with q | ⟨b,hb1,hb2⟩
    ·rcases V7.1 q with q | q
     ·exact .inr ⟨0,by omega,by simp [q]⟩
     ·exact .inl q
    ·exact .inr ⟨b+1,by omega,by simpa using hb2⟩
   ·rcases hi with hi | ⟨b,hb1,hb2⟩
    ·exact .inl (by simp [hi])
    ·cases b with
     | zero=>simp at hb2;exact .inl (by simp [hb2])
     | succ b=>exact .inr ⟨b,by omega,by simpa using hb2⟩

end
section
variable {C:Cfg} {ops:Array Oper}
def OA (ops:Array Oper) (i:Nat):Option Tmp:=(ops[i]?).bind (·.dst)
def Dc (ops:Array Oper) (S:Nat→Bool) (cv:Nat→Value) (l:List Nat) (a:Act):Act:=l.foldl (fun a i=>if S i then a.put (OA ops i) (cv i)else a) a
theorem Db (S:Nat→Bool) (cv:Nat→Value) (x:Nat) (l:List Nat) (a:Act):Dc ops S cv (x::l) a=Dc ops S cv l (if S x then a.put (OA ops x) (cv x)else a):=rfl
theorem O0 (S:Nat→Bool) (cv:Nat→Value) (l l':List Nat) (a:Act):Dc ops S cv (l++l') a=Dc ops S cv l' (Dc ops S cv l a):=by simp [Dc,WY]
theorem NC (S:Nat→Bool) (cv:Nat→Value) (d:Option Tmp) (v:Value):∀(l:List Nat) (a:Act),(∀j∈l,S j=true→∀x,d=some x→OA ops j≠some x)→Dc ops S cv l (a.put d v)=(Dc ops S cv l a).put d v
 | [],a,_=>rfl
 | x::l,a,h=>by
  rw [Db,Db]
  by_cases hx:S x=true
  ·simp only [hx,if_true]
   rw [Act.put_comm a v (cv x) (h x (by simp) hx)]
   exact NC S cv d v l _ fun j hj=>h j (by simp [hj])
  ·simp only [hx,Vd,if_false]
   exact NC S cv d v l _ fun j hj=>h j (by simp [hj])
theorem NB {S S':Nat→Bool} {cv cv':Nat→Value}:∀(l:List Nat) (a:Act),(∀j∈l,S' j=S j∧(S j=true→cv' j=cv j))→Dc ops S' cv' l a=Dc ops S cv l a
 | [],a,_=>rfl
 | x::l,a,h=>by
  rw [Db,Db]
  obtain ⟨h1,h2⟩:=h x (by simp)
  rw [h1]
  by_cases hx:S x=true
  ·simp only [hx,if_true];rw [h2 hx];exact NB l _ fun j hj=>h j (by simp [hj])
  ·simp only [hx,Vd,if_false];exact NB l _ fun j hj=>h j (by simp [hj])
theorem U8 {S:Nat→Bool} {cv:Nat→Value} {i:Nat} {v:Value} (hi:S i=false):∀(l:List Nat) (a:Act) (p:Nat),l[p]? = some i→(∀(q r:Nat) (x:Nat),l[q]? = some x→l[r]? = some x→q=r) →
  (∀(q:Nat) (j:Nat),p<q→l[q]? = some j→S j=true→∀x,OA ops i=some x→OA ops j≠some x) →
  Dc ops (fun j=>if j=i then true else S j) (fun j=>if j=i then v else cv j) l a=(Dc ops S cv l a).put (OA ops i) v
 | [],a,p,h,_,_=>by simp at h
 | x::l,a,p,h,hu,hc=>by
  rw [Db,Db]
  cases p with
  | zero=>
   simp at h;subst h
   simp only [if_true,hi,Vd,if_false]
   have hni:∀j∈l,j≠x:=fun j hj e=>by
    subst e
    obtain ⟨q,hq,hjq⟩:=V5 hj
    have:=hu (q+1) 0 j (by simp [UU hq,hjq]) (by simp)
    omega
   rw [NB (S:=S) (cv:=cv) l _ fun j hj=>⟨by simp [hni j hj],fun _=>by simp [hni j hj]⟩]
   exact NC S cv _ v l a fun j hj hs=>by
    obtain ⟨q,hq,hjq⟩:=V5 hj
    exact hc (q+1) j (by omega) (by simp [UU hq,hjq]) hs
  | succ p=>
   simp at h
   have hne:x≠i:=fun e=>by
    have:=hu (p+1) 0 i (by simpa using h) (by simp [e])
    omega
   simp only [if_neg hne]
   exact U8 hi l _ p h (fun q r y h1 h2=>by have:=hu (q+1) (r+1) y (by simpa using h1) (by simpa using h2);omega) (fun q j hq hj=>hc (q+1) j (by omega) (by simpa using hj))
theorem put_size (a:Act) (d:Option Tmp) (v:Value):(a.put d v).tmps.size=a.tmps.size:=by cases d <;> simp [Act.put]
theorem Kq (S:Nat→Bool) (cv:Nat→Value):∀(l:List Nat) (a:Act),(Dc ops S cv l a).tmps.size=a.tmps.size
 | [],a=>rfl
 | x::l,a=>by rw [Db,Kq S cv l];split <;> simp [put_size]
theorem Kr (S:Nat→Bool) (cv:Nat→Value):∀(l:List Nat) (a:Act),(Dc ops S cv l a).defers=a.defers
 | [],a=>rfl
 | x::l,a=>by rw [Db,Kr S cv l];split <;> simp [RD]
theorem Ue (a:Act) (d:Option Tmp) (v:Value) (t:Nat) (h:d≠some t):(a.put d v).tmps.getD t undef=a.tmps.getD t undef:=by
 cases d with
 | none=>rfl
 | some d=>
  have:d≠t:=fun e=>h (by rw [e])
  simp [Act.put,Vq,Wu this]
theorem Ss (S:Nat→Bool) (cv:Nat→Value) (t:Nat):∀(l:List Nat) (a:Act),(∀j∈l,S j=true→OA ops j≠some t)→(Dc ops S cv l a).tmps.getD t undef=a.tmps.getD t undef
 | [],a,_=>rfl
 | x::l,a,h=>by
  rw [Db,Ss S cv t l _ fun j hj=>h j (by simp [hj])]
  split
  ·rename_i hx;exact Ue a _ _ t (h x (by simp) hx)
  ·rfl
theorem putT_other (tm:List Ab) (d:Option Tmp) (v:Ab) (t:Nat) (h:d≠some t):(G9 tm d v).getD t .undef=tm.getD t .undef:=by
 cases d with
 | none=>rfl
 | some d=>
  have:d≠t:=fun e=>h (by rw [e])
  simp [G9,UZ,UX this]
theorem put_at {E:Env} {tm:List Ab} {a:Act} {x:Ab} {v:Value} (hl:tm.length=a.tmps.size) (hv:Ax E x v) (t:Nat):Ax E ((G9 tm (some t) x).getD t .undef) ((a.put (some t) v).tmps.getD t undef):=by
 simp only [G9,Act.put,UZ,Vq]
 by_cases ht:t<tm.length
 ·rw [Vj ht,WZ (by omega)]
  exact hv
 ·rw [Vl (by simp;omega)]
  exact .undef _

structure Mx (C:Cfg) (ops:Array Oper) (perm:List Nat) (t:Tr) (M:Nat):Prop where
 len:perm.length=ops.size
 mem:∀i,i<ops.size→i∈perm
 le:M≤perm.length
 spec:∀(a:Nat) (j:Nat),perm[a]? = some j→∃oj,ops[j]? = some oj∧(∀e∈oj.after,Region.binds .any e=true→∃b,b<a∧perm[b]? = some e.on) ∧
   ∀(b i:Nat),b<a→perm[b]? = some i→∃oi,ops[i]? = some oi∧i≠j∧(((Region.before ops).getD j 0).testBit i=true∨(isE oj=false∧oi.apart ops oj=true∧oj.apart ops oi=true))∧(isA oi=true→isE oj=false→∀d,oi.dst=some d→d ∉ oj.looksAt ops)
 step:∀j,j<M→Tg C ops (fun i j=>((Region.before ops).getD j 0).testBit i) perm t j
section
variable {perm:List Nat} {t:Tr} {M:Nat}
theorem Mx.inj (R:Mx C ops perm t M) {a b i:Nat} (h1:perm[a]? = some i) (h2:perm[b]? = some i):a=b:=by
 rcases Nat.lt_trichotomy a b with h | h | h
 ·obtain ⟨_,_,_,h3⟩:=R.spec b i h2
  obtain ⟨_,_,h4,_⟩:=h3 a i h h1
  exact absurd rfl h4
 ·exact h
 ·obtain ⟨_,_,_,h3⟩:=R.spec a i h1
  obtain ⟨_,_,h4,_⟩:=h3 b i h h2
  exact absurd rfl h4
theorem Mx.pos (R:Mx C ops perm t M) {i:Nat} (hi:i<ops.size):∃j:Nat,perm[j]? = some i:=by
 obtain ⟨j,hj,he⟩:=V5 (R.mem i hi)
 exact ⟨j,by rw [UU hj,he]⟩
theorem apart_l {x y:Oper} (h:x.apart ops y=true) {d:Tmp} (hd:x.dst=some d):d ∉ y.looksAt ops∧y.dst≠some d:=by
 unfold Oper.apart at h
 rw [hd]at h
 simp only [Vh,Wc,bne_iff_ne]at h
 exact ⟨by simpa using h.1.1,h.1.2⟩
theorem LV {i:Nat} {o:Oper} (h:ops[i]? = some o):OA ops i=o.dst:=by simp [OA,h]
theorem Mx.tlen (R:Mx C ops perm t M) {n:Nat} (h0:(t.T 0).length=n):∀j,j≤M→(t.T j).length=n
 | 0,_=>h0
 | j+1,hj=>by
  obtain ⟨i,o,_,_,_,h,_⟩:=R.step j (by omega)
  rw [h]
  have:=R.tlen h0 j (by omega)
  cases o.dst <;> simp [G9,this]
theorem Mx.read (R:Mx C ops perm t M) {E:Env} {a0:Act} {S:Nat→Bool} {cv:Nat→Value} (h0:A4 E (t.T 0) a0.tmps.toList) (x:Nat) :
  ∀K,K≤M→(∀(j i:Nat) (o:Oper),j<K→perm[j]? = some i→ops[i]? = some o→o.dst=some x→S i=true∧Ax E (t.V j) (cv i)) →
   Ax E ((t.T K).getD x .undef) ((Dc ops S cv (perm.take K) a0).tmps.getD x undef)
 | 0,_,_=>by simpa [Dc]using J8 h0 x
 | K+1,hK,h=>by
  obtain ⟨i,o,h1,h2,_,h3,_⟩:=R.step K (by omega)
  have ih:=R.read h0 x K (by omega) fun j i o hj=>h j i o (by omega)
  have htake:perm.take (K+1)=perm.take K++[i]:=by
   rw [List.take_add_one,h1];rfl
  rw [htake,O0,h3,Db]
  have hl:(t.T K).length=(Dc ops S cv (perm.take K) a0).tmps.size:=by
   rw [Kq,R.tlen rfl K (by omega)]
   simpa using h0.1
  rw [LV h2]
  by_cases hd:o.dst=some x
  ·obtain ⟨h4,h5⟩:=h K i o (by omega) h1 h2 hd
   simp only [h4,if_true,hd]
   exact put_at hl h5 x
  ·rw [putT_other _ _ _ _ hd]
   split
   ·show Ax E _ ((Dc ops S cv [] _).tmps.getD x undef)
    simp only [Dc,List.foldl_nil]
    rw [Ue _ _ _ _ hd];exact ih
   ·exact ih

end
end
section
variable {C:Cfg} {ops:Array Oper} {perm:List Nat} {t:Tr} {M:Nat}
def Q2 (E0:Env) (w0:World) (t:Tr) (E:Env) (H:Aa) (w:World) (j b:Nat) (v:Value):Prop:=
 ∃(blk:Blk) (f:Nat→Ab),w0.heap.size≤b∧OR E H w b blk∧t.cur (j+1)=t.cur j++[blk]∧t.V j=f (t.cur j).length∧∀(E':Env) (n:Nat),E'.φ n 0=some b→Ax E' (f n) v
structure Inv (C:Cfg) (ops:Array Oper) (perm:List Nat) (t:Tr) (M:Nat) (E0:Env) (H0:Aa) (w0:World) (c:Nat) (S:Nat→Bool) (cv:Nat→Value) (bo:Nat→Nat) (E:Env) (w:World):Prop where
 le:c≤M
 pre:∀(j i:Nat),j<c→perm[j]? = some i→S i=true
 noE:∀(j i:Nat) (o:Oper),c≤j→perm[j]? = some i→ops[i]? = some o→S i=true→isE o=false∧j<M
 closed:∀(j:Nat) (o:Oper),S j=true→ops[j]? = some o→∀e∈o.after,Region.binds .any e=true→S e.on=true
 glob:D9 C.G E
 step:BH E0 H0 w0 E (t.cur c) w
 sim:Sim E (t.cur c) w
 vals:∀(j i:Nat) (o:Oper),perm[j]? = some i→ops[i]? = some o→S i=true→(j<c∨isA o=false∨t.B j=false)→Ax E (t.V j) (cv i)
 early:∀(j i:Nat) (o:Oper),c≤j→perm[j]? = some i→ops[i]? = some o→S i=true→isA o=true→t.B j=true→Q2 E0 w0 t E (t.cur c) w j (bo i) (cv i)
 inj:∀(j i j' i':Nat) (o o':Oper),c≤j→c≤j'→perm[j]? = some i→perm[j']? = some i'→ops[i]? = some o→ops[i']? = some o'→S i=true→S i'=true→isA o=true→isA o'=true→t.B j=true→t.B j'=true→bo i=bo i'→i=i'
theorem OR.persist {E E':Env} {H H':Aa} {w w':World} {b:Nat} {blk:Blk} (h:OR E H w b blk) (st:BH E H w E' H' w'):OR E' H' w' b blk:=by
 refine ⟨VR h.lt st.size,fun ho=>?_,fun o=>by rw [st.imm b o h.lt h.free];exact h.imm o,?_⟩
 ·rcases st.own b ho with h1 | h1
  ·exact h.free h1
  ·have:=h.lt;omega
 ·rcases h.rel with ⟨cells,cs,tt,h1,h2,h3⟩ | ⟨h1,ck,h2⟩ | ⟨cells,cs,tt,h1,h2,h3⟩
  ·exact .inl ⟨cells,cs,tt,h1,by rw [st.frame b h.lt h.free];exact h2,h3.mono st.le⟩
  ·exact .inr (.inl ⟨h1,ck,by rw [st.frame b h.lt h.free];exact h2⟩)
  ·exact .inr (.inr ⟨cells,cs,tt,h1,by rw [st.frame b h.lt h.free];exact h2,h3.mono st.le⟩)
theorem Q2.persist {E0:Env} {w0:World} {E E':Env} {H H':Aa} {w w':World} {j b:Nat} {v:Value} (h:Q2 E0 w0 t E H w j b v) (st:BH E H w E' H' w'):Q2 E0 w0 t E' H' w' j b v:=by
 obtain ⟨blk,f,h1,h2,h3⟩:=h
 exact ⟨blk,f,h1,h2.persist st,h3⟩
theorem owned_take {E:Env} {H:Aa} {w:World} {b:Nat} {blk:Blk} (hs:Sim E H w) (h:OR E H w b blk) {x:Nat} (ho:My (E.setφ H.length 0 b) (H++[blk]) x):x=b∨My E H x:=by
 have st:BH E H { w with heap:=w.heap } E H w:=.refl E H w
 obtain ⟨i,hi⟩:=ho
 unfold loc at hi
 rw [VF]at hi
 split at hi
 ·rename_i hlt
  right
  refine ⟨i,?_⟩
  unfold loc
  rw [UU hlt]at hi ⊢
  simp only [Option.bind_some]at hi ⊢
  have hno:∀g y,E.φ H.length g=some y→False:=fun g x hx=>by have:=hs.dom _ _ _ hx;omega
  cases hB:H[i] <;> rw [hB]at hi <;> simp only [Ck,Env.setφ]at hi ⊢ <;> first | exact hi | (rw [if_neg (by omega)]at hi;exact hi)
 ·rename_i hlt
  cases hx:i-H.length with
  | succ n=>simp [hx]at hi
  | zero=>
   have:i=H.length:=by omega
   subst this
   rw [hx]at hi
   simp only [List.getElem?_cons_zero,Option.bind_some]at hi
   left
   rcases h.rel with ⟨cells,cs,tt,h1,_⟩ | ⟨h1,_⟩ | ⟨cells,cs,tt,h1,_⟩ <;> subst h1 <;> simp [Ck,Env.setφ]at hi <;> exact hi.symm
theorem Q2.take {E0:Env} {w0:World} {E:Env} {H:Aa} {w:World} {j b b':Nat} {v:Value} {blk:Blk} (hs:Sim E H w) (hb:OR E H w b blk) (h:Q2 E0 w0 t E H w j b' v) (hne:b'≠b) (hle:E.le (E.setφ H.length 0 b)) :
  Q2 E0 w0 t (E.setφ H.length 0 b) (H++[blk]) w j b' v:=by
 obtain ⟨blk',f,h1,h2,h3⟩:=h
 refine ⟨blk',f,h1,⟨h2.lt,fun ho=>?_,h2.imm,?_⟩,h3⟩
 ·rcases owned_take hs hb ho with h4 | h4
  ·exact hne h4
  ·exact h2.free h4
 ·rcases h2.rel with ⟨cells,cs,tt,q1,q2,q3⟩ | q | ⟨cells,cs,tt,q1,q2,q3⟩
  ·exact .inl ⟨cells,cs,tt,q1,q2,q3.mono hle⟩
  ·exact .inr (.inl q)
  ·exact .inr (.inr ⟨cells,cs,tt,q1,q2,q3.mono hle⟩)
section
variable {E0:Env} {H0:Aa} {w0:World} {S:Nat→Bool} {cv:Nat→Value} {bo:Nat→Nat}
theorem IV {o:Oper}:isE o=true↔cls o.op=.e:=by unfold isE;split <;> simp_all
theorem Ot {o:Oper}:isA o=true↔cls o.op=.a:=by unfold isA;split <;> simp_all
theorem Inv.absorb (R:Mx C ops perm t M) {c:Nat} {E:Env} {w:World} (I:Inv C ops perm t M E0 H0 w0 c S cv bo E w) (hc:c<M) {i:Nat} (hi:perm[c]? = some i) (hS:S i=true) :
  ∃E',Inv C ops perm t M E0 H0 w0 (c+1) S cv bo E' w∧E.le E':=by
 obtain ⟨i',o,h1,h2,_,_,hst⟩:=R.step c hc
 rw [hi]at h1;cases h1
 have hnE:=(I.noE c i o (Va _) hi h2 hS).1
 have pre':∀(j x:Nat),j<c+1→perm[j]? = some x→S x=true:=fun j x hj hx=>by
  rcases Nat.lt_succ_iff_lt_or_eq.1 hj with h | h
  ·exact I.pre j x h hx
  ·subst h;rw [hi]at hx;cases hx;exact hS
 have plain:t.cur (c+1)=t.cur c→Ax E (t.V c) (cv i)→∃E',Inv C ops perm t M E0 H0 w0 (c+1) S cv bo E' w∧E.le E':=by
  intro hcur hv
  refine ⟨E,⟨hc,pre',fun j x ox hj=>I.noE j x ox (by omega),I.closed,I.glob,by rw [hcur];exact I.step,by rw [hcur];exact I.sim,fun j x ox hx hox hSx hh=>?_,fun j x ox hj=>by rw [hcur];exact I.early j x ox (by omega),fun j x j' x' ox ox' hj hj'=>I.inj j x j' x' ox ox' (by omega) (by omega)⟩,.refl E⟩
  by_cases hjc:j=c
  ·subst hjc;rw [hi]at hx;cases hx;exact hv
  ·exact I.vals j x ox hx hox hSx (hh.imp (fun h=>by omega) id)
 rcases hst with ⟨hcl,_,_,_,hcur,_⟩ | ⟨hcl,hg,_⟩ | ⟨hcl,_⟩
 ·have hnA:isA o=false:=by cases hq:isA o <;> simp_all [Ot]
  exact plain hcur (I.vals c i o hi h2 hS (.inr (.inl hnA)))
 ·have hA:isA o=true:=Ot.2 hcl
  cases hB:t.B c with
  | false=>
   rw [hB]at hg
   simp only [gA,Vd,if_false,Ve,Vv]at hg
   exact plain hg.2.symm (I.vals c i o hi h2 hS (.inr (.inr hB)))
  | true=>
   obtain ⟨blk,f,e1,e2,e3,e4,e5⟩:=I.early c i o (Va _) hi h2 hS hA hB
   obtain ⟨k1,k2⟩:=e2.take I.sim I.step e1
   have hle:E.le (E.setφ (t.cur c).length 0 (bo i)):=by
    refine ⟨fun x g y hx=>?_,fun _ _ _ h=>h,fun _ _ _ h=>h⟩
    have:¬(x=(t.cur c).length∧g=0):=fun ⟨q1,q2⟩=>by have:=I.sim.dom _ _ _ hx;omega
    simp [Env.setφ,this,hx]
   refine ⟨E.setφ (t.cur c).length 0 (bo i),⟨hc,pre',fun j x ox hj=>I.noE j x ox (by omega),I.closed,I.glob.mono hle,by rw [e3];exact k2,by rw [e3];exact k1,fun j x ox hx hox hSx hh=>?_,fun j x ox hj hx hox hSx hAx hBx=>?_,
    fun j x j' x' ox ox' hj hj'=>I.inj j x j' x' ox ox' (by omega) (by omega)⟩,hle⟩
   ·by_cases hjc:j=c
    ·subst hjc;rw [hi]at hx;cases hx
     rw [e4];exact e5 _ _ (by simp [Env.setφ])
    ·exact (I.vals j x ox hx hox hSx (hh.imp (fun h=>by omega) id)).mono hle
   ·rw [e3]
    refine (I.early j x ox (by omega) hx hox hSx hAx hBx).take I.sim e2 (fun hb=>?_) hle
    have:=I.inj j x c i ox o (by omega) (Va _) hx hi hox h2 hSx hS hAx hA hBx hB hb
    subst this
    have:=R.inj hx hi
    omega
 ·rw [IV.2 hcl]at hnE;cases hnE
theorem Inv.absorbTo (R:Mx C ops perm t M) (K:Nat) (hK:K≤M) (hS:∀(j i:Nat),j<K→perm[j]? = some i→S i=true):∀(d c:Nat) (E:Env) (w:World),c+d=K→Inv C ops perm t M E0 H0 w0 c S cv bo E w→∃E',Inv C ops perm t M E0 H0 w0 K S cv bo E' w∧E.le E'
 | 0,c,E,w,h,I=>by simp at h;subst h;exact ⟨E,I,.refl E⟩
 | d+1,c,E,w,h,I=>by
  obtain ⟨i,o,h1,_⟩:=R.step c (by omega)
  obtain ⟨E',I',l1⟩:=I.absorb R (by omega) h1 (hS c i (by omega) h1)
  obtain ⟨E2,I2,l2⟩:=Inv.absorbTo R K hK hS d (c+1) E' w (by omega) I'
  exact ⟨E2,I2,l1.trans l2⟩

end
end
theorem UB {p q:Nat→Bool} {i:Nat} (hp:p i=true) (hq:q i=false) (h:∀x,q x=true→p x=true):∀l:List Nat,(l.filter q).length≤(l.filter p).length∧(i∈l→(l.filter q).length<(l.filter p).length)
 | []=>⟨Va _,fun h=>by simp at h⟩
 | x::l=>by
  obtain ⟨h1,h2⟩:=UB hp hq h l
  by_cases hx:q x=true
  ·rw [XJ hx,XJ (h x hx)]
   simp only [List.length_cons]
   refine ⟨by omega,fun hm=>?_⟩
   rcases V7.1 hm with e | e
   ·rw [←e,hq]at hx;cases hx
   ·have:=h2 e;omega
  ·rw [List.filter_cons_of_neg hx]
   by_cases hpx:p x=true
   ·rw [XJ hpx]
    simp only [List.length_cons]
    exact ⟨by omega,fun _=>by omega⟩
   ·rw [List.filter_cons_of_neg hpx]
    refine ⟨h1,fun hm=>?_⟩
    rcases V7.1 hm with e | e
    ·rw [←e]at hpx;exact absurd hp hpx
    ·exact h2 e
section
variable {C:Cfg} {ops:Array Oper} {perm:List Nat} {t:Tr} {M:Nat} {E0:Env} {H0:Aa} {w0:World} {S:Nat→Bool} {cv:Nat→Value} {bo:Nat→Nat}
theorem Inv.add (R:Mx C ops perm t M) {c:Nat} {E:Env} {w:World} (I:Inv C ops perm t M E0 H0 w0 c S cv bo E w) {j i:Nat} {o:Oper} (hj:perm[j]? = some i) (ho:ops[i]? = some o) (hcj:c≤j) (hjM:j<M) (hnE:isE o=false)
  (hedge:∀e∈o.after,Region.binds .any e=true→S e.on=true) {E':Env} {w':World} (hs:Sim E' (t.cur c) w') (st:BH E (t.cur c) w E' (t.cur c) w') (v:Value) (b:Nat)
  (hv:(isA o=false∨t.B j=false)→Ax E' (t.V j) v) (hb:isA o=true→t.B j=true→b=w.heap.size∧Q2 E0 w0 t E' (t.cur c) w' j b v) :
  Inv C ops perm t M E0 H0 w0 c (fun x=>if x=i then true else S x) (fun x=>if x=i then v else cv x) (fun x=>if x=i then b else bo x) E' w':=by
 have hne:∀ {q x:Nat},perm[q]? = some x→x≠i→q≠j:=fun h1 h2 h3=>h2 (by subst h3;rw [hj]at h1;exact (WG h1).symm)
 refine ⟨I.le,fun q x hq hx=>?_,fun q x ox hq hx hox hS=>?_,fun x ox hS hox e he hbd=>?_,I.glob.mono st.le,I.step.trans st,hs,fun q x ox hx hox hS hh=>?_,fun q x ox hq hx hox hS hA hB=>?_,fun q x q' x' ox ox' hq hq' hx hx' hox hox' hS hS' hA hA' hB hB' heq=>?_⟩
 ·show (if x=i then true else S x)=true
  split
  ·rfl
  ·exact I.pre q x hq hx
 ·by_cases hxi:x=i
  ·subst hxi
   rw [ho]at hox;cases hox
   have:=R.inj hx hj
   exact ⟨hnE,by omega⟩
  ·simp only [if_neg hxi]at hS
   exact I.noE q x ox hq hx hox hS
 ·have hSe:S e.on=true:=by
   by_cases hxi:x=i
   ·subst hxi;rw [ho]at hox;cases hox;exact hedge e he hbd
   ·simp only [if_neg hxi]at hS;exact I.closed x ox hS hox e he hbd
  show (if e.on=i then true else S e.on)=true
  split
  ·rfl
  ·exact hSe
 ·by_cases hxi:x=i
  ·subst hxi
   rw [ho]at hox;cases hox
   have:=R.inj hx hj;subst this
   simp only [if_true]
   exact hv (hh.resolve_left (by omega))
  ·simp only [if_neg hxi]at hS ⊢
   exact (I.vals q x ox hx hox hS hh).mono st.le
 ·by_cases hxi:x=i
  ·subst hxi
   rw [ho]at hox;cases hox
   have:=R.inj hx hj;subst this
   simp only [if_true]
   exact (hb hA hB).2
  ·simp only [if_neg hxi]at hS ⊢
   exact (I.early q x ox hq hx hox hS hA hB).persist st
 ·by_cases hxi:x=i <;> by_cases hxi':x'=i
  ·rw [hxi,hxi']
  ·exfalso
   subst hxi
   rw [ho]at hox;cases hox
   have:=R.inj hx hj;subst this
   simp only [if_true,if_neg hxi']at heq hS'
   obtain ⟨blk,f,_,h2,_⟩:=I.early q' x' ox' hq' hx' hox' hS' hA' hB'
   have:=h2.lt
   have:=(hb hA hB).1
   omega
  ·exfalso
   subst hxi'
   rw [ho]at hox';cases hox'
   have:=R.inj hx' hj;subst this
   simp only [if_true,if_neg hxi]at heq hS
   obtain ⟨blk,f,_,h2,_⟩:=I.early q x ox hq hx hox hS hA hB
   have:=h2.lt
   have:=(hb hA' hB').1
   omega
  ·simp only [if_neg hxi,if_neg hxi']at heq hS hS'
   exact I.inj q x q' x' ox ox' hq hq' hx hx' hox hox' hS hS' hA hA' hB hB' heq
theorem Inv.addE (R:Mx C ops perm t M) {c:Nat} {E:Env} {w:World} (I:Inv C ops perm t M E0 H0 w0 c S cv bo E w) {i:Nat} {o:Oper} (hj:perm[c]? = some i) (ho:ops[i]? = some o) (hcM:c<M) (hE:isE o=true)
  (hedge:∀e∈o.after,Region.binds .any e=true→S e.on=true) {E':Env} {w':World} (hs:Sim E' (t.cur (c+1)) w') (st:BH E (t.cur c) w E' (t.cur (c+1)) w') (v:Value) (hv:Ax E' (t.V c) v) :
  Inv C ops perm t M E0 H0 w0 (c+1) (fun x=>if x=i then true else S x) (fun x=>if x=i then v else cv x) bo E' w':=by
 have hnA:isA o=false:=by
  cases hq:isA o with
  | false=>rfl
  | true=>rw [IV]at hE;rw [Ot]at hq;rw [hE]at hq;cases hq
 refine ⟨hcM,fun q x hq hx=>?_,fun q x ox hq hx hox hS=>?_,fun x ox hS hox e he hbd=>?_,I.glob.mono st.le,I.step.trans st,hs,fun q x ox hx hox hS hh=>?_,fun q x ox hq hx hox hS hA hB=>?_,fun q x q' x' ox ox' hq hq' hx hx' hox hox' hS hS' hA hA' hB hB' heq=>?_⟩
 ·show (if x=i then true else S x)=true
  split
  ·rfl
  ·rename_i hxi
   refine I.pre q x ?_ hx
   have:q≠c:=fun e=>hxi (by subst e;rw [hj]at hx;exact (WG hx).symm)
   omega
 ·by_cases hxi:x=i
  ·subst hxi;have:=R.inj hx hj;omega
  ·simp only [if_neg hxi]at hS;exact I.noE q x ox (by omega) hx hox hS
 ·have hSe:S e.on=true:=by
   by_cases hxi:x=i
   ·subst hxi;rw [ho]at hox;cases hox;exact hedge e he hbd
   ·simp only [if_neg hxi]at hS;exact I.closed x ox hS hox e he hbd
  show (if e.on=i then true else S e.on)=true
  split
  ·rfl
  ·exact hSe
 ·by_cases hxi:x=i
  ·subst hxi
   have:=R.inj hx hj;subst this
   simp only [if_true];exact hv
  ·simp only [if_neg hxi]at hS ⊢
   have:q≠c:=fun e=>hxi (by subst e;rw [hj]at hx;exact (WG hx).symm)
   exact (I.vals q x ox hx hox hS (hh.imp (fun h=>by omega) id)).mono st.le
 ·by_cases hxi:x=i
  ·subst hxi;have:=R.inj hx hj;omega
  ·simp only [if_neg hxi]at hS ⊢
   exact (I.early q x ox (by omega) hx hox hS hA hB).persist st
 ·by_cases hxi:x=i
  ·subst hxi;have:=R.inj hx hj;omega
  ·by_cases hxi':x'=i
   ·subst hxi';have:=R.inj hx' hj;omega
   ·simp only [if_neg hxi,if_neg hxi']at heq hS hS'
    exact I.inj q x q' x' ox ox' (by omega) (by omega) hx hx' hox hox' hS hS' hA hA' hB hB' heq

def Gj (n:Nat) (ops:Array Oper) (o:Oper) (tm:List Ab):List Ab:=(List.range n).map fun x=>if x∈o.looksAt ops then tm.getD x .undef else .undef
theorem RY {n:Nat} {o:Oper} {tm:List Ab} (hn:tm.length=n) {x:Nat} (hx:x∈o.looksAt ops):(Gj n ops o tm).getD x .undef=tm.getD x .undef:=by
 unfold Gj
 rw [UZ,V0]
 by_cases h:x<n
 ·rw [Wh h];simp [hx]
 ·rw [Vl (by simp;omega),UZ,Vl (by omega)];rfl
theorem Kj {n:Nat} {o:Oper} {tm:List Ab} (hn:tm.length=n) {x:Operand} (hx:x∈o.op.operands):rho C.G (Gj n ops o tm) x=rho C.G tm x:=by
 cases x with
 | tmp d=>
  simp only [rho]
  refine RY hn ?_
  unfold Oper.looksAt
  refine Vt.2 (.inl (List.mem_filterMap.2 ⟨.tmp d,by simpa using hx,rfl⟩))
 | _=>rfl
theorem LH {n:Nat} {o:Oper} {tm:List Ab} (hn:tm.length=n):If ops o (Gj n ops o tm)=If ops o tm:=by
 unfold If
 cases hg:o.guard with
 | none=>rfl
 | some p=>
  obtain ⟨g,want⟩:=p
  simp only []
  cases hd:(ops[g]?).bind (·.dst)with
  | none=>rfl
  | some d=>
   have:d∈o.looksAt ops:=by
    unfold Oper.looksAt
    rw [hg]
    refine Vt.2 (.inr ?_)
    simp [hd]
   simp only [Option.map_some]
   rw [RY hn this]
theorem Inv.looks (R:Mx C ops perm t M) {n:Nat} {c:Nat} {E:Env} {w:World} (I:Inv C ops perm t M E0 H0 w0 c S cv bo E w) {a0:Act} (h0:A4 E (t.T 0) a0.tmps.toList) (hn:(t.T 0).length=n) {j i:Nat} {o:Oper} (hj:perm[j]? = some i) (ho:ops[i]? = some o) (hjM:j≤M) (hS:S i=false)
  (hbf:∀x,((Region.before ops).getD i 0).testBit x=true→S x=true) (hcase:isE o=false∨j=c):A4 E (Gj n ops o (t.T j)) (Dc ops S cv perm a0).tmps.toList:=by
 have hsz:(Dc ops S cv perm a0).tmps.size=n:=by rw [Kq,←hn];simpa using h0.1.symm
 refine ⟨by simp [Gj,hsz],fun x y u h1 h2=>?_⟩
 have hx:x<n:=by have:=(UV.1 h1).1;simpa [Gj]using this
 have hy:y=if x∈o.looksAt ops then (t.T j).getD x .undef else .undef:=by
  unfold Gj at h1
  rw [V0,Wh hx]at h1
  simpa using h1.symm
 have hu:u=(Dc ops S cv perm a0).tmps.getD x undef:=by
  rw [Ww]at h2
  simp [Vq,h2]
 rw [hy]
 split
 ·rename_i hl
  rw [hu]
  have hsplit:Dc ops S cv perm a0=Dc ops S cv (perm.drop j) (Dc ops S cv (perm.take j) a0):=by rw [←O0,VG]
  rw [hsplit,Ss]
  ·refine R.read h0 x j hjM fun j' i' o' hj' hi' ho' hd=>?_
   obtain ⟨o2,q1,q2,q3⟩:=R.spec j i hj
   rw [ho]at q1;cases q1
   obtain ⟨o3,p1,p2,p3,p4⟩:=q3 j' i' hj' hi'
   rw [ho']at p1;cases p1
   have hSi:S i'=true:=by
    rcases p3 with p3 | ⟨_,p3,_⟩
    ·exact hbf _ p3
    ·exact absurd hl (apart_l p3 hd).1
   refine ⟨hSi,I.vals j' i' o' hi' ho' hSi ?_⟩
   by_cases hjc:j'<c
   ·exact .inl hjc
   ·rcases hcase with hE | hE
    ·cases hA:isA o' with
     | false=>exact .inr (.inl rfl)
     | true=>exact absurd hl (p4 hA hE x hd)
    ·omega
  ·intro k hk hSk hd
   obtain ⟨q,hq,hkq⟩:=V5 hk
   have hq':perm[j+q]? = some k:=by rw [←VB,UU hq,hkq]
   cases q with
   | zero=>rw [Nat.add_zero,hj]at hq';cases hq';rw [hS]at hSk;cases hSk
   | succ q=>
    obtain ⟨ok,q1,q2,q3⟩:=R.spec (j+(q+1)) k hq'
    obtain ⟨o3,p1,p2,p3,p4⟩:=q3 j i (by omega) hj
    rw [ho]at p1;cases p1
    rw [LV q1]at hd
    rcases p3 with p3 | ⟨_,_,p3⟩
    ·have:S i=true:=Mu (S:=fun x=>S x=true) (fun x ox hSx hox=>I.closed x ox hSx hox) k i (fun ox hox=>I.closed k ox hSk hox) p3
     rw [hS]at this;cases this
    ·exact (apart_l p3 hd).1 hl
 ·exact .undef _

end
section
variable {C:Cfg} {ops:Array Oper} {perm:List Nat} {t:Tr} {M:Nat} {E0:Env} {H0:Aa} {w0:World}
theorem stab_at {bf:Nat→Bool} {f:Aa→Option Ab} {v:Ab}:∀(hist:List (Nat×Aa)) (q:Nat) (e:Nat) (h:Aa),stab bf f v hist→hist[q]? = some (e,h)→(∀(r:Nat) (e':Nat) (h':Aa),r≤q→hist[r]? = some (e',h')→bf e'=false)→f h=some v
 | [],q,e,h,_,hq,_=>by simp at hq
 | (e1,h1)::r,q,e,h,hst,hq,hb=>by
  have h0:=hb 0 e1 h1 (by omega) rfl
  simp only [stab,h0,Vd,if_false]at hst
  cases q with
  | zero=>simp at hq;obtain ⟨rfl,rfl⟩:=hq;exact hst.1
  | succ q=>exact stab_at r q e h hst.2 (by simpa using hq) (fun r' e' h' hr'=>hb (r'+1) e' h' (by omega))
theorem Qz {cells:Option (List Ab)} {H H':Aa} {z:Ab} (h:Az cells H=some (z,H')):∃blk,H'=H++[blk]:=by
 cases cells with
 | none=>cases h
 | some cs=>
  simp only [Az,Option.bind_some]at h
  split at h
  ·simp only [Ve,Vv]at h;exact ⟨_,h.2.symm⟩
  ·cases h
theorem allocT_push {t:TypeId} {cells:Option (List Ab)} {H H':Aa} {z:Ab} (h:I8 t cells H=some (z,H')):∃blk,H'=H++[blk]:=by
 cases cells with
 | none=>cases h
 | some cs=>
  simp only [I8,Option.bind_some]at h
  split at h
  ·simp only [Ve,Vv]at h;exact ⟨_,h.2.symm⟩
  ·cases h
theorem makeA_push {sz bytes:Nat} {z0:Option (List Ab)} {l c:Ab} {H H':Aa} {z:Ab} (h:Fi sz bytes z0 l c H=some (z,H')):∃blk,H'=H++[blk]:=by
 cases z0 with
 | none=>cases h
 | some cs=>
  simp only [Fi,Option.bind_some]at h
  split at h
  ·split at h
   ·simp only [Ve,Vv]at h;exact ⟨_,h.2.symm⟩
   ·cases h
  ·cases h
theorem Nq {H H':Aa} {z:Ab} (h:Ew H=some (z,H')):∃blk,H'=H++[blk]:=by
 simp only [Ew,Ve,Vv]at h;exact ⟨_,h.2.symm⟩
theorem stepA_push {op:Op} {r:Operand→Ab} {H H':Aa} {z:Ab} (h:C9 C op r H=some (z,H')):∃blk,H'=H++[blk]:=by
 unfold C9 at h
 split at h
 ·split at h
  ·cases h
  ·split at h
   ·exact allocT_push h
   ·exact Qz h
 ·split at h
  ·split at h
   ·cases h
   ·exact Qz h
  ·cases h
 ·split at h
  ·split at h
   ·cases h
   ·exact makeA_push h
  ·cases h
 ·split at h
  ·exact Nq h
  ·split at h
   ·exact Nq h
   ·cases h
  ·cases h
 ·cases h
theorem Mx.hists (R:Mx C ops perm t M) (hh0:t.hist 0=[]) (hc0:t.cur 0=t.hE 0):∀j,j≤M →
  (∃p,t.cur j=t.hE j++p)∧∀c,c≤j→t.hE c=t.hE j∨∃(q e:Nat) (b:Nat) (o:Oper),(t.hist j)[q]? = some (e,t.hE c)∧c≤b∧b<j∧perm[b]? = some e∧ops[e]? = some o∧isE o=true ∧
   ∀(r e':Nat) (h':Aa),r≤q→(t.hist j)[r]? = some (e',h')→∃(b':Nat) (o':Oper),c≤b'∧b'<j∧perm[b']? = some e'∧ops[e']? = some o'∧isE o'=true
 | 0,_=>⟨⟨[],by rw [hc0];simp⟩,fun c hc=>.inl (by rw [Nat.le_zero.1 hc])⟩
 | j+1,hj=>by
  obtain ⟨⟨p,hp⟩,ih⟩:=R.hists hh0 hc0 j (by omega)
  obtain ⟨i,o,h1,h2,_,_,hst⟩:=R.step j (by omega)
  have lift:t.hE (j+1)=t.hE j→t.hist (j+1)=t.hist j→∀c,c≤j+1→t.hE c=t.hE (j+1)∨∃(q e:Nat) (b:Nat) (o:Oper),(t.hist (j+1))[q]? = some (e,t.hE c)∧c≤b∧b<j+1∧perm[b]? = some e∧ops[e]? = some o∧isE o=true ∧
    ∀(r e':Nat) (h':Aa),r≤q→(t.hist (j+1))[r]? = some (e',h')→∃(b':Nat) (o':Oper),c≤b'∧b'<j+1∧perm[b']? = some e'∧ops[e']? = some o'∧isE o'=true:=by
   intro e1 e2 c hc
   by_cases hcj:c=j+1
   ·exact .inl (by rw [hcj])
   ·rcases ih c (by omega)with h | ⟨q,e,b,ob,g1,g2,g3,g4,g5,g6,g7⟩
    ·exact .inl (by rw [h,e1])
    ·refine .inr ⟨q,e,b,ob,by rw [e2];exact g1,g2,by omega,g4,g5,g6,fun r e' h' hr hh=>?_⟩
     rw [e2]at hh
     obtain ⟨b',o',x1,x2,x3⟩:=g7 r e' h' hr hh
     exact ⟨b',o',x1,by omega,x3⟩
  rcases hst with ⟨hcl,_,_,e1,e2,e3⟩ | ⟨hcl,hg,e1,e3⟩ | ⟨hcl,hg,e1,e3⟩
  ·exact ⟨⟨p,by rw [e2,e1];exact hp⟩,lift e1 e3⟩
  ·refine ⟨?_,lift e1 e3⟩
   cases hB:t.B j with
   | false=>rw [hB]at hg;simp only [gA,Vd,if_false,Ve,Vv]at hg;exact ⟨p,by rw [←hg.2,e1];exact hp⟩
   | true=>
    rw [hB]at hg
    simp only [gA,if_true]at hg
    have hpush:=stepA_push hg
    obtain ⟨blk,hb⟩:=hpush
    exact ⟨p++[blk],by rw [hb,e1,hp,Vb]⟩
  ·refine ⟨⟨[],by rw [e1];simp⟩,fun c hc=>?_⟩
   by_cases hcj:c=j+1
   ·exact .inl (by rw [hcj])
   ·have hEo:isE o=true:=IV.2 hcl
    rcases ih c (by omega)with h | ⟨q,e,b,ob,g1,g2,g3,g4,g5,g6,g7⟩
    ·refine .inr ⟨0,i,j,o,by rw [e3,h];rfl,by omega,by omega,h1,h2,hEo,fun r e' h' hr hh=>?_⟩
     have:r=0:=by omega
     subst this
     rw [e3]at hh
     simp at hh
     exact ⟨j,o,by omega,by omega,by rw [←hh.1];exact h1,by rw [←hh.1];exact h2,hEo⟩
    ·refine .inr ⟨q+1,e,b,ob,by rw [e3];simpa using g1,g2,by omega,g4,g5,g6,fun r e' h' hr hh=>?_⟩
     rw [e3]at hh
     cases r with
     | zero=>simp at hh;exact ⟨j,o,by omega,by omega,by rw [←hh.1];exact h1,by rw [←hh.1];exact h2,hEo⟩
     | succ r=>
      obtain ⟨b',o',x1,x2,x3⟩:=g7 r e' h' (by omega) (by simpa using hh)
      exact ⟨b',o',x1,by omega,x3⟩
theorem Q0 {cells:Option (List Ab)} {H:Aa} (h:Az cells H≠none) (H2:Aa):Az cells H2≠none:=by
 cases cells with
 | none=>exact h
 | some cs=>simp only [Az,Option.bind_some]at h ⊢;split <;> simp_all
theorem allocT_free {t:TypeId} {cells:Option (List Ab)} {H:Aa} (h:I8 t cells H≠none) (H2:Aa):I8 t cells H2≠none:=by
 cases cells with
 | none=>exact h
 | some cs=>simp only [I8,Option.bind_some]at h ⊢;split <;> simp_all
theorem makeA_free {sz bytes:Nat} {z0:Option (List Ab)} {l c:Ab} {H:Aa} (h:Fi sz bytes z0 l c H≠none) (H2:Aa):Fi sz bytes z0 l c H2≠none:=by
 cases z0 with
 | none=>exact h
 | some cs=>
  simp only [Fi,Option.bind_some]at h ⊢
  split at h
  ·split at h
   ·rename_i hc;rw [if_pos hc];simp
   ·exact absurd rfl h
  ·exact absurd rfl h
theorem stepA_free {op:Op} {r:Operand→Ab} {H:Aa} (h:C9 C op r H≠none) (H2:Aa):C9 C op r H2≠none:=by
 cases op with
 | alloc t=>
  simp only [C9]at h ⊢
  split
  ·rename_i hk;rw [if_pos hk]at h;exact h
  ·rename_i hk
   rw [if_neg hk]at h
   split
   ·rename_i hse;rw [hse]at h;exact allocT_free h H2
   ·rename_i hse;rw [hse]at h;exact Q0 h H2
 | box t x=>
  simp only [C9]at h ⊢
  cases hcs:(r x).acells with
  | none=>rw [hcs]at h;exact h
  | some cs=>
   rw [hcs]at h
   simp only []at h ⊢
   split
   ·rename_i hk;rw [if_pos hk]at h;exact h
   ·rename_i hk;rw [if_neg hk]at h;exact Q0 h H2
 | makeSlice t l c=>
  simp only [C9]at h ⊢
  cases hu:C.P.underlying t with
  | none=>rw [hu]at h;exact h
  | some d=>
   rw [hu]at h
   cases d <;> first | exact h | skip
   simp only []at h ⊢
   split
   ·rename_i hk;rw [if_pos hk]at h;exact h
   ·rename_i hk;rw [if_neg hk]at h;exact makeA_free h H2
 | makeMap t x=>
  cases x with
  | none=>simp [C9,Ew]
  | some y=>
   simp only [C9]at h ⊢
   cases hu:C.P.underlying t with
   | none=>rw [hu]at h;exact h
   | some d=>
    rw [hu]at h
    cases d <;> first | exact h | skip
    simp only []at h ⊢
    cases hy:r y <;> rw [hy]at h <;> first | exact h | simp [Ew]
 | _=>exact h
theorem draw_any (hC:Ny C) {n:Nat} {out:Res×Aa} {k:List Ab→Aa→Out} {kp:Ab→List Ab→Aa→Out} {Q:Exit→Act→World→Prop} (hk:KOk C n E0 H0 w0 out k (Q .normal)) (hkp:KPOk C n E0 H0 w0 out kp Q)
  (R:Mx C ops perm t M) (hh0:t.hist 0=[]) (hc0:t.cur 0=t.hE 0) (hfin:(M=perm.length∧k (t.T M) (t.cur M)=some out)∨Ro C ops perm kp out t M) {a0:Act} (hn:(t.T 0).length=n) (hd0:a0.defers=[]) :
  ∀(fuel:Nat) (listed:Array Bool) (a:Act) (w:World) (c:Nat) (S:Nat→Bool) (cv:Nat→Value) (bo:Nat→Nat) (E:Env),listed.size=ops.size→(∀i,S i=listed.getD i false)→((List.range ops.size).filter fun i=>!listed.getD i true).length≤fuel →
   Inv C ops perm t M E0 H0 w0 c S cv bo E w→A4 E (t.T 0) a0.tmps.toList→a=Dc ops S cv perm a0→wpAny C.P .any ops Q fuel listed a w:=by
 have done:∀(listed:Array Bool) (a:Act) (w:World) (c:Nat) (S:Nat→Bool) (cv:Nat→Value) (bo:Nat→Nat) (E:Env),listed.size=ops.size→(∀i,S i=listed.getD i false)→Inv C ops perm t M E0 H0 w0 c S cv bo E w→A4 E (t.T 0) a0.tmps.toList→a=Dc ops S cv perm a0 →
   Region.ready .any ops listed=[]→Q .normal a w:=by
  intro listed a w c S cv bo E hsz hS I h0 ha hr
  have all:∀(j i:Nat),perm[j]? = some i→S i=true:=by
   intro j
   induction j using Nat.strongRecOn with
   | _ j ih=>
    intro i hj
    obtain ⟨o,h1,h2,_⟩:=R.spec j i hj
    cases hSi:S i with
    | true=>rfl
    | false=>
     exfalso
     have hi:i<ops.size:=(VK.1 h1).1
     have hm:i∈Region.ready .any ops listed:=by
      rw [mem_ready]
      refine ⟨?_,o,h1,fun e he hb=>?_⟩
      ·have:=hS i
       rw [hSi]at this
       rw [Vq,Xc (by omega)]at this ⊢
       simpa using this.symm
      ·obtain ⟨b,hb1,hb2⟩:=h2 e he hb
       rw [←hS];exact ih b hb1 e.on hb2
     rw [hr]at hm;simp at hm
  rcases hfin with ⟨hM,hout⟩ | ⟨hM,i,o,x,H',h1,h2,h3,_⟩
  ·obtain ⟨E',I',hle⟩:=Inv.absorbTo R M (Va _) (fun j i _ hj=>all j i hj) (M-c) c E w (by have:=I.le;omega) I
   have h0':A4 E' (t.T 0) a0.tmps.toList:=h0.mono hle
   subst ha
   refine hk E' _ _ _ w I'.glob I'.step ⟨?_,R.tlen hn M (Va _),by rw [Kr];exact hd0,I'.sim⟩ hout
   have e:(Dc ops S cv perm a0).tmps.toList.length=a0.tmps.toList.length:=by simp [Kq]
   refine ⟨by rw [e,←h0.1];exact R.tlen rfl M (Va _),fun x y v hx hv=>?_⟩
   have hr':=R.read (S:=S) (cv:=cv) h0' x M (Va _) fun j i o hj hi ho _=>⟨all j i hi,I'.vals j i o hi ho (all j i hi) (.inl hj)⟩
   rw [hM,VO,←hM]at hr'
   rw [UZ,hx,Vq]at hr'
   rw [Ww]at hv
   rw [hv]at hr'
   exact hr'
  ·have:=(I.noE M i o I.le h1 h2 (all M i h1)).1
   rw [IV.2 h3]at this;cases this
 intro fuel
 induction fuel with
 | zero=>
  intro listed a w c S cv bo E hsz hS hcnt I h0 ha
  have hr:Region.ready .any ops listed=[]:=by
   cases hr:Region.ready .any ops listed with
   | nil=>rfl
   | cons x l=>
    exfalso
    have hm:x∈Region.ready .any ops listed:=by rw [hr];simp
    obtain ⟨h1,o,h2,_⟩:=mem_ready.1 hm
    have hx:x<ops.size:=(VK.1 h2).1
    have:x∈(List.range ops.size).filter fun i=>!listed.getD i true:=by
     rw [VT,Xl];exact ⟨hx,by rw [h1];rfl⟩
    have:=List.length_pos_of_mem this
    omega
  exact ⟨hr,done listed a w c S cv bo E hsz hS I h0 ha hr⟩
 | succ fuel ih=>
  intro listed a w c S cv bo E hsz hS hcnt I h0 ha
  refine ⟨done listed a w c S cv bo E hsz hS I h0 ha,fun i hi=>?_⟩
  obtain ⟨h1,o,ho,hedge'⟩:=mem_ready.1 hi
  have hedge:∀e∈o.after,Region.binds .any e=true→S e.on=true:=fun e he hb=>by rw [hS];exact hedge' e he hb
  have hisz:i<ops.size:=(VK.1 ho).1
  have hSi:S i=false:=by
   rw [hS]
   rw [Vq,Xc (by omega)]at h1 ⊢
   simpa using h1
  have hbf:∀x,((Region.before ops).getD i 0).testBit x=true→S x=true:=fun x hx=>
   Mu (S:=fun x=>S x=true) (fun x ox hSx hox=>I.closed x ox hSx hox) i x (fun ox hox=>by rw [ho]at hox;cases hox;exact hedge) hx
  obtain ⟨j,hj⟩:=R.pos hisz
  have hcj:c≤j:=by
   rcases VH j c with h | h
   ·rw [I.pre j i h hj]at hSi;cases hSi
   ·exact h
  have hjl:j<perm.length:=(UV.1 hj).1
  have hjM:j≤M:=by rcases hfin with ⟨h,_⟩ | ⟨h,_⟩ <;> omega
  have hS':∀x,(if x=i then true else S x)=(listed.setIfInBounds i true).getD x false:=by
   intro x
   rw [Vq]
   by_cases hx:x=i
   ·subst hx
    rw [WZ (by omega)];simp
   ·rw [Wu (fun h=>hx h.symm),if_neg hx,hS,Vq]
  have hcnt':((List.range ops.size).filter fun x=>!(listed.setIfInBounds i true).getD x true).length≤fuel:=by
   have:=(UB (p:=fun x=>!listed.getD x true) (q:=fun x=>!(listed.setIfInBounds i true).getD x true) (i:=i) (by rw [h1];rfl) (by rw [Vq,WZ (by omega)];rfl) (fun x hx=>by
    by_cases hxi:x=i
    ·subst hxi;rw [h1];rfl
    ·rw [Vq,Wu (fun h=>hxi h.symm),←Vq]at hx;exact hx) (List.range ops.size)).2 (Xl.2 hisz)
   omega
  have hput:∀v,a.put o.dst v=Dc ops (fun x=>if x=i then true else S x) (fun x=>if x=i then v else cv x) perm a0:=by
   intro v
   rw [U8 (v:=v) hSi perm a0 j hj (fun q r x h1 h2=>R.inj h1 h2) (fun q x hq hx hSx d hd=>?_),←ha,LV ho]
   obtain ⟨ok,q1,_,q3⟩:=R.spec q x hx
   obtain ⟨o3,p1,_,p3,_⟩:=q3 j i hq hj
   rw [ho]at p1;cases p1
   rw [LV ho]at hd
   rw [LV q1]
   rcases p3 with p3 | ⟨_,p3,_⟩
   ·have:S i=true:=Mu (S:=fun x=>S x=true) (fun x ox hSx hox=>I.closed x ox hSx hox) x i (fun ox hox=>I.closed x ox hSx hox) p3
    rw [hSi]at this;cases this
   ·exact (apart_l p3 hd).2
  have hsz':(listed.setIfInBounds i true).size=ops.size:=by simp [hsz]
  have next:∀(w':World) (c':Nat) (v:Value) (bo':Nat→Nat) (E':Env),E.le E'→Inv C ops perm t M E0 H0 w0 c' (fun x=>if x=i then true else S x) (fun x=>if x=i then v else cv x) bo' E' w'→wpAny C.P .any ops Q fuel (listed.setIfInBounds i true) (a.put o.dst v) w':=
   fun w' c' v bo' E' hle I'=>ih _ _ w' c' _ _ bo' E' hsz' hS' hcnt' I' (h0.mono hle) (hput v)
  cases hE:isE o with
  | true=>
   have hprev:∀(b x:Nat),b<j→perm[b]? = some x→S x=true:=fun b x hb hx=>by
    obtain ⟨oj,q1,_,q3⟩:=R.spec j i hj
    rw [ho]at q1;cases q1
    obtain ⟨_,_,_,p3,_⟩:=q3 b x hb hx
    rcases p3 with p3 | ⟨p3,_⟩
    ·exact hbf x p3
    ·rw [hE]at p3;cases p3
   obtain ⟨E1,I1,hle⟩:=Inv.absorbTo R j hjM hprev (j-c) c E w (by omega) I
   have h01:=h0.mono hle
   have hl:=I1.looks R h01 hn hj ho hjM hSi hbf (.inr rfl)
   rw [←ha]at hl
   have hTn:=R.tlen hn j hjM
   have hrr:=NQ (C:=C) I1.glob hl
   unfold wpOp
   simp only [ho]
   rcases VH j M with hlt | hge
   ·obtain ⟨i',o',g1,g2,hwant,_,hst⟩:=R.step j hlt
    rw [hj]at g1;cases g1
    rw [ho]at g2;cases g2
    have hw:=NL (b:=t.B j) hl ((LH hTn).trans hwant)
    rw [hw]
    rcases hst with ⟨hcl,_⟩ | ⟨hcl,_⟩ | ⟨hcl,hg,_⟩
    ·rw [IV]at hE;rw [hE]at hcl;cases hcl
    ·rw [IV]at hE;rw [hE]at hcl;cases hcl
    ·cases hB:t.B j with
     | false=>
      rw [hB]at hg
      simp only [gE,Vd,if_false,Ve,Vv,Res.ret.injEq]at hg
      simp only [Vd,if_false]
      exact next w (j+1) undef bo E1 hle (I1.addE R hj ho hlt hE hedge (by rw [←hg.2];exact I1.sim) (by rw [←hg.2];exact .refl _ _ _) undef (by rw [←hg.1];exact NO))
     | true=>
      rw [hB]at hg
      simp only [gE,if_true]at hg
      simp only [if_true]
      refine .inl ?_
      rw [←Qd (r:=rho C.G (Gj n ops o (t.T j))) (fun x hx=>Kj hTn hx)]at hg
      refine Rz hC I1.glob I1.sim hrr hg (fun E' w' v x hres hv q1 q2=>?_) (fun E' w' v x hres=>by cases hres)
      cases hres
      exact next w' (j+1) v bo E' (hle.trans q2.le) (I1.addE R hj ho hlt hE hedge q1 q2 v hv)
   ·have hjM':j=M:=by omega
    rcases hfin with ⟨h,_⟩ | ⟨hM,i',o',x,H',g1,g2,g3,hwant,hg,hout⟩
    ·omega
    ·rw [←hjM']at g1 hwant hg hout
     rw [hj]at g1;cases g1
     rw [ho]at g2;cases g2
     have hw:=NL hl ((LH hTn).trans hwant)
     rw [hw]
     simp only [if_true]
     refine .inl ?_
     rw [←Qd (r:=rho C.G (Gj n ops o (t.T j))) (fun x hx=>Kj hTn hx)]at hg
     refine Rz hC I1.glob I1.sim hrr hg (fun E' w' v x hres=>by cases hres) (fun E' w' v x hres hv q1 q2=>?_)
     cases hres
     refine hkp E' _ H' a w' _ v (I1.glob.mono q2.le) (I1.step.trans q2) ⟨⟨?_,fun x' y u hy hu=>?_⟩,by simp [hTn],by rw [ha,Kr];exact hd0,q1⟩ hv hout
     ·have:=hl.1
      simp only [We]
      rw [hTn,←this];simp [Gj]
     ·rw [V0]at hy
      cases hq:(t.T j)[x']? with
      | none=>simp [hq]at hy
      | some q=>simp [hq]at hy;subst hy;exact .undef _
  | false=>
   have hlt:j<M:=by
    rcases VH j M with h | h
    ·exact h
    ·exfalso
     have hjM':j=M:=by omega
     rcases hfin with ⟨h,_⟩ | ⟨hM,i',o',x,H',g1,g2,g3,_⟩
     ·omega
     ·rw [←hjM',hj]at g1;cases g1
      rw [ho]at g2;cases g2
      rw [IV.2 g3]at hE;cases hE
   have hl:=I.looks R h0 hn hj ho hjM hSi hbf (.inl hE)
   rw [←ha]at hl
   have hTn:=R.tlen hn j hjM
   have hrr:=NQ (C:=C) I.glob hl
   unfold wpOp
   simp only [ho]
   obtain ⟨i',o',g1,g2,hwant,_,hst⟩:=R.step j hlt
   rw [hj]at g1;cases g1
   rw [ho]at g2;cases g2
   have hw:=NL (b:=t.B j) hl ((LH hTn).trans hwant)
   rw [hw]
   rcases hst with ⟨hcl,hg,hstab,_⟩ | ⟨hcl,hg,_⟩ | ⟨hcl,_⟩
   ·have hnA:¬isA o=true:=fun h=>by rw [Ot.1 h]at hcl;cases hcl
    cases hB:t.B j with
    | false=>
     rw [hB]at hg
     simp only [gR,Vd,if_false,Ve]at hg
     simp only [Vd,if_false]
     exact next w c undef _ E (.refl E) (I.add R hj ho hcj hlt hE hedge I.sim (.refl _ _ _) undef 0 (fun _=>by rw [←hg];exact NO) (fun h=>absurd h hnA))
    | true=>
     rw [hB]at hg
     simp only [gR,if_true]at hg
     simp only [if_true]
     refine .inl ?_
     obtain ⟨⟨p,hp⟩,_⟩:=R.hists hh0 hc0 c (by omega)
     obtain ⟨_,hhist⟩:=R.hists hh0 hc0 j hjM
     have hE':BC C o.op (rho C.G (t.T j)) (t.hE c)=some (t.V j):=by
      cases hrd:Jf o.op with
      | false=>rw [stepR_blind hrd (t.hE j)];exact hg
      | true=>
       rcases hhist c hcj with e | ⟨q,e,b,ob,q1,q2,q3,q4,q5,q6,q7⟩
       ·rw [e];exact hg
       ·have hst:=hstab hrd
        rw [hB]at hst
        have:=stab_at (t.hist j) q e (t.hE c) hst q1 (fun r e' h' hr hh=>by
         obtain ⟨b',o',x1,x2,x3,x4,x5⟩:=q7 r e' h' hr hh
         cases hbit:((Region.before ops).getD i 0).testBit e' with
         | false=>exact hbit
         | true=>
          have:=(I.noE b' e' o' x1 x3 x4 (hbf e' hbit)).1
          rw [x5]at this;cases this)
        simpa [gR]using this
     have hst:=stepR_mono p hE'
     rw [←hp,←stepR_congr (r:=rho C.G (Gj n ops o (t.T j))) (fun x hx=>Kj hTn hx)]at hst
     obtain ⟨v,w',E',z1,z2,z3,z4⟩:=stepR_ok hC.eq hC.map I.sim hrr (fun _=>rfl) hst
     unfold Oper.wp
     rw [z1,Oper.upon_value]
     exact next w' c v _ E' z4.le (I.add R hj ho hcj hlt hE hedge z3 z4 v 0 (fun _=>z2) (fun h=>absurd h hnA))
   ·have hA:isA o=true:=Ot.2 hcl
    cases hB:t.B j with
    | false=>
     rw [hB]at hg
     simp only [gA,Vd,if_false,Ve,Vv]at hg
     simp only [Vd,if_false]
     exact next w c undef _ E (.refl E) (I.add R hj ho hcj hlt hE hedge I.sim (.refl _ _ _) undef 0 (fun _=>by rw [←hg.1];exact NO) (fun _ h=>by rw [hB]at h;cases h))
    | true=>
     rw [hB]at hg
     simp only [gA,if_true]at hg
     simp only [if_true]
     refine .inl ?_
     rw [←stepA_congr (r:=rho C.G (Gj n ops o (t.T j))) (fun x hx=>Kj hTn hx)]at hg
     have hfree:=stepA_free (H2:=t.cur c) (by rw [hg];simp)
     cases hst:C9 C o.op (rho C.G (Gj n ops o (t.T j))) (t.cur c)with
     | none=>exact absurd hst hfree
     | some pz=>
      obtain ⟨z,H'⟩:=pz
      obtain ⟨B,v,ob,f,rfl,hz,hall,z1,z2,z3⟩:=(stepA_ok I.sim hrr hst).ex
      rw [hall]at hg
      simp only [Ve,Vv]at hg
      obtain ⟨l1,l2⟩:=I.sim.laid ob
      unfold Oper.wp
      rw [z1,Oper.upon_value]
      refine next _ c v _ E (.refl E) (I.add R hj ho hcj hlt hE hedge l1 l2 v w.heap.size (fun h=>?_) (fun _ _=>⟨rfl,B,f,I.step.size,z2,hg.2.symm,hg.1.symm,z3⟩))
      rcases h with h | h
      ·rw [hA]at h;cases h
      ·rw [hB]at h;cases h
   ·rw [IV.2 hcl]at hE;cases hE

end
theorem draw_orders {C:Cfg} (hC:Ny C) {n:Nat} {E0:Env} {H0:Aa} {w0:World} {out:Res×Aa} {ops:Array Oper} {perm:List Nat} {k:List Ab→Aa→Out} {kp:Ab→List Ab→Aa→Out} {Q:Exit→Act→World→Prop} {E:Env} {tm:List Ab} {H:Aa} {a:Act} {w:World}
  (hk:KOk C n E0 H0 w0 out k (Q .normal)) (hkp:KPOk C n E0 H0 w0 out kp Q) (hok:N5 ops perm=true) (hG:D9 C.G E) (st:BH E0 H0 w0 E H w) (hf:HE n E H tm a w)
  (h:GM C ops (fun i j=>((Region.before ops).getD j 0).testBit i) k kp perm [] H H tm=some out):wpAny C.P .any ops Q ops.size (Array.replicate ops.size false) a { w with drawn:=w.drawn+1 }:=by
 obtain ⟨t,M,q1,q2,q3,q4,q5,q6,q7⟩:=NM perm [] H H tm h
 simp only [N5,Vh,beq_iff_eq]at hok
 obtain ⟨⟨hl,hmem⟩,hfrom⟩:=hok
 have R:Mx C ops perm t M:=by
  refine ⟨hl,fun i hi=>?_,q5,fun x j hx=>?_,q6⟩
  ·have:=Vn.1 hmem i (Xl.2 hi)
   simpa using this
  ·obtain ⟨oj,y1,y2,y3⟩:=Qj perm [] hfrom x j hx
   refine ⟨oj,y1,fun e he hb=>?_,fun b i hb hi=>y3 i (.inr ⟨b,hb,hi⟩)⟩
   rcases y2 e he hb with h | h
   ·simp at h
   ·exact h
 obtain ⟨d1,d2⟩:=hf.sim.drew (w.drawn+1)
 refine draw_any (E0:=E0) (H0:=H0) (w0:=w0) hC hk hkp R q4 (by rw [q2,q3]) q7 (a0:=a) (by rw [q1];exact hf.len) hf.defers ops.size _ a _ 0 (fun _=>false) (fun _=>undef) (fun _=>0) E (by simp) (fun i=>?_) ?_ ?_ (by rw [q1];exact hf.rel) ?_
 ·rw [Vq,Array.getElem?_replicate];split <;> rfl
 ·exact Vw (Wi _ _) (by simp)
 ·refine ⟨Vy _,fun j i h=>by omega,fun j i o _ _ _ h=>(by cases h),fun j o h=>(by cases h),hG,by rw [q3];exact st.trans d2,by rw [q3];exact d1,fun j i o _ _ h=>(by cases h),fun j i o _ _ _ h=>(by cases h),fun j i j' i' o o' _ _ _ _ _ _ h=>(by cases h)⟩
 ·have:∀l:List Nat,Dc ops (fun _=>false) (fun _=>undef) l a=a:=by
   intro l
   induction l with
   | nil=>rfl
   | cons x l ih=>rw [Db];simpa using ih
  exact (this perm).symm
theorem draw_ok {C:Cfg} (hC:Ny C) (hm:C.P.follows .mixedOrders=true):DrawOk C:=
 fun _ _ _ _ _ _ _ _ _ _ _ _ _ _ _ _ hk hkp hok hG st hf h=>wp_region_any hm (draw_orders hC hk hkp hok hG st hf h)
def PZ (v:Ab) (want:Bool):Option Bool:=
 match (some v:Option Ab)with
 | some (.bool b)=>some (b == want)
 | some (.tup [])=>some false
 | _=>none
def gk (c:Ab) (w:Bool) (x:Option Ab) (k:Ab→Out):Out:=(PZ c w).bind fun b=>(gR b x).bind k
noncomputable def gkc (c:Ab) (w:Bool) (x:Option Ab) (p:Bool→Ab→Prop) (k:Ab→Out):Out:=(PZ c w).bind fun b=>(gR b x).bind fun v=>chk (p b v) (k v)
def gkA (c:Ab) (w:Bool) (H:Aa) (x:Option (Ab×Aa)) (k:Ab→Aa→Out):Out:=(PZ c w).bind fun b=>Am (gA b H x) k
def gbE (c:Ab) (w:Bool) (H:Aa) (x:Out) (k:Ab→Aa→Out) (kp:Ab→Aa→Out):Out:=(PZ c w).bind fun b=>HD (gE b H x) k kp
noncomputable def bC (x:Option Ab) (p:Ab→Prop) (k:Ab→Out):Out:=x.bind fun v=>chk (p v) (k v)
def Gn (all:Array Oper) (o:Oper) (tm:List Ab):Option (Option (Ab×Bool)):=
 match o.guard with
 | none=>some none
 | some (j,want)=>match (all[j]?).bind (·.dst)with
  | some d=>some (some (tm.getD d .undef,want))
  | none=>none
theorem Rq (all:Array Oper) (o:Oper) (tm:List Ab):If all o tm=match Gn all o tm with
  | none=>none
  | some none=>some true
  | some (some (c,w))=>PZ c w:=by
 unfold If Gn
 cases o.guard with
 | none=>rfl
 | some p=>
  obtain ⟨j,want⟩:=p
  simp only []
  cases (all[j]?).bind (·.dst)with
  | none=>rfl
  | some d=>simp only [Option.map_some,PZ];cases tm.getD d .undef <;> rfl
def stR (g:Option (Option (Ab×Bool))) (x:Option Ab) (k:Ab→Out):Out:=
 match g with
 | none=>none
 | some none=>x.bind k
 | some (some (c,w))=>gk c w x k
noncomputable def stC (g:Option (Option (Ab×Bool))) (x:Option Ab) (p:Bool→Ab→Prop) (k:Ab→Out):Out:=
 match g with
 | none=>none
 | some none=>bC x (p true) k
 | some (some (c,w))=>gkc c w x p k
def stA (g:Option (Option (Ab×Bool))) (H:Aa) (x:Option (Ab×Aa)) (k:Ab→Aa→Out):Out:=
 match g with
 | none=>none
 | some none=>Am x k
 | some (some (c,w))=>gkA c w H x k
def stE (g:Option (Option (Ab×Bool))) (H:Aa) (x:Out) (k:Ab→Aa→Out) (kp:Ab→Aa→Out):Out:=
 match g with
 | none=>none
 | some none=>HD x k kp
 | some (some (c,w))=>gbE c w H x k kp
def mvOf (o:Oper):Option Operand:=
 match o.guard,o.op with
 | none,.move x=>some x
 | none,.assign x=>some x
 | _,_=>none
theorem mv_spec {C:Cfg} {o:Oper} {x:Operand} (h:mvOf o=some x):o.guard=none∧cls o.op=.r∧Jf o.op=false∧∀r H,BC C o.op r H=some (r x):=by
 unfold mvOf at h
 split at h
 ·rename_i h1 h2;cases h;rw [h2];exact ⟨h1,rfl,rfl,fun _ _=>rfl⟩
 ·rename_i h1 h2;cases h;rw [h2];exact ⟨h1,rfl,rfl,fun _ _=>rfl⟩
 ·cases h
def ops2 (C:Cfg) (all:Array Oper):List Oper→(List Ab→Aa→Out)→(Ab→List Ab→Aa→Out)→List Ab→Aa→Out
 | [],k,_,tm,H=>k tm H
 | o::rest,k,kp,tm,H=>
  match mvOf o with
  | some x=>ops2 C all rest k kp (G9 tm o.dst (rho C.G tm x)) H
  | none=>
  match cls o.op with
  | .r=>stR (Gn all o tm) (BC C o.op (rho C.G tm) H) fun v=>ops2 C all rest k kp (G9 tm o.dst v) H
  | .a=>stA (Gn all o tm) H (C9 C o.op (rho C.G tm) H) fun v H=>ops2 C all rest k kp (G9 tm o.dst v) H
  | .e=>stE (Gn all o tm) H (Ft C o.op (rho C.G tm) H) (fun v H=>ops2 C all rest k kp (G9 tm o.dst v) H) (fun v H=>kp v tm H)
theorem ops_eq (C:Cfg) (all:Array Oper) (k:List Ab→Aa→Out) (kp:Ab→List Ab→Aa→Out):∀(os:List Oper) (tm:List Ab) (H:Aa),O3 C all os k kp tm H=ops2 C all os k kp tm H
 | [],tm,H=>rfl
 | o::rest,tm,H=>by
  have ih:=ops_eq C all k kp rest
  unfold ops2
  simp only [O3]
  cases hm:mvOf o with
  | some x=>
   obtain ⟨h1,h2,_,h3⟩:=mv_spec (C:=C) hm
   simp only [If,h1,Option.bind_some,h2,gR,if_true,h3,ih]
  | none=>
   rw [Rq]
   cases hg:Gn all o tm with
   | none=>cases cls o.op <;> rfl
   | some g=>
    cases g with
    | none=>cases cls o.op <;> simp only [Option.bind_some,gR,gA,gE,if_true,stR,stA,stE,ih]
    | some p=>obtain ⟨c,w⟩:=p;cases cls o.op <;> simp only [stR,stA,stE,gk,gkA,gbE,ih]
noncomputable def Qu (C:Cfg) (ops:Array Oper) (bf:Nat→Nat→Bool) (k:List Ab→Aa→Out) (kp:Ab→List Ab→Aa→Out) :
  List Nat→List (Nat×Aa)→Aa→Aa→List Ab→Out
 | [],_,_,cur,tm=>k tm cur
 | i::rest,hist,hE,cur,tm=>
  match ops[i]? with
  | none=>none
  | some o=>
   match mvOf o with
   | some x=>Qu C ops bf k kp rest hist hE cur (G9 tm o.dst (rho C.G tm x))
   | none=>
   match cls o.op with
   | .r=>if Jf o.op then stC (Gn ops o tm) (BC C o.op (rho C.G tm) hE) (fun w v=>stab (fun e=>bf e i) (fun h=>gR w (BC C o.op (rho C.G tm) h)) v hist) fun v=>Qu C ops bf k kp rest hist hE cur (G9 tm o.dst v)
     else stR (Gn ops o tm) (BC C o.op (rho C.G tm) hE) fun v=>Qu C ops bf k kp rest hist hE cur (G9 tm o.dst v)
   | .a=>stA (Gn ops o tm) cur (C9 C o.op (rho C.G tm) cur) fun v H=>Qu C ops bf k kp rest hist hE H (G9 tm o.dst v)
   | .e=>stE (Gn ops o tm) cur (Ft C o.op (rho C.G tm) cur) (fun v H=>Qu C ops bf k kp rest ((i,hE)::hist) H H (G9 tm o.dst v)) (fun v H=>match rest with | []=>kp v (tm.map fun _=>.undef) H | _=>none)
theorem draw_eq (C:Cfg) (ops:Array Oper) (bf:Nat→Nat→Bool) (k:List Ab→Aa→Out) (kp:Ab→List Ab→Aa→Out):∀(perm:List Nat) (hist:List (Nat×Aa)) (hE cur:Aa) (tm:List Ab),GM C ops bf k kp perm hist hE cur tm=Qu C ops bf k kp perm hist hE cur tm
 | [],_,_,_,_=>rfl
 | i::rest,hist,hE,cur,tm=>by
  have ih:=draw_eq C ops bf k kp rest
  unfold Qu
  simp only [GM]
  cases ho:ops[i]? with
  | none=>rfl
  | some o=>
   simp only []
   cases hm:mvOf o with
   | some x=>
    obtain ⟨h1,h2,h4,h3⟩:=mv_spec (C:=C) hm
    simp only [If,h1,Option.bind_some,h2,gR,if_true,h3,h4,Vd,if_false,ih]
   | none=>
    rw [Rq]
    cases hg:Gn ops o tm with
    | none=>cases cls o.op <;> (try rfl);simp only [stR,stC];split <;> rfl
    | some g=>
     cases g with
     | none=>cases hc:cls o.op <;> cases hr:Jf o.op <;> simp only [Option.bind_some,gR,gA,gE,if_true,Vd,if_false,stR,stC,bC,stA,stE,ih] <;> rfl
     | some p=>obtain ⟨c,w⟩:=p;cases hc:cls o.op <;> cases hr:Jf o.op <;> simp only [if_true,Vd,if_false,stR,stC,stA,stE,gk,gkc,gkA,gbE,ih] <;> rfl
noncomputable def ev2 (C:Cfg) (n:Nat):Code→Ann→QK→List Ab→Aa→Out
 | .skip,_,K,tm,H=>K .normal tm H
 | .label _,_,K,tm,H=>K .normal tm H
 | .ret,_,K,tm,H=>K .ret tm H
 | .exit id,_,K,tm,H=>K (.exit id) tm H
 | .region _ ops false,_,K,tm,H=>ops2 C ops ops.toList (fun tm H=>K .normal tm H) (fun v tm H=>K (.pan v) tm H) tm H
 | .region _ ops true,.reg perm,K,tm,H=>
  if N5 ops perm then Qu C ops (fun i j=>((Region.before ops).getD j 0).testBit i) (fun tm H=>K .normal tm H) (fun v tm H=>K (.pan v) tm H) perm [] H H tm else none
 | .seq a b,.tw x y,K,tm,H=>ev2 C n a x (kseq (fun tm H=>ev2 C n b y K tm H) K) tm H
 | .seq a b,.join L x y,K,tm,H=>
  AN (fun j=>ev2 C n a x (kseq (fun tm H=>j (Ik L tm) H) K) tm H) (fun vs H=>ev2 C n b y K (NR n L vs) H)
 | .cond c a b,.tw x y,K,tm,H=>Aj (rho C.G tm c) (ev2 C n a x K tm H) (ev2 C n b y K tm H)
 | .block id a,.one x,K,tm,H=>ev2 C n a x (kblock id K) tm H
 | .loop a,.loop L x,K,tm,H=>
  Ao (fun rec vs H=>ev2 C n a x (kseq (fun tm H=>rec (Ik L tm) H) K) (NR n L vs) H) AQ (Ik L tm) H
 | _,_,_,_,_=>none
theorem ev_eq (C:Cfg) (n:Nat):∀(c:Code) (ann:Ann) (K:QK) (tm:List Ab) (H:Aa),evC C n c ann K tm H=ev2 C n c ann K tm H:=by
 intro c
 induction c with
 | region id ops draw=>
  intro ann K tm H
  cases draw with
  | false=>simp only [evC,ev2,ops_eq]
  | true=>cases ann <;> simp only [evC,ev2,draw_eq]
 | seq a b iha ihb=>intro ann K tm H;cases ann <;> simp only [evC,ev2,iha,ihb]
 | cond c a b iha ihb=>intro ann K tm H;cases ann <;> simp only [evC,ev2,iha,ihb]
 | block id a ih=>intro ann K tm H;cases ann <;> simp only [evC,ev2,ih]
 | loop a ih=>intro ann K tm H;cases ann <;> simp only [evC,ev2,ih]
 | _=>intro ann K tm H;cases ann <;> simp only [evC,ev2]
noncomputable def fn2 (C:Cfg) (fn:Func) (body:Code) (ann:Ann) (m:EW) (args:List Ab) (H:Aa):Out:=
 ev2 C fn.ntmps body ann (fun e tm H'=>match e with
  | .normal=>(Fx C fn.results.toList tm H').bind fun v=>fin m H (.ret v) H'
  | .ret=>(Fx C fn.results.toList tm H').bind fun v=>fin m H (.ret v) H'
  | .pan v=>fin m H (.pan v) H'
  | .exit _=>none) (args++List.replicate (fn.ntmps-args.length) .undef) H
theorem fn_eq (C:Cfg) (fn:Func) (body:Code) (ann:Ann) (m:EW) (args:List Ab) (H:Aa):fnA C fn body ann m args H=fn2 C fn body ann m args H:=by
 unfold fnA fn2;rw [ev_eq];rfl
def NA (P:Program) (t:TypeId):Bool:=match P.underlying t with | some (.int _)=>true | _=>false
def intArr (P:Program) (t:TypeId) (n:Nat):Bool:=match P.underlying t with | some (.array m e)=>NA P e&&Aq P e == 1&&m == n&&Aq P t == n | _=>false
def eqB (P:Program) (t:TypeId):Bool:=
 !P.eqGuardType P.depth t&&(match P.underlying t with
 | some (.array n _)=>intArr P t n
 | some (.struct fs)=>(match fs.toList with
  | [f,g]=>f.name != "_" && g.name != "_" && NA P f.type&&f.offset == 0&&g.offset == 1 && !P.stoodInHeld t&&(match P.underlying g.type with | some (.array n _)=>intArr P g.type n&&Aq P t == n+1 | _=>false)
  | _=>false)
 | _=>false)
def keyB (P:Program) (t:TypeId):Bool:=eqB P t||NA P t
section
variable {P:Program}
theorem EI {t:TypeId} (h:NA P t=true):∃k,P.underlying t=some (.int k):=by
 unfold NA at h
 split at h
 ·exact ⟨_,by assumption⟩
 ·cases h
theorem IX {t:TypeId} {n:Nat} (h:intArr P t n=true):∃e k,P.underlying t=some (.array n e)∧P.underlying e=some (.int k)∧Aq P e=1∧Aq P t=n:=by
 unfold intArr at h
 split at h
 ·rename_i m e hu
  simp only [Vh,beq_iff_eq]at h
  obtain ⟨⟨⟨h1,h2⟩,h3⟩,h4⟩:=h
  obtain ⟨k,hk⟩:=EI h1
  subst h3
  exact ⟨e,k,hu,hk,h2,h4⟩
 ·cases h
theorem isAgg_int {t:TypeId} {k:IntKind} (h:P.underlying t=some (.int k)) (w:World):(isAgg t).run P w=.ok false w:=by
 simp [isAgg,Sem.run_bind,run_underlying h,Result.andThen_ok]
theorem J0 {t:TypeId} {k:IntKind} (h:P.underlying t=some (.int k)) (w:World) {vs:Array Value} {off:Nat} {v:Value} (hv:vs[off]? = some v):(part t vs off).run P w=.ok v w:=by
 simp [part,Sem.run_bind,isAgg_int h,Result.andThen_ok,hv]
theorem Qw {E:Env} {a b:Ab} {r:Bool} {u v:Value} (h:GQ a b=some r) (ha:Ax E a u) (hb:Ax E b v):∃k x y,a=.int k x∧b=.int k y∧u=.int k x∧v=.int k y∧r=(x == y):=by
 unfold GQ at h
 split at h
 ·rename_i k x k' y
  split at h
  ·rename_i hk
   subst hk
   injection h with h
   exact ⟨k,x,y,rfl,rfl,ha.int_inv,hb.int_inv,h.symm⟩
  ·cases h
 ·cases h
theorem PD {t:TypeId} {k:IntKind} (h:P.underlying t=some (.int k)) (d:Nat) (j:IntKind) (x y:Int) (w:World):(Op.equalIn (d+1) t (.int j x) (.int j y)).run P w=.ok (x == y) w:=run_equalIn_int w d t j k x y h
theorem arr_run {e:TypeId} {k:IntKind} (he:P.underlying e=some (.int k)) (d:Nat) (w:World) {E:Env} (xs ys:Array Value):∀(vas bs:List Ab) (s:Nat) (r:Bool),A4 E vas (xs.toList.drop s)→A4 E bs (ys.toList.drop s)→BJ vas bs=some r →
  (Op.eqItems (d+1) e 1 xs ys (List.range' s vas.length)).run P w=.ok r w:=by
 intro vas
 induction vas with
 | nil=>
  intro bs s r h1 h2 h3
  cases bs with
  | nil=>simp only [BJ,Ve]at h3;subst h3;simp [Op.eqItems]
  | cons b bs=>cases h3
 | cons a vas ih=>
  intro bs s r h1 h2 h3
  cases bs with
  | nil=>cases h3
  | cons b bs=>
   simp only [BJ]at h3
   cases hc:GQ a b with
   | none=>simp [hc]at h3
   | some q=>
    simp only [hc,Option.bind_some]at h3
    cases hr:BJ vas bs with
    | none=>simp [hr]at h3
    | some q2=>
     simp only [hr,Option.bind_some,Ve]at h3
     obtain ⟨u,g1,g2⟩:=h1.get (i:=0) (c:=a) rfl
     obtain ⟨v,g3,g4⟩:=h2.get (i:=0) (c:=b) rfl
     obtain ⟨j,x,y,rfl,rfl,rfl,rfl,rfl⟩:=Qw hc g2 g4
     have hx:xs[s]? = some (.int j x):=by rw [VB]at g1;simpa using g1
     have hy:ys[s]? = some (.int j y):=by rw [VB]at g3;simpa using g3
     have t1:A4 E vas (xs.toList.drop (s+1)):=by
      have:=h1.drop 1
      rwa [Wf]at this
     have t2:A4 E bs (ys.toList.drop (s+1)):=by
      have:=h2.drop 1
      rwa [Wf]at this
     rw [List.length_cons,List.range'_succ]
     simp only [Op.eqItems,Vk,Sem.run_bind,J0 he w hx,J0 he w hy,Result.andThen_ok,PD he]
     cases hxy:(x == y)with
     | false=>rw [hxy]at h3;simp only [Wo]at h3;subst h3;simp
     | true=>
      rw [hxy]at h3
      simp only [VW]at h3
      subst h3
      have:=ih bs (s+1) q2 t1 t2 hr
      simp [this]
theorem Qv:∀ {vas bs:List Ab} {r:Bool},BJ vas bs=some r→vas.length=bs.length
 | [],[],_,_=>rfl
 | [],_::_,_,h=>by cases h
 | _::_,[],_,h=>by cases h
 | a::vas,b::bs,r,h=>by
  simp only [BJ]at h
  cases hc:GQ a b with
  | none=>simp [hc]at h
  | some q=>
   cases hr:BJ vas bs with
   | none=>simp [hc,hr]at h
   | some q2=>simp [Qv hr]
theorem UD {t e:TypeId} {k:IntKind} {n:Nat} (hu:P.underlying t=some (.array n e)) (he:P.underlying e=some (.int k)) (hz:Aq P e=1) (d:Nat) (w:World) {E:Env} {vas bs:List Ab} {xs ys:Array Value} {r:Bool} (h1:A4 E vas xs.toList) (h2:A4 E bs ys.toList) (hn:vas.length=n) (h3:BJ vas bs=some r) :
  (Op.equalIn (d+2) t (.agg xs) (.agg ys)).run P w=.ok r w:=by
 obtain ⟨i,hi,hsz⟩:=FK he
 have hc:P.cellsOf e=1:=by simp [Program.cellsOf,hi,hsz,hz]
 rw [run_equalIn_array w (d+1) xs ys hu hi,hc,←hn,List.range_eq_range']
 exact arr_run he d w xs ys vas bs 0 r (by simpa using h1) (by simpa using h2) h3
theorem S4 {t:TypeId} (h:eqB P t=true) (d:Nat) (w:World) {E:Env} {vas bs:List Ab} {xs ys:Array Value} {r:Bool} (h1:A4 E vas xs.toList) (h2:A4 E bs ys.toList) (hn:vas.length=Aq P t) (h3:BJ vas bs=some r) :
  (Op.equalIn (d+3) t (.agg xs) (.agg ys)).run P w=.ok r w:=by
 unfold eqB at h
 simp only [Vh]at h
 obtain ⟨_,h⟩:=h
 split at h
 ·rename_i n e hu
  obtain ⟨e',k,q1,q2,q3,q4⟩:=IX h
  exact UD q1 q2 q3 (d+1) w h1 h2 (by rw [hn,q4]) h3
 ·rename_i fs hu
  split at h
  ·rename_i f g hfs
   simp only [Vh,bne_iff_ne,ne_eq,beq_iff_eq,Wc]at h
   obtain ⟨⟨⟨⟨⟨⟨hf,hg⟩,hfi⟩,hf0⟩,hg1⟩,hst⟩,hga⟩:=h
   split at hga
   ·rename_i n e hgu
    simp only [Vh,beq_iff_eq]at hga
    obtain ⟨hga,hsz⟩:=hga
    obtain ⟨e',k,q1,q2,q3,q4⟩:=IX hga
    obtain ⟨kf,hkf⟩:=EI hfi
    have hfo:P.fieldsOf t=fs:=by simp [Program.fieldsOf,hu]
    rw [run_equalIn_struct w (d+2) t xs ys (by rw [hfo];exact hu) hst,hfo,hfs]
    rw [hsz]at hn
    cases vas with
    | nil=>simp at hn
    | cons a vas=>
     cases bs with
     | nil=>cases h3
     | cons b bs=>
      simp only [BJ]at h3
      cases hc:GQ a b with
      | none=>simp [hc]at h3
      | some q=>
       simp only [hc,Option.bind_some]at h3
       cases hr:BJ vas bs with
       | none=>simp [hr]at h3
       | some qq=>
        simp only [hr,Option.bind_some,Ve]at h3
        obtain ⟨u,g1,g2⟩:=h1.get (i:=0) (c:=a) rfl
        obtain ⟨v,g3,g4⟩:=h2.get (i:=0) (c:=b) rfl
        obtain ⟨j,x,y,rfl,rfl,rfl,rfl,rfl⟩:=Qw hc g2 g4
        have hx:xs[0]? = some (.int j x):=by simpa using g1
        have hy:ys[0]? = some (.int j y):=by simpa using g3
        have hl:vas.length=n:=by simpa using hn
        have hl1:xs.size=n+1:=by have:=h1.1;simp at this;omega
        have hlb:vas.length=bs.length:=Qv hr
        have hl2:ys.size=n+1:=by have:=h2.1;simp at this;omega
        have part_arr:∀vs:Array Value,vs.size=n+1→(part g.type vs 1).run P w=.ok (.agg (vs.toList.drop 1).toArray) w:=fun vs hvs=>by
         have hagg:(isAgg g.type).run P w=.ok true w:=by simp [isAgg,Sem.run_bind,run_underlying q1,Result.andThen_ok]
         simp only [part,Sem.run_bind,hagg,Result.andThen_ok,if_true,CS q1,q4,Sem.run_pure]
         congr 2
         apply XO
         simp [Xx]
         rw [Vg (by simp;omega)]
        have e2:=UD (P:=P) q1 q2 q3 d w (E:=E) (vas:=vas) (bs:=bs) (xs:=(xs.toList.drop 1).toArray) (ys:=(ys.toList.drop 1).toArray) (by simpa using h1.drop 1) (by simpa using h2.drop 1) hl hr
        simp only [Op.eqFields,hf,hg,ne_eq,not_false_eq_true,if_true,hf0,hg1,Sem.run_bind,J0 hkf w hx,J0 hkf w hy,part_arr _ hl1,part_arr _ hl2,Result.andThen_ok,PD hkf,e2]
        cases hxy:(x == y)with
        | false=>rw [hxy]at h3;simp only [Wo]at h3;subst h3;simp
        | true=>
         rw [hxy]at h3
         simp only [VW]at h3
         subst h3
         cases qq <;> simp [-List.drop_one,Sem.run_bind,part_arr _ hl1,part_arr _ hl2,e2,Op.eqFields]
   ·cases hga
  ·cases h
 ·cases h
theorem eqB_guard {t:TypeId} (h:eqB P t=true):P.eqGuardType P.depth t=false:=by
 unfold eqB at h
 simp only [Vh,Wc]at h
 exact h.1

end
section
variable {P:Program}
theorem HO {t:TypeId} (h:eqB P t=true):B6 P t=true∧∃n e,(P.underlying t=some (.array n e))∨∃fs,P.underlying t=some (.struct fs):=by
 unfold eqB at h
 simp only [Vh]at h
 obtain ⟨_,h⟩:=h
 split at h
 ·rename_i n e hu;exact ⟨by simp [B6,hu],n,e,.inl hu⟩
 ·rename_i fs hu;exact ⟨by simp [B6,hu],0,0,.inr ⟨fs,hu⟩⟩
 ·cases h
theorem IW {t:TypeId} (h:NA P t=true):B6 P t=false:=by
 obtain ⟨k,hk⟩:=EI h
 simp [B6,hk]
inductive Q1 (P:Program) (E:Env) (t:TypeId) (k:Ab) (kc:List Ab) (v:Value):Prop
 | agg {vs:Array Value} (he:eqB P t=true) (hk:k=.agg kc) (hv:v=.agg vs) (hr:A4 E kc vs.toList) (hl:kc.length=Aq P t) (ho:kc.all isIntV=true)
 | int {K:IntKind} {i:Int} (hi:NA P t=true) (hk:k=.int K i) (hc:kc=[.int K i]) (hv:v=.int K i)
theorem key_is {E:Env} {t:TypeId} (ht:keyB P t=true) {k:Ab} {kc:List Ab} {v:Value} (h:DK (B6 P t) (Aq P t) k=some kc) (hv:Ax E k v):Q1 P E t k kc v:=by
 unfold keyB at ht
 unfold DK at h
 split at h
 ·rename_i a0 k0 cs ha
  split at h
  ·rename_i hl
   injection h with h;subst h
   obtain ⟨vs,rfl,hr⟩:=hv.agg_cells
   refine .agg ?_ rfl rfl hr hl.1 hl.2
   simp only [Wa]at ht
   rcases ht with ht | ht
   ·exact ht
   ·rw [IW ht]at ha;cases ha
  ·cases h
 ·rename_i a0 k0 K i ha
  injection h with h;subst h
  refine .int ?_ rfl rfl hv.int_inv
  simp only [Wa]at ht
  rcases ht with ht | ht
  ·rw [(HO ht).1]at ha;cases ha
  ·exact ht
 ·cases h
theorem key_equal {E:Env} {t:TypeId} {k k':Ab} {kc kc':List Ab} {v v':Value} (h:Q1 P E t k kc v) (h':Q1 P E t k' kc' v') {b:Bool} (hc:BJ kc kc'=some b) (w:World):(Op.equal t v v').run P w=.ok b w:=by
 cases h with
 | agg he hk hv hr hl ho=>
  cases h' with
  | agg he' hk' hv' hr' hl' ho'=>subst hv;subst hv';exact S4 he 9997 w hr hr' hl hc
  | int hi hk' hc' hv'=>have:=(HO he).1;rw [IW hi]at this;cases this
 | int hi hk hcc hv=>
  cases h' with
  | agg he' hk' hv' hr' hl' ho'=>have:=(HO he').1;rw [IW hi]at this;cases this
  | int hi' hk' hcc' hv'=>
   subst hv;subst hv';subst hcc;subst hcc'
   obtain ⟨q,hq⟩:=EI hi
   simp only [BJ,GQ]at hc
   split at hc
   ·rename_i e;subst e
    simp at hc;subst hc
    exact PD hq 9999 _ _ _ w
   ·simp at hc
theorem OG:∀ {vas bs:List Ab},BJ vas bs=some true→vas=bs
 | [],[],_=>rfl
 | [],_::_,h=>by cases h
 | _::_,[],h=>by cases h
 | a::vas,b::bs,h=>by
  simp only [BJ]at h
  cases hc:GQ a b with
  | none=>simp [hc]at h
  | some q=>
   cases hr:BJ vas bs with
   | none=>simp [hc,hr]at h
   | some q2=>
    simp only [hc,hr,Option.bind_some,Ve,Vh]at h
    obtain ⟨rfl,rfl⟩:=h
    rw [OG hr]
    unfold GQ at hc
    split at hc
    ·split at hc
     ·rename_i e;subst e;simp at hc;subst hc;rfl
     ·cases hc
    ·cases hc
theorem forIn_ok {w:World} (f:Nat→Sem Unit):∀(l:List Nat),(∀i∈l,(f i).run P w=.ok () w)→(forIn l PUnit.unit fun i _=>do f i;pure (ForInStep.yield PUnit.unit)).run P w=.ok PUnit.unit w
 | [],_=>by simp
 | i::l,h=>by
  simp only [List.forIn_cons,Sem.run_bind,h i (by simp),Result.andThen_ok,Sem.run_pure]
  exact forIn_ok f l fun j hj=>h j (by simp [hj])
theorem PN {em:Bool} {n:Nat} {t:TypeId} {K:IntKind} (h:P.underlying t=some (.int K)) (v:Value) (w:World) (hv:∀(d:TypeId) (x:Value),v≠Value.iface d x):(Instr.checkKey em (n+1) t v).run P w=.ok () w:=by
 cases v <;> simp [Instr.checkKey,run_underlying h]
theorem UK {em:Bool} {d n:Nat} {t e:TypeId} {K:IntKind} (hu:P.underlying t=some (.array n e)) (he:P.underlying e=some (.int K)) (hz:Aq P e=1) (vs:Array Value) (hl:vs.size=n) (hv:∀(i:Nat) (v:Value),vs[i]? = some v→∀(d:TypeId) (x:Value),v≠Value.iface d x) (w:World):(Instr.checkKey em (d+2) t (.agg vs)).run P w=.ok () w:=by
 unfold Instr.checkKey
 simp only [Sem.run_bind,run_underlying hu,Result.andThen_ok]
 simp only [Std.Legacy.Range.forIn_eq_forIn_range',Std.Legacy.Range.size,Nat.sub_zero,Nat.add_one_sub_one,Nat.div_one]
 have:=forIn_ok (P:=P) (w:=w) (fun i=>do
  let s ← sizeOf e
  let a ← part e vs (i*s)
  Instr.checkKey em (d+1) e a) (List.range' 0 n) (fun i hi=>by
   have hi':i<vs.size:=by simp at hi;omega
   have hx:vs[i]? = some vs[i]:=by simp [hi']
   simp only [Sem.run_bind,Hg (P:=P) (t:=e) (by omega),hz,Vk,Result.andThen_ok,J0 he w hx,PN he _ w (hv i _ hx)])
 simp [Function.comp_def,bind_assoc]at this
 simp [Sem.run_bind,this]
def intsOnly (kc:List Ab):Bool:=kc.all isIntV
theorem Nr {E:Env} {kc:List Ab} (h:intsOnly kc=true) {vs:List Value} (hr:A4 E kc vs) (i:Nat) (v:Value) (hv:vs[i]? = some v):∃K n,v=.int K n:=by
 have hi:i<kc.length:=by have:=(UV.1 hv).1;have:=hr.1;omega
 have h1:=hr.2 i kc[i] v (UU hi) hv
 have h2:=(Vn.1 h) kc[i] (Vi hi)
 revert h1 h2
 generalize kc[i]=c
 intro h1 h2
 cases c <;> first | exact ⟨_,_,h1.int_inv⟩ | cases h2
theorem UJ {E:Env} {t:TypeId} {k:Ab} {kc:List Ab} {v:Value} (h:Q1 P E t k kc v) (em:Bool) (w:World):(Instr.checkKey em 10000 t v).run P w=.ok () w:=by
 cases h with
 | int hi hk hc hv=>subst hv;obtain ⟨q,hq⟩:=EI hi;exact PN hq _ w (by simp)
 | agg he hk hv hr hl ho=>
  rename_i vs
  subst hv
  have hi:intsOnly kc=true:=ho
  have hno:∀(i:Nat) (v:Value),vs[i]? = some v→∀(d:TypeId) (x:Value),v≠Value.iface d x:=fun i v hv d x e=>by
   obtain ⟨K,n,h⟩:=Nr hi hr i v (by simpa using hv)
   rw [h]at e;cases e
  have hsz:vs.size=Aq P t:=by have:=hr.1;simp at this;omega
  unfold eqB at he
  simp only [Vh]at he
  obtain ⟨_,he⟩:=he
  split at he
  ·rename_i n e hu
   obtain ⟨e',q,q1,q2,q3,q4⟩:=IX he
   exact UK (d:=9998) q1 q2 q3 vs (by omega) hno w
  ·rename_i fs hu
   split at he
   ·rename_i f g hfs
    simp only [Vh,bne_iff_ne,ne_eq,beq_iff_eq,Wc]at he
    obtain ⟨⟨⟨⟨⟨⟨hf,hg⟩,hfi⟩,hf0⟩,hg1⟩,hst⟩,hga⟩:=he
    split at hga
    ·rename_i n e hgu
     simp only [Vh,beq_iff_eq]at hga
     obtain ⟨hga,hszt⟩:=hga
     obtain ⟨e',q,q1,q2,q3,q4⟩:=IX hga
     obtain ⟨kf,hkf⟩:=EI hfi
     have hx:vs[0]? = some (vs[0]'(by omega)):=by simp
     have hpa:(part g.type vs 1).run P w=.ok (.agg (vs.toList.drop 1).toArray) w:=by
      have hagg:(isAgg g.type).run P w=.ok true w:=by simp [isAgg,Sem.run_bind,run_underlying q1,Result.andThen_ok]
      simp only [part,Sem.run_bind,hagg,Result.andThen_ok,if_true,CS q1,q4,Sem.run_pure]
      congr 2
      apply XO
      simp [Xx]
      rw [Vg (by simp;omega)]
     have c1:=PN (P:=P) (em:=em) (n:=9998) hkf (vs[0]'(by omega)) w (hno 0 _ hx)
     have c2:=UK (P:=P) (em:=em) (d:=9997) q1 q2 q3 (vs.toList.drop 1).toArray (by simp;omega) (fun i v hv=>hno (1+i) v (by simpa [-List.drop_one]using hv)) w
     unfold Instr.checkKey
     simp only [Sem.run_bind,run_underlying hu,Result.andThen_ok]
     rw [←Array.forIn_toList,hfs]
     simp only [List.forIn_cons,List.forIn_nil,hf,hg,ne_eq,not_false_eq_true,if_true,hf0,hg1,Sem.run_bind,J0 hkf w hx,hpa,Result.andThen_ok,c1,c2,Sem.run_pure]
    ·cases hga
   ·cases he
  ·cases he
def NJ (E:Env) (es:List (Ab×Ab)) (en:List MapEntry):Prop:=en.length=es.length∧∀(i:Nat) (k v:Ab),es[i]? = some (k,v)→∃e,en[i]? = some e∧Ax E k e.key∧Ax E v e.val
theorem NJ.tail {E:Env} {p:Ab×Ab} {es:List (Ab×Ab)} {e:MapEntry} {en:List MapEntry} (h:NJ E (p::es) (e::en)):NJ E es en:=
 ⟨by simpa using h.1,fun i k v hi=>by simpa using h.2 (i+1) k v (by simpa using hi)⟩
theorem find_now {E:Env} {t:TypeId} (ht:keyB P t=true) {k:Ab} {kc:List Ab} {v:Value} (hk:Q1 P E t k kc v) (w:World):∀(es:List (Ab×Ab)) (en:List MapEntry) (i:Nat) (r:Option Ab),NJ E es en→E7 (B6 P t) (Aq P t) es kc=some r →
  ∃res:Option (Nat×Value),(Instr.findAsking t v en i).run P w=.ok res w∧(∀K n,v=.int K n→∀q,P.underlying t=some (.int q)→Instr.findNow (.int q) v en i=some res) ∧
   (match res with
   | none=>r=none∧∀x,Dn (B6 P t) (Aq P t) es k kc x=some (es++[(k,x)])
   | some (j,u)=>∃j' k' y,j=i+j'∧es[j']? = some (k',y)∧r=some y∧Ax E y u∧k'=k∧∀x,Dn (B6 P t) (Aq P t) es k kc x=some (es.set j' (k',x)))
 | [],en,i,r,h,hl=>by
  have:en=[]:=Vo (by simpa using h.1)
  subst this
  simp only [E7,Ve]at hl
  subst hl
  exact ⟨none,by simp [Instr.findAsking],fun _ _ _ _ _=>by simp [Instr.findNow],rfl,fun x=>rfl⟩
 | (k',y)::es,en,i,r,h,hl=>by
  cases en with
  | nil=>have:=h.1;simp at this
  | cons e en=>
   obtain ⟨e',h1,h2,h3⟩:=h.2 0 k' y rfl
   simp at h1;subst h1
   simp only [E7]at hl
   cases hkc:DK (B6 P t) (Aq P t) k' with
   | none=>simp [hkc]at hl
   | some kc'=>
    simp only [hkc,Option.bind_some]at hl
    cases hb:BJ kc kc' with
    | none=>simp [hb]at hl
    | some b=>
     simp only [hb,Option.bind_some]at hl
     have hk':=key_is ht hkc h2
     have heq:=key_equal hk hk' hb w
     have hnow:∀K n,v=.int K n→∀q,Instr.sameNow (.int q) v e.key=some b:=by
      intro K n hv q
      cases hk with
      | agg he hk0 hv0 hr hl0 ho=>rw [hv0]at hv;cases hv
      | int hi hk0 hc0 hv0=>
       cases hk' with
       | agg he' _ _ _ _ _=>have:=(HO he').1;rw [IW hi]at this;cases this
       | int hi' hk0' hc0' hv0'=>
        rw [hv0,hv0']
        subst hc0;subst hc0'
        simp only [BJ,GQ]at hb
        split at hb
        ·rename_i ee;subst ee;simp at hb;subst hb;simp [Instr.sameNow]
        ·simp at hb
     cases b with
     | true=>
      simp only [if_true,Ve]at hl
      subst hl
      have hkk:kc=kc':=OG hb
      have hk2:k'=k:=by
       subst hkk
       cases hk with
       | agg he hk0 _ _ _ _=>cases hk' with
        | agg _ hk0' _ _ _ _=>rw [hk0,hk0']
        | int hi' _ _ _=>have:=(HO he).1;rw [IW hi']at this;cases this
       | int hi hk0 hc0 _=>cases hk' with
        | agg he' _ _ _ _ _=>have:=(HO he').1;rw [IW hi]at this;cases this
        | int _ hk0' hc0' _=>rw [hk0,hk0'];rw [hc0]at hc0';simpa using hc0'.symm
      refine ⟨some (i,e.val),by simp [Instr.findAsking,Sem.run_bind,heq,Result.andThen_ok],fun K n hv q _=>by simp [Instr.findNow,hnow K n hv q],0,k',y,rfl,rfl,rfl,h3,hk2,fun x=>?_⟩
      simp only [Dn,hkc,Option.bind_some,hb,if_true,List.set_cons_zero]
     | false=>
      simp only [Vd,if_false]at hl
      obtain ⟨res,r1,r2,r3⟩:=find_now ht hk w es en (i+1) r h.tail hl
      refine ⟨res,by simp [Instr.findAsking,Sem.run_bind,heq,Result.andThen_ok,r1],fun K n hv q hq=>by simp [Instr.findNow,hnow K n hv q,r2 K n hv q hq],?_⟩
      cases res with
      | none=>
       obtain ⟨s1,s2⟩:=r3
       exact ⟨s1,fun x=>by simp [Dn,hkc,hb,s2 x]⟩
      | some p=>
       obtain ⟨j,u⟩:=p
       obtain ⟨j',k2,y2,s1,s2,s3,s4,s5,s6⟩:=r3
       exact ⟨j'+1,k2,y2,by omega,by simpa using s2,s3,s4,s5,fun x=>by simp [Dn,hkc,hb,s6 x]⟩
theorem find_key {E:Env} {t:TypeId} (ht:keyB P t=true) {k:Ab} {kc:List Ab} {v:Value} (hk:Q1 P E t k kc v) (w:World) {es:List (Ab×Ab)} {en:List MapEntry} {r:Option Ab} (h:NJ E es en) (hl:E7 (B6 P t) (Aq P t) es kc=some r) :
  ∃res:Option (Nat×Value),(Instr.findKey t v en).run P w=.ok res w ∧
   (match res with
   | none=>r=none∧∀x,Dn (B6 P t) (Aq P t) es k kc x=some (es++[(k,x)])
   | some (j,u)=>∃k' y,es[j]? = some (k',y)∧r=some y∧Ax E y u∧k'=k∧∀x,Dn (B6 P t) (Aq P t) es k kc x=some (es.set j (k',x))):=by
 obtain ⟨res,h1,h2,h3⟩:=find_now ht hk w es en 0 r h hl
 refine ⟨res,?_,?_⟩
 ·cases hk with
  | agg he hk0 hv0 hr hl0 ho=>
   obtain ⟨_,n,e,hu⟩:=HO he
   rw [run_findKey_eq w (by rcases hu with hu | ⟨fs,hu⟩ <;> simp [hu])]
   exact h1
  | int hi hk0 hc0 hv0=>
   obtain ⟨q,hq⟩:=EI hi
   simp [Instr.findKey,Sem.run_bind,run_underlying hq,Result.andThen_ok,h2 _ _ hv0 q hq]
 ·cases res with
  | none=>exact h3
  | some p=>
   obtain ⟨j,u⟩:=p
   obtain ⟨j',k',y,s1,s2,s3,s4,s5,s6⟩:=h3
   have:j=j':=by omega
   subst this
   exact ⟨k',y,s2,s3,s4,s5,s6⟩

end
section
variable {P:Program} {E:Env} {H:Aa} {w:World}
theorem MN {b:Nat} {en:Array MapEntry} {ck:Nat} (h:w.heap[b]? = some (.map en ck)):(getObj b).run P w=.ok (.map en ck) w:=by
 simp [getObj,Sem.run,h]
theorem R1 {b:Nat} {en:Array MapEntry} {ck:Nat} {o':Obj} (h:w.heap[b]? = some (.map en ck)):(setObj b o').run P w=.ok () { w with heap:=w.heap.setIfInBounds b o' }:=by
 simp [setObj,Sem.run,h]
theorem stays {t:TypeId} {k:Ab} {kc:List Ab} {v v':Value} (h:Q1 P E t k kc v) (h':Q1 P E t k kc v'):(Instr.keyThatStays v' v).run P w=.ok v w:=by
 have hs:Instr.sameBits 10000 v' v=true:=by
  cases h with
  | int hi hk hc hv=>
   cases h' with
   | int _ hk' _ hv'=>rw [hk]at hk';injection hk' with e1 e2;subst hv;subst hv';subst e1;subst e2;simp [Instr.sameBits]
   | agg he' _ _ _ _ _=>have:=(HO he').1;rw [IW hi]at this;cases this
  | agg he hk hv hr hl ho=>
   rename_i vs
   cases h' with
   | int hi' _ _ _=>have:=(HO he).1;rw [IW hi']at this;cases this
   | agg _ _ hv' hr' _ _=>
    rename_i us _ _ _ _
    subst hv;subst hv'
    have e:us.toList=vs.toList:=by
     apply W6
     intro i
     have l1:=hr.1;have l2:=hr'.1
     by_cases hi:i<kc.length
     ·obtain ⟨a,a1,a2⟩:=hr.get (UU hi)
      obtain ⟨b,b1,b2⟩:=hr'.get (UU hi)
      have hii:=Vn.1 ho kc[i] (Vi hi)
      rw [a1,b1]
      revert a2 b2 hii
      generalize kc[i]=c
      intro a2 b2 hii
      cases c <;> first | (exact (by rw [a2.int_inv,b2.int_inv])) | cases hii
     ·rw [Vl (by omega),Vl (by omega)]
    have e':us=vs:=XO e
    subst e'
    simp only [Instr.sameBits,beq_self_eq_true,VW,Vn]
    rintro ⟨x,y⟩ hxy
    obtain ⟨i,hi,hxi⟩:=V5 hxy
    simp only [List.getElem_zip,Vv]at hxi
    obtain ⟨rfl,rfl⟩:=hxi
    have hlt:i<us.toList.length:=by simp at hi;simpa using hi
    obtain ⟨K,n,hKn⟩:=Nr (kc:=kc) ho hr i us.toList[i] (UU hlt)
    rw [hKn];simp [Instr.sameBits]
 simp [Instr.keyThatStays,hs]
theorem IM {a:Bool} {n:Nat} {k:Ab} {kc:List Ab} {x:Ab}:∀ {es es':List (Ab×Ab)},Dn a n es k kc x=some es'→∃r,E7 a n es kc=some r
 | [],_,_=>⟨none,rfl⟩
 | (k',v)::es,es',h=>by
  simp only [Dn]at h
  simp only [E7]
  cases hk:DK a n k' with
  | none=>simp [hk]at h
  | some kc'=>
   simp only [hk,Option.bind_some]at h ⊢
   cases hb:BJ kc kc' with
   | none=>simp [hb]at h
   | some b=>
    simp only [hb,Option.bind_some]at h ⊢
    cases b with
    | true=>exact ⟨_,rfl⟩
    | false=>
     simp only [Vd,if_false]at h ⊢
     cases hu:Dn a n es k kc x with
     | none=>simp [hu]at h
     | some e2=>exact IM hu
theorem Qm (hs:Sim E H w) {id:Nat} {es:List (Ab×Ab)} (hH:H[id]? = some (.map es)):∃b en ck,E.φ id 0=some b∧w.heap[b]? = some (.map en ck)∧NJ E es en.toList:=by
 obtain ⟨b,en,ck,h1,h2,h3,h4⟩:=hs.blk id _ hH
 refine ⟨b,en,ck,h1,h2,by simpa using h3,fun i k v hi=>?_⟩
 obtain ⟨e,q1,q2,q3⟩:=h4 i k v hi
 exact ⟨e,by simpa using q1,q2,q3⟩
theorem zeroV_run {t:TypeId} {z:Ab} (h:T9 P t=some z):∃v,(zeroValue t).run P w=.ok v w∧Ax E z v:=by
 unfold T9 at h
 cases hi:P.info? t with
 | none=>simp [hi]at h
 | some i=>
  cases hz:i.zero with
  | none=>simp [hi,hz]at h
  | some v=>
   simp [hi,hz]at h
   subst h
   exact ⟨v,L1 hi hz w,absV_rel E v⟩
theorem map_look {C:Cfg} (hC:C.key=keyB C.P) (t kt e:TypeId) (ok:Bool) (E:Env) (H:Aa) (w:World) (m k z:Ab) (u v:Value) (hu:C.P.underlying t=some (.map kt e)) (hk:C.key kt=true) (hs:Sim E H w) (hm:Ax E m u) (hv:Ax E k v)
  (h:Fb (B6 C.P kt) (Aq C.P kt) (T9 C.P e) ok m k H=some z):B1 E C.P w (Instr.lookup t u v ok) z:=by
 rw [hC]at hk
 unfold Fb at h
 cases hz:T9 C.P e with
 | none=>simp [hz]at h
 | some z0=>
  simp only [hz,Option.bind_some]at h
  cases hkc:DK (B6 C.P kt) (Aq C.P kt) k with
  | none=>simp [hkc]at h
  | some kc=>
   simp only [hkc,Option.bind_some]at h
   obtain ⟨zv,hz1,hz2⟩:=zeroV_run (w:=w) (E:=E) hz
   have hkey:=key_is hk hkc hv
   split at h
   ·rename_i id
    split at h
    ·rename_i es hH
     obtain ⟨b,en,ck,h1,h2,h3⟩:=Qm hs hH
     have hmu:u=.map (some b):=by cases hm with | mp hx=>rw [h1]at hx;cases hx;rfl
     subst hmu
     cases hl:E7 (B6 C.P kt) (Aq C.P kt) es kc with
     | none=>simp [hl]at h
     | some r=>
      obtain ⟨res,f1,f2⟩:=find_key hk hkey w h3 hl
      have hck:=UJ hkey en.isEmpty w
      simp only [hl,Option.map_some,Ve]at h
      cases res with
      | none=>
       obtain ⟨rfl,_⟩:=f2
       refine ⟨if ok then .tuple #[zv,.bool false]else zv,by unfold Instr.lookup;simp [Sem.run_bind,run_underlying hu,MN h2,hck,f1,hz1],?_⟩
       subst h
       cases ok
       ·exact hz2
       ·exact .tup_of (.cons hz2 (.cons (.bool false) (.nil E)))
      | some p=>
       obtain ⟨j,x⟩:=p
       obtain ⟨k',y,_,rfl,q2,_,_⟩:=f2
       refine ⟨if ok then .tuple #[x,.bool true]else x,by unfold Instr.lookup;simp [Sem.run_bind,run_underlying hu,MN h2,hck,f1],?_⟩
       subst h
       cases ok
       ·exact q2
       ·exact .tup_of (.cons q2 (.cons (.bool true) (.nil E)))
    ·cases h
   ·cases h
theorem map_upd {C:Cfg} (hC:C.key=keyB C.P) (t kt e:TypeId) (E:Env) (H H':Aa) (w:World) (m k x:Ab) (u v y:Value) (hu:C.P.underlying t=some (.map kt e)) (hk:C.key kt=true) (hs:Sim E H w) (hm:Ax E m u) (hv:Ax E k v) (hx:Ax E x y)
  (h:DW (B6 C.P kt) (Aq C.P kt) m k x H=some H'):∃w',(Instr.mapUpdate t u v y).run C.P w=.ok () w'∧Sim E H' w'∧BH E H w E H' w':=by
 rw [hC]at hk
 unfold DW at h
 cases hkc:DK (B6 C.P kt) (Aq C.P kt) k with
 | none=>simp [hkc]at h
 | some kc=>
  simp only [hkc,Option.bind_some]at h
  have hkey:=key_is hk hkc hv
  split at h
  ·rename_i id
   split at h
   ·rename_i es hH
    obtain ⟨b,en,ck,h1,h2,h3⟩:=Qm hs hH
    have hmu:u=.map (some b):=by cases hm with | mp hx=>rw [h1]at hx;cases hx;rfl
    subst hmu
    have hbl:b<w.heap.size:=(VK.1 h2).1
    cases hup:Dn (B6 C.P kt) (Aq C.P kt) es k kc x with
    | none=>simp [hup]at h
    | some es'=>
     simp only [hup,Option.map_some,Ve]at h
     subst h
     obtain ⟨r,hl⟩:=IM hup
     obtain ⟨res,f1,f2⟩:=find_key hk hkey w h3 hl
     have hck:=UJ hkey false w
     have fin:∀(en':Array MapEntry) (ck':Nat),NJ E es' en'.toList→Sim E (H.set id (.map es')) { w with heap:=w.heap.setIfInBounds b (.map en' ck') }∧BH E H w E (H.set id (.map es')) { w with heap:=w.heap.setIfInBounds b (.map en' ck') }:=by
      intro en' ck' hr
      refine hs.upd hH (.refl E) ⟨b,en',ck',h1,by simp [hbl],by simpa using hr.1,fun i k v hi=>?_⟩ (fun _ _ _ _ h=>h) (fun _ _ _ _ h=>h) (fun y hy hne=>?_) (fun _ _ _=>rfl) (fun y o vv hv hcase=>?_) (fun y hy=>.inl hy) (fun n hB=>by cases hB) rfl rfl rfl (by simp)
      ·obtain ⟨e,q1,q2,q3⟩:=hr.2 i k v hi
       exact ⟨e,by simpa using q1,q2,q3⟩
      ·have:b≠y:=fun e=>hne (by rw [←e];exact h1)
       simp [Wu this]
      ·exfalso
       rcases hcase with hcase | hcase
       ·have:=hs.imm_lt hv;omega
       ·simp only [Ck]at hcase
        rw [h1]at hcase;cases hcase
        have:=hs.imm _ _ _ hv
        simp [World.cell?,h2]at this
     cases res with
     | none=>
      obtain ⟨_,q⟩:=f2
      rw [q x]at hup;injection hup with hup;subst hup
      obtain ⟨s1,s2⟩:=fin (en.push { key:=v,val:=y,born:=ck }) (ck+1) ⟨by simp [h3.1],fun i k1 v1 hi=>by
       rw [VF]at hi
       rw [Array.toList_push,VF]
       have hl:=h3.1
       split at hi
       ·rename_i hlt
        rw [if_pos (by omega)];exact h3.2 i k1 v1 hi
       ·rename_i hlt
        rw [if_neg (by omega)]
        cases hq:i-es.length with
        | zero=>
         rw [hq]at hi;simp at hi
         obtain ⟨rfl,rfl⟩:=hi
         rw [hl,hq]
         exact ⟨_,rfl,hv,hx⟩
        | succ n=>rw [hq]at hi;simp at hi⟩
      refine ⟨_,?_,s1,s2⟩
      unfold Instr.mapUpdate
      simp only [Sem.run_bind,run_underlying hu,Result.andThen_ok]
      simp [Sem.run_bind,MN h2,hck,f1,R1 h2]
     | some p=>
      obtain ⟨j,z⟩:=p
      obtain ⟨k',y0,q1,_,q3,q4,q⟩:=f2
      rw [q x]at hup;injection hup with hup;subst hup
      subst q4
      obtain ⟨ej,p1,p2,p3⟩:=h3.2 j k' y0 q1
      have hkey':=key_is hk hkc p2
      have hjl:j<es.length:=(UV.1 q1).1
      have hej:en[j]? = some ej:=by simpa using p1
      obtain ⟨s1,s2⟩:=fin (en.modify j fun e=>{ e with key:=v,val:=y }) ck ⟨by simp [h3.1],fun i k1 v1 hi=>by
       rw [Yd]at hi
       rw [Ww,WE]
       split at hi
       ·rename_i hij
        subst hij
        simp at hi
        obtain ⟨rfl,rfl⟩:=hi
        rw [hej]
        exact ⟨_,by simp;rfl,hv,hx⟩
       ·rename_i hij
        rw [if_neg (by omega)]
        obtain ⟨e,q1,q2,q3⟩:=h3.2 i k1 v1 hi
        exact ⟨e,by simpa using q1,q2,q3⟩⟩
      refine ⟨_,?_,s1,s2⟩
      have hst:=stays (w:=w) hkey hkey'
      unfold Instr.mapUpdate
      simp only [Sem.run_bind,run_underlying hu,Result.andThen_ok]
      simp [Sem.run_bind,MN h2,hck,f1,hej,hst,R1 h2]
   ·cases h
  ·cases h

end
def mkC (P:Program) (G:HW) (mu:Bool) (orc:Orc):Cfg:=⟨P,G,eqB P,keyB P,mu,orc⟩
theorem mk_ok {P:Program} {G:HW} {mu:Bool} {orc:Orc} (ho:G6 P G orc):Ny (mkC P G mu orc):=
 ⟨⟨fun t h=>eqB_guard h,fun t h E vas bs vs us b w h1 h2 h3 h4=>S4 h 9997 w h1 h2 h3 h4⟩,⟨fun t kt e ok E H w m k z u v=>map_look rfl t kt e ok E H w m k z u v,fun t kt e E H H' w m k x u v y=>map_upd rfl t kt e E H H' w m k x u v y⟩,ho⟩
noncomputable def bindK (m:EW) (H0:Aa) (x:Out) (k:Ab→Aa→Out):Out:=HD x k (fun v H=>fin m H0 (.pan v) H)
noncomputable def Bk (x:Out) (k:Ab→Aa→Out):Out:=HD x k (fun _ _=>none)
abbrev LK:=List Ab→Aa→Out
def ag (vs:List Ab) (i:Nat):Ab:=vs.getD i .undef
noncomputable def bK (H0:Aa) (x:Out) (k:Ab→Aa→Out):Out:=HD x k (fun v H=>fin .keep H0 (.pan v) H)
noncomputable def bP (H0:Aa) (x:Out) (k:Ab→Aa→Out):Out:=HD x k (fun v H=>fin .pure H0 (.pan v) H)
noncomputable def rK (H0:Aa) (v:Ab) (H:Aa):Out:=fin .keep H0 (.ret v) H
noncomputable def rP (H0:Aa) (v:Ab) (H:Aa):Out:=fin .pure H0 (.ret v) H
noncomputable def rKN (H0:Aa) (v:Ab) (H:Aa):Out:=fin .keepN H0 (.ret v) H
noncomputable def rPN (H0:Aa) (v:Ab) (H:Aa):Out:=fin .pureN H0 (.ret v) H
noncomputable def gbK (H0:Aa) (c:Ab) (w:Bool) (H:Aa) (x:Out) (k:Ab→Aa→Out):Out:=gbE c w H x k (fun v H=>fin .keep H0 (.pan v) H)
noncomputable def gbP (H0:Aa) (c:Ab) (w:Bool) (H:Aa) (x:Out) (k:Ab→Aa→Out):Out:=gbE c w H x k (fun v H=>fin .pure H0 (.pan v) H)
noncomputable def gbN (c:Ab) (w:Bool) (H:Aa) (x:Out) (k:Ab→Aa→Out):Out:=gbE c w H x k (fun _ _=>none)
def Tj:List (Option Ab)→Option (List Ab)
 | []=>some []
 | x::xs=>x.bind fun v=>(Tj xs).map (v::·)
def Fy (xs:List (Option Ab)):Option Ab:=(Tj xs).map .tup
def B8 (b:Bool) (sz:Nat) (x:Ab) (H:Aa):Option (Ab×Aa):=
 match x.acells with
 | some cs=>if !b∨cs.length≠sz then none else Az (some cs) H
 | none=>none
def panA (x:Ab) (H:Aa):Out:=
 match x with
 | .iface t v=>some (.pan (.iface t v),H)
 | _=>none
def D3 (orc:Orc) (f:Ab) (args:List Ab) (H:Aa):Out:=
 match f with
 | .fn g caps=>orc g (args++caps) H
 | .bfn g first=>orc g (first++args) H
 | _=>none
def noO:Orc:=fun _ _ _=>none
def ent (g:FuncId) (f:List Ab→Aa→Out) (o:Orc):Orc:=fun h a H=>if h=g then f a H else o h a H
def ap0 (f:Aa→Out):List Ab→Aa→Out
 | [],H=>f H
 | _,_=>none
def ap1 (f:Ab→Aa→Out):List Ab→Aa→Out
 | [a],H=>f a H
 | _,_=>none
def ap2 (f:Ab→Ab→Aa→Out):List Ab→Aa→Out
 | [a,b],H=>f a b H
 | _,_=>none
def ap3 (f:Ab→Ab→Ab→Aa→Out):List Ab→Aa→Out
 | [a,b,c],H=>f a b c H
 | _,_=>none
def ap4 (f:Ab→Ab→Ab→Ab→Aa→Out):List Ab→Aa→Out
 | [a,b,c,d],H=>f a b c d H
 | _,_=>none
def ap5 (f:Ab→Ab→Ab→Ab→Ab→Aa→Out):List Ab→Aa→Out
 | [a,b,c,d,e],H=>f a b c d e H
 | _,_=>none
def El (fn:Func):Code:=fn.body.getD .skip
def AH (P:Program) (G:HW) (g:FuncId) (f:List Ab→Aa→Out):Prop:=∀args H res H',f args H=some (res,H')→CallA P G g args H res H'
theorem Ar (P:Program) (G:HW):G6 P G noO:=fun g a H res H' h=>by cases h
theorem Af {P:Program} {G:HW} {g:FuncId} {f:List Ab→Aa→Out} {o:Orc} (hf:AH P G g f) (ho:G6 P G o):G6 P G (ent g f o):=by
 intro h a H res H' hx
 unfold ent at hx
 split at hx
 ·rename_i e;subst e;exact hf a H res H' hx
 ·exact ho h a H res H' hx
theorem Ff {P:Program} {f:FuncId} {fn:Func} (hf:P.funcs[f]? = some fn) (hb:fn.body.isNone=false) (hn:(fn.name == "runtime.NumGoroutine")=false) (vs:Array Value) (w:World):(callFunc f vs).run P w=.ok (.enter f vs) w:=by
 have h2:¬fn.name = "runtime.NumGoroutine" := fun h=>by rw [h]at hn;simp at hn
 have h3:¬fn.body=none:=fun h=>by rw [h]at hb;cases hb
 simp [callFunc,program,Sem.run_bind,Sem.run,Result.andThen,hf,h2,h3]
theorem MO {P:Program} {G:HW} {mu:Bool} {orc:Orc} (ho:G6 P G orc) (hm:P.follows .mixedOrders=true) {f:FuncId} {fn:Func} {ann:Ann} {m:EW} (hf:P.funcs[f]? = some fn) (hb:fn.body.isNone=false) (hn:(fn.name == "runtime.NumGoroutine")=false)
  {args:List Ab} {H:Aa} {res:Res} {H':Aa} (h:fn2 (mkC P G mu orc) fn (El fn) ann m args H=some (res,H')) (hl:args.length≤fn.ntmps):CallA P G f args H res H':=by
 have hb':fn.body=some (El fn):=by
  unfold El
  cases hx:fn.body with
  | none=>rw [hx]at hb;cases hb
  | some b=>rfl
 rw [←fn_eq]at h
 exact fn_ok (C:=mkC P G mu orc) (mk_ok ho) (draw_ok (mk_ok ho) hm) hf hb' (Ff hf hb hn) h hl
def fnB (n:Nat) (fn:Func):Bool:=fn.body.isSome && !(fn.name == "runtime.NumGoroutine")&&decide (n≤fn.ntmps)
theorem F3 {n:Nat} {fn:Func} (h:fnB n fn=true):fn.body.isNone=false∧(fn.name == "runtime.NumGoroutine")=false∧n≤fn.ntmps:=by
 simp only [fnB,Vh,Wc,decide_eq_true_eq]at h
 obtain ⟨⟨h1,h2⟩,h3⟩:=h
 refine ⟨?_,h2,h3⟩
 cases hx:fn.body with
 | none=>rw [hx]at h1;cases h1
 | some b=>rfl
def T0 (P:Program) (G:HW) (mu:Bool) (orc:Orc) (fn:Func) (ann:Ann) (m:EW) (F:Aa→Out):Prop:=∀H,fn2 (mkC P G mu orc) fn (El fn) ann m [] H=F H
def T1 (P:Program) (G:HW) (mu:Bool) (orc:Orc) (fn:Func) (ann:Ann) (m:EW) (F:Ab→Aa→Out):Prop:=∀a H,fn2 (mkC P G mu orc) fn (El fn) ann m [a] H=F a H
def T2 (P:Program) (G:HW) (mu:Bool) (orc:Orc) (fn:Func) (ann:Ann) (m:EW) (F:Ab→Ab→Aa→Out):Prop:=∀a b H,fn2 (mkC P G mu orc) fn (El fn) ann m [a,b] H=F a b H
def T3 (P:Program) (G:HW) (mu:Bool) (orc:Orc) (fn:Func) (ann:Ann) (m:EW) (F:Ab→Ab→Ab→Aa→Out):Prop:=∀a b c H,fn2 (mkC P G mu orc) fn (El fn) ann m [a,b,c] H=F a b c H
def T4 (P:Program) (G:HW) (mu:Bool) (orc:Orc) (fn:Func) (ann:Ann) (m:EW) (F:Ab→Ab→Ab→Ab→Aa→Out):Prop:=∀a b c d H,fn2 (mkC P G mu orc) fn (El fn) ann m [a,b,c,d] H=F a b c d H
def T5 (P:Program) (G:HW) (mu:Bool) (orc:Orc) (fn:Func) (ann:Ann) (m:EW) (F:Ab→Ab→Ab→Ab→Ab→Aa→Out):Prop:=∀a b c d e H,fn2 (mkC P G mu orc) fn (El fn) ann m [a,b,c,d,e] H=F a b c d e H
section
variable {P:Program} {G:HW} {mu:Bool} {orc:Orc} {f:FuncId} {fn:Func} {ann:Ann} {m:EW}
theorem fn_ok0 (hm:P.follows .mixedOrders=true) (ho:G6 P G orc) {F:Aa→Out} (hf:P.funcs[f]? = some fn) (hb:fnB 0 fn=true) (h:T0 P G mu orc fn ann m F):AH P G f (ap0 F):=by
 obtain ⟨b1,b2,b3⟩:=F3 hb
 intro args H res H' hx
 unfold ap0 at hx
 split at hx
 ·exact MO ho hm hf b1 b2 (by rw [h];exact hx) b3
 ·cases hx
theorem fn_ok1 (hm:P.follows .mixedOrders=true) (ho:G6 P G orc) {F:Ab→Aa→Out} (hf:P.funcs[f]? = some fn) (hb:fnB 1 fn=true) (h:T1 P G mu orc fn ann m F):AH P G f (ap1 F):=by
 obtain ⟨b1,b2,b3⟩:=F3 hb
 intro args H res H' hx
 unfold ap1 at hx
 split at hx
 ·exact MO ho hm hf b1 b2 (by rw [h];exact hx) b3
 ·cases hx
theorem PA (hm:P.follows .mixedOrders=true) (ho:G6 P G orc) {F:Ab→Ab→Aa→Out} (hf:P.funcs[f]? = some fn) (hb:fnB 2 fn=true) (h:T2 P G mu orc fn ann m F):AH P G f (ap2 F):=by
 obtain ⟨b1,b2,b3⟩:=F3 hb
 intro args H res H' hx
 unfold ap2 at hx
 split at hx
 ·exact MO ho hm hf b1 b2 (by rw [h];exact hx) b3
 ·cases hx
theorem fn_ok3 (hm:P.follows .mixedOrders=true) (ho:G6 P G orc) {F:Ab→Ab→Ab→Aa→Out} (hf:P.funcs[f]? = some fn) (hb:fnB 3 fn=true) (h:T3 P G mu orc fn ann m F):AH P G f (ap3 F):=by
 obtain ⟨b1,b2,b3⟩:=F3 hb
 intro args H res H' hx
 unfold ap3 at hx
 split at hx
 ·exact MO ho hm hf b1 b2 (by rw [h];exact hx) b3
 ·cases hx
theorem none_ok3 {F:Ab→Ab→Ab→Aa→Out} (h:∀a b c H,F a b c H=none):AH P G f (ap3 F):=by
 intro args H res H' hx
 unfold ap3 at hx
 split at hx
 ·rw [h]at hx;cases hx
 ·cases hx
theorem fn_ok4 (hm:P.follows .mixedOrders=true) (ho:G6 P G orc) {F:Ab→Ab→Ab→Ab→Aa→Out} (hf:P.funcs[f]? = some fn) (hb:fnB 4 fn=true) (h:T4 P G mu orc fn ann m F):AH P G f (ap4 F):=by
 obtain ⟨b1,b2,b3⟩:=F3 hb
 intro args H res H' hx
 unfold ap4 at hx
 split at hx
 ·exact MO ho hm hf b1 b2 (by rw [h];exact hx) b3
 ·cases hx
theorem none_ok4 {F:Ab→Ab→Ab→Ab→Aa→Out} (h:∀a b c d H,F a b c d H=none):AH P G f (ap4 F):=by
 intro args H res H' hx
 unfold ap4 at hx
 split at hx
 ·rw [h]at hx;cases hx
 ·cases hx
theorem Su (hm:P.follows .mixedOrders=true) (ho:G6 P G orc) {F:Ab→Ab→Ab→Ab→Ab→Aa→Out} (hf:P.funcs[f]? = some fn) (hb:fnB 5 fn=true) (h:T5 P G mu orc fn ann m F):AH P G f (ap5 F):=by
 obtain ⟨b1,b2,b3⟩:=F3 hb
 intro args H res H' hx
 unfold ap5 at hx
 split at hx
 ·exact MO ho hm hf b1 b2 (by rw [h];exact hx) b3
 ·cases hx
theorem Oa {F:Ab→Ab→Ab→Ab→Ab→Aa→Out} (h:∀a b c d e H,F a b c d e H=none):AH P G f (ap5 F):=by
 intro args H res H' hx
 unfold ap5 at hx
 split at hx
 ·rw [h]at hx;cases hx
 ·cases hx
end
def Tb {α:Type}:Code→Nat→List (List Nat)→(Ann→Nat→List (List Nat)→α)→α
 | .region _ ops true,c,L,k=>(match L with
  | []::L=>k (.reg (List.range ops.size)) c L
  | l::L=>k (.reg l) c L
  | []=>k .lf c [])
 | .seq a b,c,L,k=>(match L with
  | (x::l)::L'=>(match Nat.beq x (1000000+c)with
   | true=>Tb a (c+1) L' fun p c L=>Tb b c L fun q c L=>k (.join l p q) c L
   | false=>Tb a (c+1) L fun p c L=>Tb b c L fun q c L=>k (.tw p q) c L)
  | _=>Tb a (c+1) L fun p c L=>Tb b c L fun q c L=>k (.tw p q) c L)
 | .cond _ a b,c,L,k=>Tb a (c+1) L fun p c L=>Tb b c L fun q c L=>k (.tw p q) c L
 | .block _ a,c,L,k=>Tb a c L fun p c L=>k (.one p) c L
 | .loop a,c,L,k=>(match L with
  | l::L=>Tb a c L fun p c L=>k (.loop l p) c L
  | []=>k .lf c [])
 | _,c,L,k=>k .lf c L
def annC (b:Code) (L:List (List Nat)):Ann:=Tb b 0 L fun a _ _=>a
section
variable {P:Program} {G:HW} {orc:Orc} {f:FuncId} {fn:Func}
theorem mk0 (m:EW) (ho:G6 P G orc) (L:List (List Nat)) (hf:P.funcs[f]? = some fn) {F:Aa→Out} (hm:P.follows .mixedOrders=true:=by kernel_rfl) (hb:fnB 0 fn=true:=by kernel_rfl) (h:T0 P G false orc fn (annC (El fn) L) m F:=by unfold T0;intros;kernel_rfl):AH P G f (ap0 F):=fn_ok0 hm ho hf hb h
theorem mk1 (m:EW) (ho:G6 P G orc) (L:List (List Nat)) (hf:P.funcs[f]? = some fn) {F:Ab→Aa→Out} (hm:P.follows .mixedOrders=true:=by kernel_rfl) (hb:fnB 1 fn=true:=by kernel_rfl) (h:T1 P G false orc fn (annC (El fn) L) m F:=by unfold T1;intros;kernel_rfl):AH P G f (ap1 F):=fn_ok1 hm ho hf hb h
theorem mv1 (m:EW) (ho:G6 P G orc) (L:List (List Nat)) (hf:P.funcs[f]? = some fn) {F:Ab→Aa→Out} (hm:P.follows .mixedOrders=true:=by kernel_rfl) (hb:fnB 1 fn=true:=by kernel_rfl) (h:T1 P G true orc fn (annC (El fn) L) m F:=by unfold T1;intros;kernel_rfl):AH P G f (ap1 F):=fn_ok1 hm ho hf hb h
theorem mk2 (m:EW) (ho:G6 P G orc) (L:List (List Nat)) (hf:P.funcs[f]? = some fn) {F:Ab→Ab→Aa→Out} (hm:P.follows .mixedOrders=true:=by kernel_rfl) (hb:fnB 2 fn=true:=by kernel_rfl) (h:T2 P G false orc fn (annC (El fn) L) m F:=by unfold T2;intros;kernel_rfl):AH P G f (ap2 F):=PA hm ho hf hb h
theorem mk3 (m:EW) (ho:G6 P G orc) (L:List (List Nat)) (hf:P.funcs[f]? = some fn) {F:Ab→Ab→Ab→Aa→Out} (hm:P.follows .mixedOrders=true:=by kernel_rfl) (hb:fnB 3 fn=true:=by kernel_rfl) (h:T3 P G false orc fn (annC (El fn) L) m F:=by unfold T3;intros;kernel_rfl):AH P G f (ap3 F):=fn_ok3 hm ho hf hb h
theorem mk5 (m:EW) (ho:G6 P G orc) (L:List (List Nat)) (hf:P.funcs[f]? = some fn) {F:Ab→Ab→Ab→Ab→Ab→Aa→Out} (hm:P.follows .mixedOrders=true:=by kernel_rfl) (hb:fnB 5 fn=true:=by kernel_rfl) (h:T5 P G false orc fn (annC (El fn) L) m F:=by unfold T5;intros;kernel_rfl):AH P G f (ap5 F):=Su hm ho hf hb h
end
abbrev A6:TypeId:=48
abbrev AM:TypeId:=169
abbrev BT:TypeId:=4
abbrev BK:TypeId:=147
abbrev Gb:TypeId:=3
abbrev GU:TypeId:=70
abbrev BX:TypeId:=96
def Gs:HW:=fun _=>none
section
variable {m:EW} {H0 H G:Aa} {k:Ab→Aa→Out}
@[simp] theorem bindK_ret (v:Ab):bindK m H0 (some (.ret v,H)) k=k v H:=(rfl)
@[simp] theorem By (v:Ab):Bk (some (.ret v,H)) k=k v H:=(rfl)
@[simp] theorem bindK_pan (v:Ab):bindK m H0 (some (.pan v,H)) k=fin m H0 (.pan v) H:=(rfl)
@[simp] theorem Bu (v:Ab):Am (some (v,H)) k=k v H:=(rfl)
@[simp] theorem wantV_bool (b w:Bool):PZ (.bool b) w=some (b == w):=(rfl)
@[simp] theorem wantV_skip (w:Bool):PZ (.tup []) w=some false:=(rfl)
@[simp] theorem Ra (x:Option Ab):gR true x=x:=(rfl)
@[simp] theorem Oz (x:Option Ab):gR false x=some Ce:=(rfl)
@[simp] theorem gE_true (x:Out):gE true H x=x:=(rfl)
@[simp] theorem gE_false (x:Out):gE false H x=some (.ret Ce,H):=(rfl)
@[simp] theorem gA_true (x:Option (Ab×Aa)):gA true H x=x:=(rfl)
@[simp] theorem gA_false (x:Option (Ab×Aa)):gA false H x=some (Ce,H):=(rfl)
@[simp] theorem C0 (a b:Ab):AI (.bool true) a b=some a:=(rfl)
@[simp] theorem Cr (a b:Ab):AI (.bool false) a b=some b:=(rfl)
@[simp] theorem AZ (a b:Out):Aj (.bool true) a b=a:=(rfl)
@[simp] theorem AP (a b:Out):Aj (.bool false) a b=b:=(rfl)
@[simp] theorem fin_keep (r:Res):fin .keep H0 r H=some (r,H):=(rfl)
theorem Eg {v:Ab} (h:H.take H0.length=H0):fin .pure H0 (.ret v) H=(frz H H0.length 8 v).map fun v=>(.ret v,H0):=by
 simp only [fin,chk,h,if_true]
@[simp] theorem fin_pure_int {K:IntKind} {n:Int}:fin .pure H0 (.ret (.int K n)) (H0++G)=some (.ret (.int K n),H0):=by
 rw [Eg (by simp)];simp [frz]
@[simp] theorem To {b:Bool}:fin .pure H0 (.ret (.bool b)) (H0++G)=some (.ret (.bool b),H0):=by
 rw [Eg (by simp)];simp [frz]
@[simp] theorem fin_pure_str {s:List UInt8}:fin .pure H0 (.ret (.str s)) (H0++G)=some (.ret (.str s),H0):=by
 rw [Eg (by simp)];simp [frz]
@[simp] theorem Tn {K:IntKind} {n:Int}:fin .pure H0 (.ret (.int K n)) H0=some (.ret (.int K n),H0):=by
 rw [Eg (by simp)];simp [frz]
@[simp] theorem Sx {b:Bool}:fin .pure H0 (.ret (.bool b)) H0=some (.ret (.bool b),H0):=by
 rw [Eg (by simp)];simp [frz]
@[simp] theorem Tm {s:List UInt8}:fin .pure H0 (.ret (.str s)) H0=some (.ret (.str s),H0):=by
 rw [Eg (by simp)];simp [frz]
@[simp] theorem Ia (v:Ab):retV (some v) H=some (.ret v,H):=(rfl)
@[simp] theorem AV:AF (some H)=some (.ret .undef,H):=(rfl)
@[simp] theorem Da (v:Ab):BZ (some (v,H))=some (.ret v,H):=(rfl)

end
section
variable {ek:EqK} {k:IntKind} {a b:Int}
@[simp] theorem Cu:Ae ek .add (.int k a) (.int k b)=some (.int k (k.wrap (a+b))):=by simp [Ae,Dh,Fp]
@[simp] theorem DE:Ae ek .sub (.int k a) (.int k b)=some (.int k (k.wrap (a-b))):=by simp [Ae,Dh,Fp]
@[simp] theorem Jd:Ae ek .mul (.int k a) (.int k b)=some (.int k (k.wrap (a*b))):=by simp [Ae,Dh,Fp]
@[simp] theorem DF:Ae ek .eql (.int k a) (.int k b)=some (.bool (a == b)):=by simp [Ae,Dh,Fp]
@[simp] theorem HU:Ae ek .neq (.int k a) (.int k b)=some (.bool (a != b)):=by simp [Ae,Dh,Fp]
@[simp] theorem Bm:Ae ek .lss (.int k a) (.int k b)=some (.bool (decide (a<b))):=by simp [Ae,Dh,Fp]
@[simp] theorem KL:Ae ek .leq (.int k a) (.int k b)=some (.bool (decide (a≤b))):=by simp [Ae,Dh,Fp]
@[simp] theorem D4:Ae ek .gtr (.int k a) (.int k b)=some (.bool (decide (a>b))):=by simp [Ae,Dh,Fp]
@[simp] theorem KM:Ae ek .geq (.int k a) (.int k b)=some (.bool (decide (a≥b))):=by simp [Ae,Dh,Fp]
variable {s u:List UInt8}
@[simp] theorem Ms:Ae ek .eql (.str s) (.str u)=some (.bool (s == u)):=(rfl)
@[simp] theorem bin_sneq:Ae ek .neq (.str s) (.str u)=some (.bool (!(s == u))):=(rfl)
@[simp] theorem Je {c:Bool}:unA .not (.bool c)=some (.bool (!c)):=(rfl)
@[simp] theorem IS:CG (.str s)=some (.int .i64 s.length):=(rfl)
@[simp] theorem len_sl {es:List (List Ab)} {tk:Tok}:A5 (.sl es tk)=some (.int .i64 es.length):=(rfl)
@[simp] theorem len_ms {id g off len cap sz:Nat} {ex:Bool}:A5 (.ms id g off len cap sz ex)=some (.int .i64 len):=(rfl)
@[simp] theorem Ah {off id g o:Nat}:Ad off (.ptr id g o)=some (.ptr id g (o+off)):=(rfl)
@[simp] theorem Al {off o:Nat} {cs:List Ab}:Ad off (.cptr cs o)=some (.cptr cs (o+off)):=(rfl)

end
section
variable {H0 H:Aa} {k:Ab→Aa→Out} {kv:Ab→Out}
@[simp] theorem Ak (v:Ab) (l:List Ab):ag (v::l) 0=v:=(rfl)
@[simp] theorem Ai (v:Ab) (l:List Ab) (i:Nat):ag (v::l) (i+1)=ag l i:=(rfl)
@[simp] theorem Bc (a v:Ab) (l:List Ab):ag (a::v::l) 1=v:=(rfl)
@[simp] theorem Bg (a b v:Ab) (l:List Ab):ag (a::b::v::l) 2=v:=(rfl)
@[simp] theorem Bw (a b c v:Ab) (l:List Ab):ag (a::b::c::v::l) 3=v:=(rfl)
@[simp] theorem BG (a b c d v:Ab) (l:List Ab):ag (a::b::c::d::v::l) 4=v:=(rfl)
@[simp] theorem D5 (a b c d e v:Ab) (l:List Ab):ag (a::b::c::d::e::v::l) 5=v:=(rfl)
@[simp] theorem EU (v:Ab):bK H0 (some (.ret v,H)) k=k v H:=(rfl)
@[simp] theorem CC (v:Ab):bP H0 (some (.ret v,H)) k=k v H:=(rfl)
@[simp] theorem No (v:Ab):rK H0 v H=some (.ret v,H):=(rfl)
theorem rP_eq (v:Ab) (h:H.take H0.length=H0):rP H0 v H=(frz H H0.length 8 v).map fun v=>(.ret v,H0):=Eg h
@[simp] theorem Ii {G:Aa} {K:IntKind} {n:Int}:rP H0 (.int K n) (H0++G)=some (.ret (.int K n),H0):=fin_pure_int
@[simp] theorem FB {G:Aa} {b:Bool}:rP H0 (.bool b) (H0++G)=some (.ret (.bool b),H0):=To
@[simp] theorem rP_str {G:Aa} {s:List UInt8}:rP H0 (.str s) (H0++G)=some (.ret (.str s),H0):=fin_pure_str
@[simp] theorem rP_int0 {K:IntKind} {n:Int}:rP H0 (.int K n) H0=some (.ret (.int K n),H0):=Tn
@[simp] theorem rP_bool0 {b:Bool}:rP H0 (.bool b) H0=some (.ret (.bool b),H0):=Sx
@[simp] theorem rP_str0 {s:List UInt8}:rP H0 (.str s) H0=some (.ret (.str s),H0):=Tm
@[simp] theorem IY (x:Option Ab):gk (.bool true) true x kv=x.bind kv:=(rfl)
@[simp] theorem Sq (x:Option Ab):gk (.bool true) false x kv=kv Ce:=(rfl)
@[simp] theorem Qs (x:Option Ab):gk (.bool false) true x kv=kv Ce:=(rfl)
@[simp] theorem LP (x:Option Ab):gk (.bool false) false x kv=x.bind kv:=(rfl)
@[simp] theorem gk_s (w:Bool) (x:Option Ab):gk (.tup []) w x kv=kv Ce:=(rfl)
@[simp] theorem U5 (w:Bool) (x:Out):gbK H0 (.tup []) w H x k=k Ce H:=(rfl)
@[simp] theorem U3 (w:Bool) (x:Out):gbP H0 (.tup []) w H x k=k Ce H:=(rfl)
@[simp] theorem U4 (w:Bool) (x:Out):gbN (.tup []) w H x k=k Ce H:=(rfl)
@[simp] theorem P5 (x:Out):gbK H0 (.bool true) true H x k=bK H0 x k:=(rfl)
@[simp] theorem P6 (x:Out):gbK H0 (.bool true) false H x k=k Ce H:=(rfl)
@[simp] theorem P7 (x:Out):gbK H0 (.bool false) true H x k=k Ce H:=(rfl)
@[simp] theorem P8 (x:Out):gbK H0 (.bool false) false H x k=bK H0 x k:=(rfl)
@[simp] theorem Pw (x:Out):gbP H0 (.bool true) true H x k=bP H0 x k:=(rfl)
@[simp] theorem Px (x:Out):gbP H0 (.bool true) false H x k=k Ce H:=(rfl)
@[simp] theorem Py (x:Out):gbP H0 (.bool false) true H x k=k Ce H:=(rfl)
@[simp] theorem Pz (x:Out):gbP H0 (.bool false) false H x k=bP H0 x k:=(rfl)
@[simp] theorem P0 (x:Out):gbN (.bool true) true H x k=Bk x k:=(rfl)
@[simp] theorem P1 (x:Out):gbN (.bool true) false H x k=k Ce H:=(rfl)
@[simp] theorem P3 (x:Out):gbN (.bool false) true H x k=k Ce H:=(rfl)
@[simp] theorem P4 (x:Out):gbN (.bool false) false H x k=Bk x k:=(rfl)

end
theorem An {n:Int} (h0:-9223372036854775808≤n) (h:n≤9223372036854775807):IntKind.i64.wrap n=n:=by
 have h1:IntKind.i64.bits=64:=(rfl)
 have h2:IntKind.i64.signed=true:=(rfl)
 unfold IntKind.wrap
 simp only [h1,h2,VW,decide_eq_true_eq]
 split <;> omega
theorem CF {G:LK→LK} (n:Nat) (vs:List Ab) (H:Aa):Ao G (n+1) vs H=G (Ao G n) vs H:=(rfl)
theorem DI {G:(List Ab→Aa→Out)→List Ab→Aa→Out} {n:Nat} (h:0<n) (vs:List Ab) (H:Aa):Ao G n vs H=G (Ao G (n-1)) vs H:=by
 cases n with
 | zero=>omega
 | succ n=>rfl
theorem EK:0<AQ:=by rw [Dv];decide
theorem Br {σ:Type} {G:LK→LK} (Inv:σ→Prop) (st:σ→List Ab) (hp:σ→Aa) (μ:σ→Nat) (res:σ→Out)
  (step:∀(s:σ) (rec:LK),Inv s→(∀s',Inv s'→μ s'<μ s→rec (st s') (hp s')=res s')→G rec (st s) (hp s)=res s)
  (s:σ) (hs:Inv s) (hm:μ s<1152921504606846976):Ao G AQ (st s) (hp s)=res s:=by
 have key:∀(n:Nat) (s:σ),Inv s→μ s<n→Ao G n (st s) (hp s)=res s:=by
  intro n
  induction n with
  | zero=>intro s _ h;omega
  | succ n ih=>intro s hi h;rw [CF];exact step s _ hi fun s' hi' h'=>ih s' hi' (by omega)
 exact key AQ s hs (by rw [Dv];exact hm)
theorem Cg {G:LK→LK} (N:Nat) (st:Nat→List Ab) (hp:Nat→Aa) (out:Out) (hN:N<1152921504606846976)
  (turn:∀(rec:LK) (i:Nat),i<N→G rec (st i) (hp i)=rec (st (i+1)) (hp (i+1))) (last:∀rec:LK,G rec (st N) (hp N)=out):Ao G AQ (st 0) (hp 0)=out:=by
 refine Br (σ:=Nat) (fun i=>i≤N) st hp (fun i=>N-i) (fun _=>out) (fun i rec hi hrec=>?_) 0 (Vy _) (by omega)
 by_cases h:i<N
 ·rw [turn rec i h];exact hrec (i+1) h (by omega)
 ·have:i=N:=by omega
  subst this;exact last rec
theorem Gi {G:LK→LK} (N:Nat) (I:Nat→List Ab→Aa→Prop) (hN:N<1152921504606846976)
  (turn:∀(i:Nat) (vs:List Ab) (H:Aa),i<N→I i vs H→∃vs' H',I (i+1) vs' H'∧∀rec:LK,G rec vs H=rec vs' H')
  {vs:List Ab} {H:Aa} (h0:I 0 vs H):∃vs' H',I N vs' H'∧∃rec,Ao G AQ vs H=G rec vs' H':=by
 have key:∀(d i:Nat) (n:Nat) (vs:List Ab) (H:Aa),i+d=N→d<n→I i vs H→∃vs' H',I N vs' H'∧∃rec,Ao G n vs H=G rec vs' H':=by
  intro d
  induction d with
  | zero=>
   intro i n vs H hi hn hI
   cases n with
   | zero=>omega
   | succ n=>exact ⟨vs,H,by
     have:i=N:=by omega
     rw [←this];exact hI,Ao G n,CF n vs H⟩
  | succ d ih=>
   intro i n vs H hi hn hI
   cases n with
   | zero=>omega
   | succ n=>
    obtain ⟨vs1,H1,h1,h2⟩:=turn i vs H (by omega) hI
    obtain ⟨vs2,H2,h3,rec,h4⟩:=ih (i+1) n vs1 H1 (by omega) (by omega) h1
    exact ⟨vs2,H2,h3,rec,by rw [CF,h2,h4]⟩
 exact key N 0 AQ vs H (by omega) (by rw [Dv];exact hN) h0
theorem U6 (k:Nat) (hk:k<1152921504606846976):∃n,AQ=n+k:=⟨1152921504606846976-k,by rw [Dv];omega⟩
theorem QL {n:Int} (h0:0≤n) (h:n<256):IntKind.u8.wrap n=n:=by
 have h1:IntKind.u8.bits=8:=rfl
 have h2:IntKind.u8.signed=false:=rfl
 unfold IntKind.wrap
 simp only [h1,h2,Wo,Vd,if_false]
 omega
theorem CY {n:Int} (h0:0≤n) (h:n<4294967296):IntKind.u32.wrap n=n:=by
 have h1:IntKind.u32.bits=32:=rfl
 have h2:IntKind.u32.signed=false:=rfl
 unfold IntKind.wrap
 simp only [h1,h2,Wo,Vd,if_false]
 omega
theorem CD {n:Int} (h0:0≤n) (h:n<18446744073709551616):IntKind.u64.wrap n=n:=by
 have h1:IntKind.u64.bits=64:=rfl
 have h2:IntKind.u64.signed=false:=rfl
 unfold IntKind.wrap
 simp only [h1,h2,Wo,Vd,if_false]
 omega
@[simp] theorem wr0:IntKind.i64.wrap 0=0:=by decide
@[simp] theorem wr1:IntKind.i64.wrap 1=1:=by decide
@[simp] theorem wr2:IntKind.i64.wrap 2=2:=by decide
@[simp] theorem wr3:IntKind.i64.wrap 3=3:=by decide
@[simp] theorem wr4:IntKind.i64.wrap 4=4:=by decide
@[simp] theorem wrm1:IntKind.i64.wrap (-1) = -1:=by decide
@[simp] theorem wrm2:IntKind.i64.wrap (-2) = -2:=by decide
theorem HT {ek:EqK} {k:IntKind} {a b:Int} (h:b≠0):Ae ek .rem (.int k a) (.int k b)=some (.int k (a.tmod b)):=by simp [Ae,Dh,Fp,h]
theorem Rn {ek:EqK} {k:IntKind} {a b:Int} (h:b≠0):Ae ek .quo (.int k a) (.int k b)=some (.int k (k.wrap (a.tdiv b))):=by simp [Ae,Dh,Fp,h]
@[simp] theorem bin_remN {ek:EqK} {k:IntKind} {a:Nat} {b:Nat} [h:NeZero b]:Ae ek .rem (.int k (a:Int)) (.int k (b:Int))=some (.int k ((a%b:Nat):Int)):=by
 rw [HT (by have:=h.out;omega)];rfl
theorem B7 {k k':IntKind} {n:Int}:AK k (.int k' n)=some (.int k (k.wrap n)):=(rfl)
theorem JP (p q:Bool):Ae .bool .eql (.bool p) (.bool q)=some (.bool (p == q)):=by cases p <;> cases q <;> rfl
theorem bne_bool (p q:Bool):Ae .bool .neq (.bool p) (.bool q)=some (.bool (p != q)):=by cases p <;> cases q <;> rfl
theorem max_int {k:IntKind} {a b:Int}:Hm J3 (.int k a) [.int k b]=some (.int k (max a b)):=by
 simp only [Hm,J3,Option.bind_some];congr 2;omega
theorem min_int {k:IntKind} {a b:Int}:Hm RU (.int k a) [.int k b]=some (.int k (min a b)):=by
 simp only [Hm,RU,Option.bind_some];congr 2;omega
theorem FA {ek:EqK} {a b:List UInt8} (h:a.length+b.length≤1152921504606846976):Ae ek .add (.str a) (.str b)=some (.str (a++b)):=by simp [Ae,strBin,h]
theorem ML {s:List UInt8} {i:Nat} {K:IntKind} (h:i<s.length):Ez (.str s) (.int K (i:Int))=some (.int .u8 (s[i].toNat:Int)):=by
 simp [Ez,h]
theorem idx_str0 {c:UInt8} {s:List UInt8} {K:IntKind}:Ez (.str (c::s)) (.int K 0)=some (.int .u8 (c.toNat:Int)):=by simp [Ez]
theorem slice_str_to {s:List UInt8} {h:Nat} {K:IntKind} (hh:h≤s.length):Cq (.str s) none (some (.int K (h:Int)))=some (.str (s.take h)):=by
 simp [Cq,Bq,hh]
theorem Ig {s:List UInt8} {l:Nat} {K:IntKind} (hl:l≤s.length):Cq (.str s) (some (.int K (l:Int))) none=some (.str (s.drop l)):=by
 simp [Cq,Bq,hl]
theorem TJ {s:List UInt8} {l h:Nat} {K K':IntKind} (hl:l≤h) (hh:h≤s.length):Cq (.str s) (some (.int K (l:Int))) (some (.int K' (h:Int)))=some (.str ((s.take h).drop l)):=by
 simp [Cq,Bq,hl,hh]
def enL {α:Type} (f:α→List Ab) (l:List α):List (List Ab):=l.map f
class Sz {α:Type} (f:α→List Ab) (n:outParam Nat):Prop where
 len:∀a,(f a).length=n
abbrev cB (b:Bool):List Ab:=[.bool b]
abbrev cU (n:Nat):List Ab:=[.int .u32 (n:Int)]
abbrev cI (n:Int):List Ab:=[.int .i64 n]
abbrev cN (n:Nat):List Ab:=[.int .i64 (n:Int)]
abbrev cY (b:UInt8):List Ab:=[.int .u8 (b.toNat:Int)]
abbrev cS (s:List UInt8):List Ab:=[.str s]
instance:Sz cB 1:=⟨fun _=>rfl⟩
instance:Sz cU 1:=⟨fun _=>rfl⟩
instance:Sz cI 1:=⟨fun _=>rfl⟩
instance:Sz cN 1:=⟨fun _=>rfl⟩
instance:Sz cY 1:=⟨fun _=>rfl⟩
instance:Sz cS 1:=⟨fun _=>rfl⟩
section
variable {α:Type} {f:α→List Ab} {l m:List α} {tk:Tok} {i sz:Nat} {K:IntKind}
theorem FE:enL f []=[]:=rfl
theorem enL_append:enL f (l++m)=enL f l++enL f m:=by simp [enL]
@[simp] theorem enL_length:(enL f l).length=l.length:=by simp [enL]
@[simp] theorem Au:A5 (.sl (enL f l) tk)=some (.int .i64 (l.length:Int)):=by simp [enL]
theorem all_enL [h:Sz f sz]:((enL f l).all fun e=>e.length == sz)=true:=by simp [enL,h.len]
theorem Ay [hf:Sz f sz] (h:i<l.length):At sz (.sl (enL f l) tk) (.int K (i:Int))=some (.cptr (f l[i]) 0):=by
 simp [At,enL,h,hf.len]
theorem slice_to [hf:Sz f sz] {h:Nat} (hh:h≤l.length) :
  Bv sz (.sl (enL f l) tk) none (some (.int K (h:Int))) none=some (.sl (enL f (l.take h)) (Fu tk 0 h l.length false)):=by
 simp [Bv,Bq,enL,hf.len,hh,List.map_take]
theorem N0 [hf:Sz f sz] {b:Nat} (hb:b≤l.length) :
  Bv sz (.sl (enL f l) tk) (some (.int K (b:Int))) none none=some (.sl (enL f (l.drop b)) (Fu tk b l.length l.length false)):=by
 have:List.take l.length (l.map f)=l.map f:=Vg (by simp)
 simp [Bv,Bq,enL,hf.len,hb,List.map_drop,this]

end
theorem Rm (b:Bool):AY 1 [.bool b]=some (.sl (enL cB [b]) .tight):=by simp [AY,CZ,LO,BE,Ab.acells,enL]
theorem build_U (n:Nat):AY 1 [.int .u32 (n:Int)]=some (.sl (enL cU [n]) .tight):=by simp [AY,CZ,LO,BE,Ab.acells,enL]
theorem build_N (n:Nat):AY 1 [.int .i64 (n:Int)]=some (.sl (enL cN [n]) .tight):=by simp [AY,CZ,LO,BE,Ab.acells,enL]
theorem build_Y (b:UInt8):AY 1 [.int .u8 (b.toNat:Int)]=some (.sl (enL cY [b]) .tight):=by simp [AY,CZ,LO,BE,Ab.acells,enL]
theorem bytesOf_enL (s:List UInt8):bytesOf (enL cY s)=some s:=by
 induction s with
 | nil=>rfl
 | cons b s ih=>simp only [enL,WA,bytesOf]at ih ⊢;simp [ih]
@[simp] theorem toStr_enL {s:List UInt8} {tk:Tok} {H:Aa}:Fg (.sl (enL cY s) tk) H=some (.str s):=by simp [Fg,bytesOf_enL]
@[simp] theorem AC {sz o:Nat} {cs:List Ab} {H:Aa}:Ac false sz (.cptr cs o) H=cs[o]? := (rfl)
@[simp] theorem alloc_eq {cs:List Ab} {H:Aa} (h:cs.all Ab.isScal=true):Az (some cs) H=some (.ptr H.length 0 0,H++[.cel 0 cs]):=by simp only [Az,Option.bind_some,h,if_true]
section
variable {H G:Aa} {a:Bool} {sz k g o:Nat} {b:Blk} {cs:List Ab} {v:Ab}
@[simp] theorem get_app:A8 (H++G) (H.length+k) g=A8 G k g:=by
 have:(H++G)[H.length+k]? = G[k]? := by rw [Vu (by omega)];congr 1;omega
 unfold A8;rw [this]
@[simp] theorem get_app0:A8 (H++G) H.length g=A8 G 0 g:=get_app (k:=0)
theorem get_old {i:Nat} (h:i<H.length):A8 (H++G) i g=A8 H i g:=by simp [A8,UW h]
@[simp] theorem get_succ:A8 (b::G) (k+1) g=A8 G k g:=by simp [A8]
@[simp] theorem J7:A8 (.cel g cs::G) 0 g=some cs:=by simp [A8]
@[simp] theorem load_app:Ac a sz (.ptr (H.length+k) g o) (H++G)=Ac a sz (.ptr k g o) G:=by simp only [Ac,get_app]
@[simp] theorem Ic:Ac a sz (.ptr H.length g o) (H++G)=Ac a sz (.ptr 0 g o) G:=by simp only [Ac,get_app0]
@[simp] theorem load_succ:Ac a sz (.ptr (k+1) g o) (b::G)=Ac a sz (.ptr k g o) G:=by simp only [Ac,get_succ]
@[simp] theorem ME:Ac false sz (.ptr 0 g o) (.cel g cs::G)=cs[o]? := by simp only [Ac,J7];rfl
theorem load_zeroA:Ac true sz (.ptr 0 g o) (.cel g cs::G)=if o+sz≤cs.length then some (.agg ((cs.drop o).take sz))else none:=by simp only [Ac,J7];rfl
@[simp] theorem RZ (h:cs.length=sz):Ac true sz (.ptr 0 g 0) (.cel g cs::G)=some (.agg cs):=by
 simp [load_zeroA,h,Vg (X5 h)]
theorem R2:Fv (H++G) (H.length+k) g cs=H++Fv G k g cs:=by
 have:(H++G)[H.length+k]? = G[k]? := by rw [Vu (by omega)];congr 1;omega
 unfold Fv;rw [this]
 split <;> (rw [V8 _ _ (by omega)];congr 2 <;> omega)
theorem TR:Fv (b::G) (k+1) g cs=b::Fv G k g cs:=by
 unfold Fv
 simp only [List.getElem?_cons_succ,List.set_cons_succ]
 split <;> simp_all
@[simp] theorem TI:Ag sz (.ptr (H.length+k) g o) v (H++G)=(Ag sz (.ptr k g o) v G).map (H++·):=by
 simp only [Ag,get_app]
 cases A8 G k g with
 | none=>rfl
 | some cs=>
  simp only [Option.bind_some]
  cases v.acells with
  | none=>rfl
  | some vs=>
   simp only [Option.bind_some]
   split
   ·simp [R2]
   ·rfl
@[simp] theorem JU:Ag sz (.ptr H.length g o) v (H++G)=(Ag sz (.ptr 0 g o) v G).map (H++·):=TI (k:=0)
@[simp] theorem store_succ:Ag sz (.ptr (k+1) g o) v (b::G)=(Ag sz (.ptr k g o) v G).map (b::·):=by
 simp only [Ag,get_succ]
 cases A8 G k g with
 | none=>rfl
 | some cs=>
  simp only [Option.bind_some]
  cases v.acells with
  | none=>rfl
  | some vs=>
   simp only [Option.bind_some]
   split
   ·simp [TR]
   ·rfl
@[simp] theorem Rx:Ag sz (.ptr 0 g o) v (.cel g cs::G)=v.acells.bind fun vs=>if vs.length=sz∧o+sz≤cs.length then some (.cel g (Dp cs o sz vs)::G)else none:=by
 simp only [Ag,J7,Option.bind_some,Fv,List.getElem?_cons_zero,List.set_cons_zero]
@[simp] theorem acells_int {K:IntKind} {n:Int}:(Ab.int K n).acells=some [.int K n]:=(rfl)
@[simp] theorem acells_bool {t:Bool}:(Ab.bool t).acells=some [.bool t]:=(rfl)
@[simp] theorem acells_str {s:List UInt8}:(Ab.str s).acells=some [.str s]:=(rfl)
@[simp] theorem UR {es:List (List Ab)} {tk:Tok}:(Ab.sl es tk).acells=some [.sl es tk]:=(rfl)
@[simp] theorem acells_ms {id g off len cap sz:Nat} {ex:Bool}:(Ab.ms id g off len cap sz ex).acells=some [.ms id g off len cap sz ex]:=(rfl)
@[simp] theorem acells_ptr {id g off:Nat}:(Ab.ptr id g off).acells=some [.ptr id g off]:=(rfl)
@[simp] theorem acells_nilp:Ab.nilp.acells=some [.nilp]:=(rfl)
@[simp] theorem acells_mp {id:Nat}:(Ab.mp id).acells=some [.mp id]:=(rfl)
@[simp] theorem acells_fn {f:FuncId} {caps:List Ab}:(Ab.fn f caps).acells=some [.fn f caps]:=(rfl)
theorem C5 {cs:List Ab} (h:cs.all Ab.isScal=true):(Ab.agg cs).acells=some cs:=by simp [Ab.acells,h]

end
section
variable {K:IntKind} {n:Int} {t:Bool} {s:List UInt8} {es:List (List Ab)} {tk:Tok} {id g off len cap sz:Nat} {ex:Bool} {f:FuncId} {caps:List Ab}
@[simp] theorem scal_int:(Ab.int K n).isScal=true:=(rfl)
@[simp] theorem scal_bool:(Ab.bool t).isScal=true:=(rfl)
@[simp] theorem scal_str:(Ab.str s).isScal=true:=(rfl)
@[simp] theorem scal_sl:(Ab.sl es tk).isScal=true:=(rfl)
@[simp] theorem scal_ms:(Ab.ms id g off len cap sz ex).isScal=true:=(rfl)
@[simp] theorem scal_ptr:(Ab.ptr id g off).isScal=true:=(rfl)
@[simp] theorem scal_mp:(Ab.mp id).isScal=true:=(rfl)
@[simp] theorem scal_nilp:Ab.nilp.isScal=true:=(rfl)
@[simp] theorem scal_fn:(Ab.fn f caps).isScal=true:=(rfl)

end
open Classical in
theorem chk_eq (p:Prop) (x:Out):chk p x=if p then x else none:=rfl
theorem chk_pos {p:Prop} (h:p) (x:Out):chk p x=x:=by rw [chk_eq,if_pos h]
def Iw (H:Aa) (n d:Nat) (v:Ab):Option Ab:=(frz H n d v).map fgt
def FN (H:Aa) (n d:Nat) (vs:List Ab):Option (List Ab):=(FM H n d vs).map (List.map fgt)
def Fj (H:Aa) (n d:Nat) (v:Ab):Option Ab:=(frz H n d v).map Eh
def It (H:Aa) (n d:Nat) (vs:List Ab):Option (List Ab):=(FM H n d vs).map (List.map Eh)
def GL (H:Aa) (n d:Nat) (v:Ab):Option Ab:=(frz H n d v).map forget
section
variable {H H0 G:Aa} {n d:Nat} {v:Ab} {vs cs:List Ab}
theorem GI (h:H.take H0.length=H0):rPN H0 v H=(GL H H0.length 8 v).map fun v=>(.ret v,H0):=by
 simp only [rPN,fin,chk_pos h,GL,X6];rfl
@[simp] theorem Cf:rPN H0 v (H0++G)=(GL (H0++G) H0.length 8 v).map fun v=>(.ret v,H0):=GI (by simp)
@[simp] theorem L5:rPN H0 v H0=(GL H0 H0.length 8 v).map fun v=>(.ret v,H0):=GI (by simp)
@[simp] theorem DY:rKN H0 v H=some (.ret (forget v),H):=(rfl)
theorem frz_sl {es:List (List Ab)} {tk:Tok}:∃tk',frz H n (d+1) (.sl es tk)=some (.sl es tk'):=by
 cases tk with
 | no=>exact ⟨.no,by simp [frz]⟩
 | tight=>exact ⟨.tight,by simp [frz]⟩
 | own t=>
   by_cases h:t<n
   ·exact ⟨.own t,by simp [frz,h]⟩
   ·exact ⟨.no,by simp [frz,h]⟩
@[simp] theorem CQ:GL H n (d+1) (.tup vs)=(It H n d vs).map .tup:=by
 simp only [GL,It,frz,X6];rfl
@[simp] theorem fall_agg:GL H n (d+1) (.agg cs)=(FN H n d cs).map .agg:=by
 simp only [GL,FN,frz,X6];rfl
@[simp] theorem fall_int {K:IntKind} {i:Int}:GL H n (d+1) (.int K i)=some (.int K i):=by simp [GL,frz,forget,Eh,fgt]
@[simp] theorem fall_bool {t:Bool}:GL H n (d+1) (.bool t)=some (.bool t):=by simp [GL,frz,forget,Eh,fgt]
@[simp] theorem fall_str {s:List UInt8}:GL H n (d+1) (.str s)=some (.str s):=by simp [GL,frz,forget,Eh,fgt]
@[simp] theorem FC {es:List (List Ab)} {tk:Tok}:GL H n (d+1) (.sl es tk)=some (.sl es .no):=by
 obtain ⟨tk',h⟩:=frz_sl (H:=H) (n:=n) (d:=d) (es:=es) (tk:=tk)
 simp [GL,h,forget,Eh,fgt]
@[simp] theorem Cd:It H n (d+1) []=some []:=by simp [It,FM]
@[simp] theorem BN:It H n (d+1) (v::vs)=(Fj H n d v).bind fun v'=>(It H n (d+1) vs).map (v'::·):=by
 simp only [It,Fj,FM]
 cases frz H n d v with
 | none=>rfl
 | some x=>cases FM H n (d+1) vs <;> rfl
@[simp] theorem EN:FN H n (d+1) []=some []:=by simp [FN,FM]
@[simp] theorem DU:FN H n (d+1) (v::vs)=(Iw H n d v).bind fun v'=>(FN H n (d+1) vs).map (v'::·):=by
 simp only [FN,Iw,FM]
 cases frz H n d v with
 | none=>rfl
 | some x=>cases FM H n (d+1) vs <;> rfl
@[simp] theorem FU:Fj H n (d+1) (.agg cs)=(FN H n d cs).map .agg:=by
 simp only [Fj,FN,frz,X6];rfl
@[simp] theorem Fe {K:IntKind} {i:Int}:Fj H n (d+1) (.int K i)=some (.int K i):=by simp [Fj,frz,Eh,fgt]
@[simp] theorem EL {t:Bool}:Fj H n (d+1) (.bool t)=some (.bool t):=by simp [Fj,frz,Eh,fgt]
@[simp] theorem fpart_str {s:List UInt8}:Fj H n (d+1) (.str s)=some (.str s):=by simp [Fj,frz,Eh,fgt]
@[simp] theorem Iu {es:List (List Ab)} {tk:Tok}:Fj H n (d+1) (.sl es tk)=some (.sl es .no):=by
 obtain ⟨tk',h⟩:=frz_sl (H:=H) (n:=n) (d:=d) (es:=es) (tk:=tk)
 simp [Fj,h,Eh,fgt]
@[simp] theorem fcell_int {K:IntKind} {i:Int}:Iw H n (d+1) (.int K i)=some (.int K i):=by simp [Iw,frz,fgt]
@[simp] theorem ND {t:Bool}:Iw H n (d+1) (.bool t)=some (.bool t):=by simp [Iw,frz,fgt]
@[simp] theorem UC {s:List UInt8}:Iw H n (d+1) (.str s)=some (.str s):=by simp [Iw,frz,fgt]
@[simp] theorem Ho {es:List (List Ab)} {tk:Tok}:Iw H n (d+1) (.sl es tk)=some (.sl es .no):=by
 obtain ⟨tk',h⟩:=frz_sl (H:=H) (n:=n) (d:=d) (es:=es) (tk:=tk)
 simp [Iw,h,fgt]
@[simp] theorem U7 {es:List (List Ab)} {tk:Tok}:forget (.sl es tk)=.sl es .no:=(rfl)
@[simp] theorem forget_agg:forget (.agg cs)=.agg (cs.map fgt):=(rfl)
@[simp] theorem forget_tup:forget (.tup cs)=.tup (cs.map Eh):=(rfl)
@[simp] theorem fgtA_agg:Eh (.agg cs)=.agg (cs.map fgt):=(rfl)
@[simp] theorem fgtA_sl {es:List (List Ab)} {tk:Tok}:Eh (.sl es tk)=.sl es .no:=(rfl)
@[simp] theorem fgtA_int {K:IntKind} {i:Int}:Eh (.int K i)=.int K i:=(rfl)
@[simp] theorem fgtA_bool {t:Bool}:Eh (.bool t)=.bool t:=(rfl)
@[simp] theorem fgtA_str {s:List UInt8}:Eh (.str s)=.str s:=(rfl)
@[simp] theorem fgt_sl {es:List (List Ab)} {tk:Tok}:fgt (.sl es tk)=.sl es .no:=(rfl)
@[simp] theorem fgt_int {K:IntKind} {i:Int}:fgt (.int K i)=.int K i:=(rfl)
@[simp] theorem fgt_bool {t:Bool}:fgt (.bool t)=.bool t:=(rfl)
@[simp] theorem fgt_str {s:List UInt8}:fgt (.str s)=.str s:=(rfl)
@[simp] theorem Hf:Tj []=some []:=(rfl)
@[simp] theorem FS {x:Option Ab} {xs:List (Option Ab)}:Tj (x::xs)=x.bind fun v=>(Tj xs).map (v::·):=(rfl)
@[simp] theorem IJ {xs:List (Option Ab)}:Fy xs=(Tj xs).map .tup:=(rfl)
@[simp] theorem B3:Av 0 (.tup (v::vs))=some v:=(rfl)
@[simp] theorem BB {w:Ab}:Av 1 (.tup (v::w::vs))=some w:=(rfl)
@[simp] theorem extract_2 {w u:Ab}:Av 2 (.tup (v::w::u::vs))=some u:=(rfl)

end
def Jg:Ab→Bool
 | .int _ _=>true
 | .bool _=>true
 | .str _=>true
 | _=>false
def Kc:Ab→Bool
 | .tup vs=>vs.all Jg
 | v=>Jg v
section
variable {H H0 G:Aa} {n d:Nat} {v:Ab} {vs:List Ab} {K:IntKind} {i:Int} {t:Bool} {s:List UInt8}
@[simp] theorem plain1_int:Jg (.int K i)=true:=(rfl)
@[simp] theorem plain1_bool:Jg (.bool t)=true:=(rfl)
@[simp] theorem plain1_str:Jg (.str s)=true:=(rfl)
@[simp] theorem plainV_tup:Kc (.tup vs)=vs.all Jg:=(rfl)
@[simp] theorem plainV_int:Kc (.int K i)=true:=(rfl)
@[simp] theorem plainV_bool:Kc (.bool t)=true:=(rfl)
@[simp] theorem plainV_str:Kc (.str s)=true:=(rfl)
theorem frz_plain1 (h:Jg v=true):frz H n (d+1) v=some v:=by cases v <;> first | (simp [Jg]at h;done) | simp [frz]
theorem Sr:∀(vs:List Ab),vs.all Jg=true→FM H n (d+2) vs=some vs
 | [],_=>by simp [FM]
 | v::vs,h=>by
  simp only [List.all_cons,Vh]at h
  simp [FM,frz_plain1 h.1,Sr vs h.2]
theorem FT (h:Kc v=true) (ht:H.take H0.length=H0):rP H0 v H=some (.ret v,H0):=by
 rw [rP_eq v ht]
 cases v <;> first | (simp [Kc,Jg]at h;done) | (simp [frz];done) | (rename_i vs;simp [frz,Sr vs (by simpa [Kc]using h)])
@[simp] theorem rP_plain (h:Kc v=true):rP H0 v (H0++G)=some (.ret v,H0):=FT h (by simp)
@[simp] theorem rP_plain0 (h:Kc v=true):rP H0 v H0=some (.ret v,H0):=FT h (by simp)

end
section
variable {α:Type} {f:α→List Ab} {H:Aa} {ty:TypeId} {sz bytes:Nat} {l m:List α} {tk:Tok}
theorem C4 [hf:Sz f sz] (hm:m≠[]) (hb:(l.length+m.length)*bytes≤140737488355328) (hn:l.length+m.length≤140737488355328) :
  AW ty sz bytes (.sl (enL f l) .tight) (.sl (enL f m) tk) H=some (.sl (enL f (l++m)) (.own H.length),H++[.tok (l.length+m.length) ty sz]):=by
 simp [AW,BY,enL,hf.len,hm,hb,hn]
theorem Em [hf:Sz f sz] {t:Nat} (hm:m≠[]) (hH:H[t]? = some (.tok l.length ty sz)) (hb:(l.length+m.length)*bytes≤140737488355328) (hn:l.length+m.length≤140737488355328) :
  AW ty sz bytes (.sl (enL f l) (.own t)) (.sl (enL f m) tk) H=some (.sl (enL f (l++m)) (.own t),H.set t (.tok (l.length+m.length) ty sz)):=by
 simp [AW,BY,enL,hf.len,hm,hb,hn,hH]
theorem Dg {x:Ab} (hx:(BY sz x H).isSome=true):AW ty sz bytes x (.sl [] tk) H=some (x,H):=by
 cases h:BY sz x H with
 | none=>simp [h]at hx
 | some es=>simp only [AW,h];simp [BY]
def DZ (f:α→List Ab) (B:Aa):List α→Ab
 | []=>.sl [] .tight
 | l=>.sl (enL f l) (.own B.length)
def DR (f:α→List Ab) (ty:TypeId) (sz:Nat) (B:Aa):List α→Aa
 | []=>B
 | l=>B++[.tok l.length ty sz]
def outK (B:Aa):List α→Tok
 | []=>.tight
 | _=>.own B.length
theorem Gh (B:Aa) (l:List α):DZ f B l=.sl (enL f l) (outK B l):=by cases l <;> rfl
theorem GZ (B:Aa) (l:List α):∃G,DR f ty sz B l=B++G:=by
 cases l with
 | nil=>exact ⟨[],by simp [DR]⟩
 | cons a l=>exact ⟨_,rfl⟩
theorem EV [hf:Sz f sz] {B:Aa} (hm:m≠[]) (hb:(l.length+m.length)*bytes≤140737488355328) (hn:l.length+m.length≤140737488355328) :
  AW ty sz bytes (DZ f B l) (.sl (enL f m) tk) (DR f ty sz B l)=some (DZ f B (l++m),DR f ty sz B (l++m)):=by
 obtain ⟨x,m',rfl⟩:∃x m',m=x::m':=by cases m with | nil=>exact absurd rfl hm | cons x m'=>exact ⟨x,m',rfl⟩
 cases l with
 | nil=>
  have:=C4 (f:=f) (l:=[]) (ty:=ty) (tk:=tk) (H:=B) hm hb hn
  simpa [DZ,DR,FE]using this
 | cons a l=>
  have:=Em (f:=f) (l:=a::l) (ty:=ty) (tk:=tk) (H:=B++[.tok (a::l).length ty sz]) (t:=B.length) hm (by simp) hb hn
  simp only [DZ,DR,List.cons_append]at this ⊢
  rw [this]
  simp;omega

end
def Dl (l:List Bool):List Bool:=(l.reverse.dropWhile fun b=>!b).reverse
theorem cutL_nil:Dl []=[]:=rfl
theorem PK (l:List Bool):Dl (l++[true])=l++[true]:=by simp [Dl]
theorem NE (l:List Bool):Dl (l++[false])=Dl l:=by simp [Dl]
theorem FI {α:Type} (l:List α):l=[]∨∃l' a,l=l'++[a]:=by
 cases h:l.reverse with
 | nil=>left;simpa using h
 | cons a r=>right;exact ⟨r.reverse,a,by have:=congrArg List.reverse h;simpa using this⟩
def Dm:Nat→Nat→List Bool
 | 0,_=>[]
 | n+1,x=>(x%2 == 1)::Dm n (x / 2)
theorem Jq:∀(n x:Nat),(Dm n x).length=n
 | 0,_=>rfl
 | n+1,x=>by simp [Dm,Jq n]
def AS (l:List Nat):List Bool:=l.flatMap (Dm 32)
theorem Cj (l:List Nat):(AS l).length=32*l.length:=by
 induction l with
 | nil=>rfl
 | cons a l ih=>simp only [AS,Xm,Vc,Jq,List.length_cons]at ih ⊢;omega
def Bo:List Bool→Nat
 | []=>0
 | b::l=>(if b then 1 else 0)+2*Bo l
theorem Dr (l m:List Bool):Bo (l++m)=Bo l+2^l.length*Bo m:=by
 induction l with
 | nil=>simp [Bo]
 | cons b l ih=>
  simp only [List.cons_append,Bo,ih,List.length_cons,Nat.pow_succ]
  rw [Wk,←VL,Wr (2^l.length) 2,WK]
theorem Kg (l:List Bool):Bo l<2^l.length:=by
 induction l with
 | nil=>simp [Bo]
 | cons b l ih=>simp only [Bo,List.length_cons,Nat.pow_succ];split <;> omega
def Gl (c:List Bool) (q:Nat):Nat:=Bo ((c.drop (32*q)).take 32)
def Ee (c:List Bool) (q:Nat):List Nat:=(List.range q).map (Gl c)
theorem Kl (c:List Bool) (q:Nat):Ee c (q+1)=Ee c q++[Gl c q]:=by simp [Ee,WV]
theorem LJ (c:List Bool) (q:Nat):(Ee c q).length=q:=by simp [Ee]
def Km (l:List Bool):List Nat:=Ee (Dl l) (((Dl l).length+31) / 32)
theorem HR (l:List Bool):(Dl l).length≤l.length:=by
 unfold Dl
 rw [List.length_reverse]
 have:=(List.dropWhile_sublist (p:=fun b=>!b) (l:=l.reverse)).length_le
 simpa using this
def val:List Nat→Nat
 | []=>0
 | a::l=>a+4294967296*val l
structure Nrm (l:List Nat):Prop where
 lt:∀x∈l,x<4294967296
 last:∀x,l.getLast? = some x→x≠0
theorem Cp (l m:List Nat):val (l++m)=val l+4294967296^l.length*val m:=by
 induction l with
 | nil=>simp [val]
 | cons b l ih=>
  simp only [List.cons_append,val,ih,List.length_cons,Nat.pow_succ]
  rw [Wk,←VL,Wr (4294967296^l.length) 4294967296,WK]
theorem Nrm.tail {a:Nat} {l:List Nat} (h:Nrm (a::l)):Nrm l:=
 ⟨fun x hx=>h.lt x (by simp [hx]),fun x hx=>h.last x (by cases l with | nil=>simp at hx | cons b l=>simpa [List.getLast?_cons_cons]using hx)⟩
theorem Nrm.zero:∀ {l:List Nat},Nrm l→val l=0→l=[]
 | [],_,_=>rfl
 | a::l,h,hv=>by
  exfalso
  simp only [val]at hv
  have h1:a=0:=by omega
  have h2:l=[]:=h.tail.zero (by omega)
  subst h2
  exact h.last a (by simp) h1
theorem Nrm.inj:∀ {l m:List Nat},Nrm l→Nrm m→val l=val m→l=m
 | [],m,_,hm,h=>(hm.zero (by simpa [val]using h.symm)).symm
 | a::l,[],hl,_,h=>hl.zero (by simpa [val]using h)
 | a::l,b::m,hl,hm,h=>by
  have h1:=hl.lt a (by simp)
  have h2:=hm.lt b (by simp)
  simp only [val]at h
  have e1:a=b:=by omega
  have e2:val l=val m:=by omega
  rw [e1,Nrm.inj hl.tail hm.tail e2]
theorem E9 (l:List Nat) (hx:∀x∈l,x<4294967296):Bo (AS l)=val l:=by
 have key:∀(n x:Nat),Bo (Dm n x)=x%2^n:=by
  intro n
  induction n with
  | zero=>intro x;simp [Dm,Bo,Nat.mod_one]
  | succ n ih=>
   intro x
   simp only [Dm,Bo,ih]
   rw [Nat.pow_succ,Wr (2^n) 2,Nat.mod_mul]
   congr 1
   have:x%2<2:=W9 _ (by omega)
   split
   ·rename_i h;have:=of_decide_eq_true (p:=x%2=1) (by simpa using h);omega
   ·rename_i h;have:¬x%2=1:=by simpa using h
    omega
 induction l with
 | nil=>rfl
 | cons a l ih=>
  have e:AS (a::l)=Dm 32 a++AS l:=rfl
  rw [e,Dr,key,Jq,ih fun x h=>hx x (by simp [h])]
  have:=hx a (by simp)
  simp only [val]
  rw [Wb (by omega)]
theorem Eu (l:List Bool):Bo (Dl l)=Bo l:=by
 suffices h:∀r:List Bool,Bo (Dl r.reverse)=Bo r.reverse by have:=h l.reverse;simpa using this
 intro r
 induction r with
 | nil=>rfl
 | cons b r ih=>
  rw [XF]
  cases b with
  | true=>rw [PK]
  | false=>rw [NE,ih,Dr];simp [Bo]
theorem limbAt_lt (c:List Bool) (q:Nat):Gl c q<4294967296:=by
 have h:=Kg ((c.drop (32*q)).take 32)
 have h2:((c.drop (32*q)).take 32).length≤32:=by simp;omega
 have:2^((c.drop (32*q)).take 32).length≤2^32:=V6 (by omega) h2
 unfold Gl
 omega
theorem Qa (c:List Bool):∀q,val (Ee c q)=Bo (c.take (32*q))
 | 0=>by simp [Ee,val,Bo]
 | q+1=>by
  rw [Kl,Cp,Qa c q,LJ]
  have e:c.take (32*(q+1))=c.take (32*q)++(c.drop (32*q)).take 32:=by rw [Wk,List.take_add]
  rw [e,Dr]
  by_cases h:32*q≤c.length
  ·have:(c.take (32*q)).length=32*q:=by simp;omega
   rw [this,show (4294967296:Nat)=2^32 from rfl,←Xf]
   simp [val,Gl]
  ·have:c.drop (32*q)=[]:=Xn (by omega)
   simp [val,Gl,this,Bo]
theorem cutL_end (l:List Bool):Dl l=[]∨∃m,Dl l=m++[true]:=by
 suffices h:∀r:List Bool,Dl r.reverse=[]∨∃m,Dl r.reverse=m++[true]by have:=h l.reverse;simpa using this
 intro r
 induction r with
 | nil=>exact .inl rfl
 | cons b r ih=>
  rw [XF]
  cases b with
  | true=>rw [PK];exact .inr ⟨_,rfl⟩
  | false=>rw [NE];exact ih
theorem Qb (l:List Bool):val (Km l)=Bo l:=by
 unfold Km
 rw [Qa,Vg (by omega),Eu]
theorem Qk (l:List Bool):Nrm (Km l):=by
 unfold Km
 refine ⟨fun x hx=>?_,fun x hx=>?_⟩
 ·simp only [Ee,Wz]at hx
  obtain ⟨q,_,rfl⟩:=hx
  exact limbAt_lt _ _
 ·rcases cutL_end l with h | ⟨m,h⟩
  ·rw [h]at hx;simp [Ee]at hx
  ·obtain ⟨Q,hQ⟩:∃Q,((Dl l).length+31) / 32=Q+1:=⟨((Dl l).length+31) / 32-1,by rw [h];simp;omega⟩
   have hlen:(Dl l).length=m.length+1:=by rw [h];simp
   rw [hQ,Kl]at hx
   simp at hx
   subst hx
   unfold Gl
   rw [Vg (by simp;omega),h,WO (by omega),Dr]
   have:0<2^(m.drop (32*Q)).length:=Nat.two_pow_pos _
   simp [Bo]
def A7 (n:Nat):List Nat:=Km (Dm n n)
theorem Pm (n:Nat):n<2^n:=Nat.lt_two_pow_self
theorem nat1_bitsOf (n x:Nat):Bo (Dm n x)=x%2^n:=by
 induction n generalizing x with
 | zero=>simp [Dm,Bo,Nat.mod_one]
 | succ n ih=>
  simp only [Dm,Bo,ih]
  rw [Nat.pow_succ,Wr (2^n) 2,Nat.mod_mul]
  congr 1
  split
  ·rename_i h;have:=of_decide_eq_true (p:=x%2=1) (by simpa using h);omega
  ·rename_i h;have:¬x%2=1:=by simpa using h
   omega
theorem Bz (n:Nat):val (A7 n)=n:=by
 unfold A7
 rw [Qb,nat1_bitsOf,Wb (Pm n)]
theorem J1 (n:Nat):Nrm (A7 n):=Qk _
theorem LI {l:List Nat} (h:Nrm l):l=A7 (val l):=h.inj (J1 _) (Bz _).symm
theorem limbsOf_eq (l:List Bool):Km l=A7 (Bo l):=by rw [LI (Qk l),Qb]
theorem pow2_le {v w:Nat} (h:v≤w):2^v≤2^w:=V6 (by omega) h
theorem RG {m k:Nat} (h:m<32*k):2^m<4294967296^k:=by
 rw [show (4294967296:Nat)=2^32 from rfl,←Xf]
 exact XR (by omega) h
theorem pow32_le {m k:Nat} (h:m≤32*k):2^m≤4294967296^k:=by
 rw [show (4294967296:Nat)=2^32 from rfl,←Xf]
 exact V6 (by omega) h
theorem pow4_le {v w:Nat} (h:v≤w):(4:Int)^v≤((2^(2*w):Nat):Int):=by
 have h1:4^v≤2^(2*w):=by rw [Xf];exact V6 (by omega) h
 exact_mod_cast h1
theorem pow10_le {k m:Nat} (h:10*k≤m):4294967296^k≤10^m:=by
 refine Vw (Nat.pow_le_pow_left (show 4294967296≤10^10 by decide) k) ?_
 rw [←Xf]
 exact V6 (by omega) h
def Lim (l:List Nat):Prop:=∀x∈l,x<4294967296
def FJ (l:List Nat):Bool:=
 match l.getLast? with
 | none=>true
 | some x=>x != 0
theorem N1 {l:List Nat} (hx:Lim l):FJ l=true↔Nrm l:=by
 unfold FJ
 constructor
 ·intro h
  refine ⟨hx,fun x hxl=>?_⟩
  rw [hxl]at h
  simpa using h
 ·intro h
  cases hl:l.getLast? with
  | none=>rfl
  | some x=>have:=h.last x hl;simpa using this
def cmpI (a b:Nat):Int:=if a<b then -1 else if b<a then 1 else 0
theorem nat1_bit (c:List Bool) (i:Nat):c.getD i false=(Bo c).testBit i:=by
 induction c generalizing i with
 | nil=>simp [Bo]
 | cons b c ih=>
  cases i with
  | zero=>simp only [Bo,List.getD_cons_zero,Nat.testBit_zero];cases b <;> simp <;> omega
  | succ i=>
   simp only [Bo,List.getD_cons_succ,ih,Nat.testBit_succ]
   congr 1
   cases b <;> simp <;> omega
def bn (b:Bool):Nat:=if b then 1 else 0
def subN (p q c:Bool):Int:=(if p then 1 else 0)-(if q then 1 else 0)-(if c then 1 else 0)
def subS (p q c:Bool):Bool:=(p != q) != c
def subC (p q c:Bool):Bool:=decide (subN p q c<0)
def sgn (neg:Bool) (n:Nat):Bool:=neg&&decide (n≠0)
theorem DJ:A7 0=[]:=(J1 0).zero (Bz 0)
theorem On {n:Nat} (h:n≠0):A7 n≠[]:=fun e=>h (by have:=Bz n;rw [e]at this;simpa [val]using this.symm)
def Hw (neg:Bool) (l:List Nat):Int:=if neg then -(val l:Int)else val l
theorem Bt (n:Nat):Lim (A7 n):=(J1 n).lt
theorem EG {n k:Nat} (h:n<4294967296^k):(A7 n).length≤k:=by
 rcases VH k (A7 n).length with h1 | h1
 ·exfalso
  rcases FI (A7 n)with e | ⟨m,a,e⟩
  ·rw [e]at h1;simp at h1
  ·have hv:=Bz n
   rw [e,Cp]at hv
   have ha:a≠0:=(J1 n).last a (by rw [e];simp)
   rw [e]at h1
   have hk:k≤m.length:=by simp at h1;omega
   have:4294967296^k≤4294967296^m.length:=V6 (by omega) hk
   have h2:4294967296^m.length*1≤4294967296^m.length*val [a]:=Xy _ (by simp [val];omega)
   omega
 ·exact h1
theorem Rs (l:List Nat) (hx:Lim l):val l<4294967296^l.length:=by
 induction l with
 | nil=>simp [val]
 | cons a l ih=>
  have h1:=ih fun x h=>hx x (by simp [h])
  have h2:=hx a (by simp)
  simp only [val,List.length_cons,Nat.pow_succ]
  omega
theorem cutL_nat0 {l:List Bool} (h:Bo l=0):Dl l=[]:=by
 rcases cutL_end l with e | ⟨m,e⟩
 ·exact e
 ·exfalso
  have:=Eu l
  rw [e,Dr,h]at this
  have:0<2^m.length:=Nat.two_pow_pos _
  simp [Bo]at *
theorem nat1_repl (n:Nat) (b:List Bool):Bo (List.replicate n false++b)=2^n*Bo b:=by
 have e:Bo (List.replicate n false)=0:=by
  induction n with
  | zero=>rfl
  | succ n ih=>simp [List.replicate_succ,Bo,ih]
 rw [Dr,e,Xp];simp
theorem L8 {i j:Nat} (h:i≤j):(4294967296:Nat)^i≤4294967296^j:=V6 (by omega) h
open Go.Proofs
def Rl:Res→Option Ab
 | .ret _=>some (.agg [.int .i64 0,.str []])
 | .pan (.iface 70 (.agg [.int .i64 n,.str s]))=>some (.agg [.int .i64 n,.str s])
 | _=>none
def OH (orc:Orc) (job:Ab) (H:Aa):Out:=
 match job with
 | .bfn 38 caps=>(orc 38 caps H).bind fun r=>(Rl r.1).map fun v=>(.ret v,r.2)
 | _=>none
def KT (r:Nat):Bool:=decide (r<48)||decide (57<r)
def Sh.f1y (a f:Ab) (H:Aa):Out:=match a,f with
 | .str s,.fn 235 []=>some (.ret (.int .i64 (Lib.idxFunc KT true ⟨s.toArray⟩)),H)
 | _,_=>none
def Sh.f1z (a b:Ab) (H:Aa):Out:=match a,b with
 | .str s,.int .u8 c=>some (.ret (.int .i64 (Lib.indexByte s c.toNat.toUInt8)),H)
 | _,_=>none
noncomputable def Sh.fp (a b:Ab) (H:Aa):Out:=match a,b with
 | .sl es _,.sl fs _=>
  open Classical in
  if h:∃p:List Nat×List Nat,es=enL cU p.1∧fs=enL cU p.2∧Lim p.1∧Lim p.2∧p.1.length≤1099511627776∧p.2.length≤1099511627776 then
   some (.ret (.int .i64 (if val h.choose.1<val h.choose.2 then -1 else if val h.choose.1=val h.choose.2 then 0 else 1)),H)
  else none
 | _,_=>none
end Go.Gm
