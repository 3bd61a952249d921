/- Texts of this proof, joined. -/
import Derived.Test.YtagddbecnkbcdaaGreatJ2
import Derived.Test.YtagddbecnkbcdaaGreatJ3
import Derived.Test.YtagddbecnkbcdaaGreatJ4
set_option linter.unusedVariables false
set_option linter.unusedSimpArgs false
namespace Go.Gm
def Shp (P:Program):Nat→TypeId→List Ab→Prop
 | 0,_,_=>False
 | f+1,t,vas=>match P.underlying t with
  | some .bool=>∃b,vas=[.bool b]
  | some (.int k)=>∃n,vas=[.int k n]∧(Lit.int k n).wf=true
  | some .string=>∃s,vas=[.str s]∧s.length≤maxLen
  | some (.slice e)=>∃es,vas=[.sl es .no]∧es.length≤maxLen∧∀x∈es,Shp P f e x
  | some (.struct fs)=>∃ps:List (List Ab),vas=ps.flatten∧ps.length=fs.toList.length∧∀(i:Nat) (fd:Field) (p:List Ab),fs.toList[i]? = some fd→ps[i]? = some p→Shp P f fd.type p
  | some (.array n e)=>∃ps:List (List Ab),vas=ps.flatten∧ps.length=n∧∀p∈ps,Shp P f e p
  | _=>False
def layF (P:Program) (total:Nat):List Field→Nat→Bool
 | [],off=>off == total
 | f::r,off=>f.offset == off&&layF P total r (off+P.cellsOf f.type)
def RO (P:Program):Nat→TypeId→Bool
 | 0,_=>false
 | f+1,t=>match P.underlying t with
  | some .bool=>true
  | some (.int _)=>true
  | some .string=>true
  | some (.slice e)=>decide (0<P.cellsOf e)&&RO P f e
  | some (.struct fs)=>layF P (P.cellsOf t) fs.toList 0&&fs.toList.all fun fd=>RO P f fd.type
  | some (.array n e)=>decide (P.cellsOf t=n*P.cellsOf e)&&RO P f e
  | _=>false
theorem TP {α β:Type} {f:α→Option β}:∀ {l:List α} {r:List β},l.mapM f=some r→∀a∈l,∃b,f a=some b
 | [],_,_,a,ha=>by cases ha
 | x::l,r,h,a,ha=>by
  rw [Zq]at h
  cases hx:f x with
  | none=>simp [hx]at h
  | some b=>
   cases hl:l.mapM f with
   | none=>simp [hx,hl]at h
   | some bs=>
    rcases Xk.1 ha with rfl | ha
    ·exact ⟨b,hx⟩
    ·exact TP hl a ha
theorem TQ {α β:Type} {f:α→Option β}:∀ {l:List α} {r:List β},l.mapM f=some r→r.length=l.length∧∀(i:Nat) (a:α),l[i]? = some a→r[i]? = f a
 | [],r,h=>by
  have:r=[]:=by simpa using h.symm
  subst this
  exact ⟨rfl,fun i a ha=>by simp at ha⟩
 | x::l,r,h=>by
  rw [Zq]at h
  cases hx:f x with
  | none=>simp [hx]at h
  | some b=>
   cases hl:l.mapM f with
   | none=>simp [hx,hl]at h
   | some bs=>
    have:r=b::bs:=by simpa [hx,hl]using h.symm
    subst this
    obtain ⟨h1,h2⟩:=TQ hl
    refine ⟨by simp [h1],fun i a ha=>?_⟩
    cases i with
    | zero=>simp at ha;subst ha;simp [hx]
    | succ i=>simp at ha ⊢;exact h2 i a ha
theorem Env0_I (W:World) (b o:Nat):(Ol W).I b o=W.cell? ⟨b,o,none⟩:=rfl
section
variable {H:Type} {enc:TypeId×Value→H} {P:Program} {w:World} {base:Nat} {spare:Nat→Bool} {held:Bool}
def OpenAt (enc:TypeId×Value→H) (P:Program) (w:World) (base:Nat) (spare:Nat→Bool) (held:Bool) (f fuel:Nat):Prop:=
 ∀(t:TypeId) (cs:List Value) (x:DataW H×List MemPlace),RO P f t=true→DataW.trod enc P w base spare held fuel t cs=some x→∃vas,Ay (Ol w) vas cs∧(∀c∈vas,B4 c=true)∧Shp P f t vas
theorem Rv {f fuel:Nat} (ih:OpenAt enc P w base spare held f fuel) (cs:List Value):∀(fs:List Field) (off:Nat) (r:List (DataW H×List MemPlace)),layF P cs.length fs off=true→(fs.all fun fd=>RO P f fd.type)=true →
  (fs.mapM fun fd=>DataW.trod enc P w base spare held fuel fd.type ((cs.drop fd.offset).take (P.cellsOf fd.type)))=some r→(∀fd∈fs,∀(c:List Value) (x:DataW H×List MemPlace),DataW.trod enc P w base spare held fuel fd.type c=some x→True) →
  ∃ps:List (List Ab),Ay (Ol w) ps.flatten (cs.drop off)∧(∀c∈ps.flatten,B4 c=true)∧ps.length=fs.length∧∀(i:Nat) (fd:Field) (p:List Ab),fs[i]? = some fd→ps[i]? = some p→Shp P f fd.type p
 | [],off,r,hlay,_,_,_=>by
  have:off=cs.length:=by simpa [layF]using hlay
  subst this
  exact ⟨[],by simpa using Ay.nil _,fun c hc=>by simp at hc,rfl,fun i fd p h=>by simp at h⟩
 | fd::fs,off,r,hlay,hs,hm,ht=>by
  simp only [layF,WO,beq_iff_eq]at hlay
  obtain ⟨ho,hlay⟩:=hlay
  simp only [List.all_cons,WO]at hs
  rw [Zq]at hm
  cases hx:DataW.trod enc P w base spare held fuel fd.type ((cs.drop fd.offset).take (P.cellsOf fd.type))with
  | none=>simp [hx]at hm
  | some x=>
   cases hl:fs.mapM fun fd=>DataW.trod enc P w base spare held fuel fd.type ((cs.drop fd.offset).take (P.cellsOf fd.type))with
   | none=>simp [hx,hl]at hm
   | some xs=>
    obtain ⟨vas,a1,a2,a3⟩:=ih fd.type _ x hs.1 hx
    obtain ⟨ps,b1,b2,b3,b4⟩:=Rv ih cs fs (off+P.cellsOf fd.type) xs hlay hs.2 hl (fun _ _ _ _ _=>trivial)
    refine ⟨vas::ps,?_,fun c hc=>?_,by simp [b3],fun i fd' p h1 h2=>?_⟩
    ·rw [List.flatten_cons]
     have e:cs.drop off=(cs.drop off).take (P.cellsOf fd.type)++cs.drop (off+P.cellsOf fd.type):=by
      rw [←XD];exact (Xr _ _).symm
     rw [e]
     rw [ho]at a1
     exact a1.append b1
    ·rw [List.flatten_cons]at hc
     rcases WX.1 hc with hc | hc
     ·exact a2 c hc
     ·exact b2 c hc
    ·cases i with
     | zero=>simp at h1 h2;subst h1;subst h2;exact a3
     | succ i=>exact b4 i fd' p (by simpa using h1) (by simpa using h2)
theorem TL {f fuel:Nat} (ih:OpenAt enc P w base spare held f fuel) {e:TypeId} (hs:RO P f e=true) (cs:List Value):∀(d i n:Nat),i+d=n→cs.length=n*P.cellsOf e →
  (∀j,j<n→∃x,DataW.trod enc P w base spare held fuel e ((cs.drop (j*P.cellsOf e)).take (P.cellsOf e))=some x) →
  ∃ps:List (List Ab),Ay (Ol w) ps.flatten (cs.drop (i*P.cellsOf e))∧(∀c∈ps.flatten,B4 c=true)∧ps.length=d∧∀p∈ps,Shp P f e p
 | 0,i,n,hi,hl,_=>by
  have:cs.drop (i*P.cellsOf e)=[]:=YB (by rw [hl,show i=n by omega];exact WF _)
  rw [this]
  exact ⟨[],Ay.nil _,fun c hc=>by simp at hc,rfl,fun p h=>by simp at h⟩
 | d+1,i,n,hi,hl,hm=>by
  obtain ⟨x,hx⟩:=hm i (by omega)
  obtain ⟨vas,a1,a2,a3⟩:=ih e _ x hs hx
  obtain ⟨ps,b1,b2,b3,b4⟩:=TL ih hs cs d (i+1) n (by omega) hl hm
  refine ⟨vas::ps,?_,fun c hc=>?_,by simp [b3],fun p hp=>?_⟩
  ·rw [List.flatten_cons]
   have e':cs.drop (i*P.cellsOf e)=(cs.drop (i*P.cellsOf e)).take (P.cellsOf e)++cs.drop ((i+1)*P.cellsOf e):=by
    rw [YP,←XD];exact (Xr _ _).symm
   rw [e']
   exact a1.append b1
  ·rw [List.flatten_cons]at hc
   rcases WX.1 hc with hc | hc
   ·exact a2 c hc
   ·exact b2 c hc
  ·rcases Xk.1 hp with rfl | hp
   ·exact a3
   ·exact b4 p hp
theorem N7 {a:Addr} {n:Nat} {r:List Value} (h:w.cells? base a n=some r):r.length=n∧∀j,j<n→w.cell? (a.add j)=r[j]? := by
 unfold World.cells? at h
 split at h
 ·obtain ⟨h1,h2⟩:=TQ h
  refine ⟨by simpa using h1,fun j hj=>(h2 j j (XF hj)).symm⟩
 ·cases h
theorem open_row {f fuel:Nat} (ih:OpenAt enc P w base spare held f fuel) {e:TypeId} (hpos:0<P.cellsOf e) (hs:RO P f e=true) (a:Addr) (len cap:Nat) (hc:len≤cap)
  (hm:∀i,i<len→∃x,(w.cells? base (a.add (i*P.cellsOf e)) (P.cellsOf e)).bind (DataW.trod enc P w base spare held fuel e)=some x) :
  ∃es tk,Au (Ol w) (.sl es tk) (.slice (some a) len cap)∧(tk=.no)∧es.length=len∧∀x∈es,Shp P f e x:=by
 by_cases h0:len=0
 ·subst h0
  exact ⟨[],.no,.sl0 trivial (fun h=>by cases h),rfl,rfl,fun x hx=>by cases hx⟩
 ·have each:∀i,∃vas:List Ab,i<len→∃r,w.cells? base (a.add (i*P.cellsOf e)) (P.cellsOf e)=some r∧Ay (Ol w) vas r∧(∀c∈vas,B4 c=true)∧Shp P f e vas:=by
   intro i
   by_cases hi:i<len
   ·obtain ⟨x,hx⟩:=hm i hi
    cases hr:w.cells? base (a.add (i*P.cellsOf e)) (P.cellsOf e)with
    | none=>simp [hr]at hx
    | some r=>
     rw [hr,Option.bind_some]at hx
     obtain ⟨vas,a1,a2,a3⟩:=ih e r x hs hx
     exact ⟨vas,fun _=>⟨r,rfl,a1,a2,a3⟩⟩
   ·exact ⟨[],fun h=>absurd h hi⟩
  obtain ⟨g,hg⟩:=Classical.axiomOfChoice each
  have hg:∀i,i<len→∃r,w.cells? base (a.add (i*P.cellsOf e)) (P.cellsOf e)=some r∧Ay (Ol w) (g i) r∧(∀c∈g i,B4 c=true)∧Shp P f e (g i):=hg
  have hsp:a.spot=none:=by
   obtain ⟨r,h1,_⟩:=hg 0 (by omega)
   obtain ⟨h2,h3⟩:=N7 h1
   have h4:=h3 0 hpos
   have h5:(a.add (0*P.cellsOf e)).add 0=a:=by simp [Addr.add]
   rw [h5,WB (by omega)]at h4
   unfold World.cell? at h4
   split at h4
   ·split at h4
    ·cases h4
    ·rename_i hh;simpa using hh
   ·cases h4
  obtain ⟨b,o,sp⟩:=a
  simp only at hsp
  subst hsp
  have hadd:∀i j,((⟨b,o,none⟩:Addr).add (i*P.cellsOf e)).add j=⟨b,o+(i*P.cellsOf e+j),none⟩:=fun i j=>by rw [CI,CI,Xy]
  refine ⟨(List.range len).map g,.no,?_,rfl,by simp,fun x hx=>?_⟩
  ·have hl:((List.range len).map g).length=len:=by simp
   have key:=Au.sl (E:=Ol w) (es:=(List.range len).map g) (tk:=.no) (b:=b) (o:=o) (s:=P.cellsOf e) (cap:=cap) (fun i j=>(w.cell? ⟨b,o+(i*P.cellsOf e+j),none⟩).getD default)
    (fun i x hx=>?_) (fun i j hi hj=>?_) (fun i x j c hx hc=>?_) (fun i x j c hx hc=>?_) (by rw [hl];exact hc) trivial
   ·rw [hl]at key;exact key
   ·have hi:i<len:=by have:=(WC.1 hx).1;simpa using this
    rw [Xc,XF hi]at hx
    simp at hx;subst hx
    obtain ⟨r,h1,h2,_⟩:=hg i hi
    rw [h2.1,(N7 h1).1]
   ·rw [hl]at hi
    obtain ⟨r,h1,h2,_⟩:=hg i hi
    obtain ⟨h3,h4⟩:=N7 h1
    have h5:=h4 j hj
    rw [hadd]at h5
    rw [Env0_I,h5,WB (by omega)];rfl
   ·have hi:i<len:=by have:=(WC.1 hx).1;simpa using this
    rw [Xc,XF hi]at hx
    simp at hx;subst hx
    obtain ⟨r,h1,h2,h6,_⟩:=hg i hi
    exact h6 c (Xj hc)
   ·have hi:i<len:=by have:=(WC.1 hx).1;simpa using this
    rw [Xc,XF hi]at hx
    simp at hx;subst hx
    obtain ⟨r,h1,h2,h6,_⟩:=hg i hi
    obtain ⟨h3,h4⟩:=N7 h1
    have hj:j<P.cellsOf e:=by have:=(WC.1 hc).1;rw [h2.1,h3]at this;exact this
    have h5:=h4 j hj
    rw [hadd]at h5
    refine h2.2 j c _ hc ?_
    rw [←h5,h5,WB (by omega)];rfl
  ·simp only [XQ,Y9]at hx
   obtain ⟨i,hi,rfl⟩:=hx
   obtain ⟨r,_,_,_,h7⟩:=hg i hi
   exact h7
theorem Pt {E:Env} {x:Ab} {v:Value} (h:Au E x v):Ay E [x] [v]:=.cons h (.nil _)
theorem V4:∀(f fuel:Nat),OpenAt enc P w base spare held f fuel
 | 0,_=>fun t cs x hs _=>by simp [RO]at hs
 | _+1,0=>fun t cs x _ h=>by simp [DataW.trod]at h
 | f+1,fuel+1=>fun t cs x hs h=>by
  have ih:=V4 f fuel
  unfold RO at hs
  unfold Shp
  cases hu:P.underlying t with
  | none=>rw [hu]at hs;cases hs
  | some td=>
   rw [hu]at hs
   unfold DataW.trod at h
   rw [hu]at h
   cases td with
   | bool=>
    simp only at h
    split at h
    all_goals first | (rename_i hq;cases hq;done) | skip
    all_goals first | (cases h;done) | skip
    ·rename_i b hq
     exact ⟨[.bool b],Pt (.bool b),fun c hc=>by simp at hc;subst hc;rfl,b,rfl⟩
   | int k=>
    simp only at h
    split at h
    all_goals first | (rename_i hq;cases hq;done) | skip
    all_goals first | (cases h;done) | skip
    ·rename_i k2 k' n heq
     cases heq
     split at h
     ·rename_i hc
      obtain ⟨rfl,hw⟩:=hc
      exact ⟨[.int _ _],Pt (.int _ _),fun c hc=>by simp at hc;subst hc;rfl,_,rfl,hw⟩
     ·cases h
   | string=>
    simp only at h
    split at h
    all_goals first | (rename_i hq;cases hq;done) | skip
    all_goals first | (cases h;done) | skip
    ·rename_i s heq
     split at h
     ·rename_i hc
      have e:Au (Ol w) (.str s.data.toList) (.string s):=by
       have e:s=⟨s.data.toList.toArray⟩:=by cases s;simp
       rw [e];exact .str _
      refine ⟨[.str s.data.toList],Pt e,fun c hc=>by simp at hc;subst hc;rfl,_,rfl,hc⟩
     ·cases h
   | slice e=>
    simp only [WO,decide_eq_true_eq]at hs
    simp only at h
    split at h
    all_goals first | (rename_i hq;cases hq;done) | skip
    all_goals first | (cases h;done) | skip
    ·exact ⟨[.sl [] .no],Pt (.sl0 trivial (fun _=>rfl)),fun c hc=>by simp at hc;subst hc;rfl,[],rfl,Xd _,fun x hx=>by cases hx⟩
    ·rename_i e2 a len cap heq
     cases heq
     split at h
     ·rename_i hc
      obtain ⟨h1,h2,h3⟩:=hc
      cases hm:(List.range len).mapM fun i=>(w.cells? base (a.add (i*P.cellsOf e)) (P.cellsOf e)).bind (DataW.trod enc P w base spare held fuel e)with
      | none=>rw [hm]at h;cases h
      | some elems=>
       obtain ⟨es,tk,k1,rfl,k2,k3⟩:=open_row ih hs.1 hs.2 a len cap h2 (fun i hi=>TP hm i (by simpa using hi))
       exact ⟨[.sl es .no],Pt k1,fun c hc=>by simp at hc;subst hc;rfl,es,rfl,by omega,k3⟩
     ·cases h
   | struct fs=>
    simp only [WO]at hs
    simp only at h
    split at h
    ·rename_i hc
     cases hm:fs.toList.mapM fun fd=>DataW.trod enc P w base spare held fuel fd.type ((cs.drop fd.offset).take (P.cellsOf fd.type))with
     | none=>rw [hm]at h;cases h
     | some xs=>
      obtain ⟨ps,b1,b2,b3,b4⟩:=Rv ih cs fs.toList 0 xs (by rw [hc];exact hs.1) hs.2 hm (fun _ _ _ _ _=>trivial)
      exact ⟨ps.flatten,by simpa using b1,b2,ps,rfl,b3,b4⟩
    ·cases h
   | array n e=>
    simp only [WO,decide_eq_true_eq]at hs
    simp only at h
    split at h
    ·rename_i hc
     cases hm:(List.range n).mapM fun i=>DataW.trod enc P w base spare held fuel e ((cs.drop (i*P.cellsOf e)).take (P.cellsOf e))with
     | none=>rw [hm]at h;cases h
     | some xs=>
      obtain ⟨ps,b1,b2,b3,b4⟩:=TL ih hs.2 cs n 0 n (by omega) (by rw [hc];exact hs.1) (fun j hj=>TP hm j (by simpa using hj))
      exact ⟨ps.flatten,by simpa using b1,b2,ps,rfl,b3,b4⟩
    ·cases h
   | _=>cases hs
theorem arg_one {r:Reach} {b0 f:Nat} {t:TypeId} {v:Value} {d:DataW H} {ps:List MemPlace} (hs:RO P f t=true) (hval:Value.okWide P w r b0 t v) (hd:DataW.Trod enc P w base spare held t v d ps)
  (hu:(match P.underlying t with | some (.slice _)=>true | some (.int _)=>true | some .string=>true | some .bool=>true | _=>false)=true):∃x,Au (Ol w) x v∧Shp P f t [x]:=by
 obtain ⟨fuel,hf⟩:=hd
 have hc:v.cells.toList=[v]:=by
  unfold Value.okWide Cell.okWide Cell.ok at hval
  cases hx:P.underlying t with
  | none=>rw [hx]at hu;cases hu
  | some td=>
   rw [hx]at hu hval
   cases td <;> first | (cases hu;done) | skip
   all_goals (cases v <;> first | (simp [Value.cells];done) | (simp at hval;done) | (exact hval.elim;done))
 rw [hc]at hf
 obtain ⟨vas,a1,a2,a3⟩:=V4 f fuel t [v] _ hs hf
 have hl:=a1.1
 match vas,hl with
 | [x],_=>exact ⟨x,a1.2 0 x v rfl rfl,a3⟩
theorem arg_row {r:Reach} {b0 f:Nat} {t e:TypeId} {v:Value} {d:DataW H} {ps:List MemPlace} (hu:P.underlying t=some (.slice e)) (hs:RO P (f+1) t=true) (hval:Value.okWide P w r b0 t v) (hd:DataW.Trod enc P w base spare held t v d ps) :
  ∃es,Au (Ol w) (.sl es .no) v∧(∀x∈es,Shp P f e x)∧es.length≤maxLen∧(es=[]∨∃elems spare,d=.slice elems spare∧elems.length=es.length):=by
 obtain ⟨x,h1,h2⟩:=arg_one hs hval hd (by rw [hu])
 unfold Shp at h2
 rw [hu]at h2
 obtain ⟨es,h3,h4,h5⟩:=h2
 injection h3 with h3 _
 subst h3
 refine ⟨es,h1,h5,h4,?_⟩
 obtain ⟨fuel,hf⟩:=hd
 cases fuel with
 | zero=>simp [DataW.trod]at hf
 | succ fuel=>
  unfold DataW.trod at hf
  rw [hu]at hf
  cases h1 with
  | sl0 _ _=>exact .inl rfl
  | sl fv hl hI hm hv hc ht=>
   rename_i b o s cap
   right
   have e1:(Value.slice (some ⟨b,o,none⟩) es.length cap).cells.toList=[.slice (some ⟨b,o,none⟩) es.length cap]:=rfl
   rw [e1]at hf
   simp only at hf
   split at hf
   ·cases hm':(List.range es.length).mapM fun i=>(w.cells? base (Addr.add ⟨b,o,none⟩ (i*P.cellsOf e)) (P.cellsOf e)).bind (DataW.trod enc P w base spare held fuel e)with
    | none=>rw [hm']at hf;cases hf
    | some elems=>
     rw [hm',Option.bind_some]at hf
     obtain ⟨q1,_⟩:=TQ hm'
     rw [Option.map_eq_some_iff]at hf
     obtain ⟨rest,_,hf⟩:=hf
     injection hf with hf _
     exact ⟨_,_,hf.symm,by simpa using q1⟩
   ·cases hf

end
section
variable {P:Program} {f:Nat} {t e:TypeId} {vas:List Ab}
theorem shp_int {k:IntKind} (hu:P.underlying t=some (.int k)) (h:Shp P (f+1) t vas):∃n,vas=[.int k n]∧(Lit.int k n).wf=true:=by
 unfold Shp at h;rw [hu]at h;exact h
theorem shp_bool (hu:P.underlying t=some .bool) (h:Shp P (f+1) t vas):∃b,vas=[.bool b]:=by
 unfold Shp at h;rw [hu]at h;exact h
theorem shp_sl (hu:P.underlying t=some (.slice e)) (h:Shp P (f+1) t vas):∃es,vas=[.sl es .no]∧es.length≤maxLen∧∀x∈es,Shp P f e x:=by
 unfold Shp at h;rw [hu]at h;exact h
theorem shp_st {fs:Array Field} (hu:P.underlying t=some (.struct fs)) (h:Shp P (f+1) t vas):∃ps:List (List Ab),vas=ps.flatten∧ps.length=fs.toList.length∧∀(i:Nat) (fd:Field) (p:List Ab),fs.toList[i]? = some fd→ps[i]? = some p→Shp P f fd.type p:=by
 unfold Shp at h;rw [hu]at h;exact h
theorem wf_b {k:IntKind} {n:Int} (h:(Lit.int k n).wf=true):k.min≤n∧n≤k.max:=by
 simp only [Lit.wf,WO,decide_eq_true_eq]at h;exact h
theorem wf_u32 {n:Int} (h:(Lit.int .u32 n).wf=true):0≤n∧n<4294967296:=by
 have h1:=wf_b h
 rw [show IntKind.u32.min=0 from rfl,show IntKind.u32.max=4294967295 from rfl]at h1
 omega
theorem wf_u8 {n:Int} (h:(Lit.int .u8 n).wf=true):0≤n∧n<256:=by
 have h1:=wf_b h
 rw [show IntKind.u8.min=0 from rfl,show IntKind.u8.max=255 from rfl]at h1
 omega
theorem rows_of {α:Type} {g:α→List Ab} {p:α→Prop}:∀ {es:List (List Ab)},(∀x∈es,∃a,x=g a∧p a)→∃l:List α,es=enL g l∧∀a∈l,p a
 | [],_=>⟨[],rfl,fun a h=>by cases h⟩
 | x::es,h=>by
  obtain ⟨a,rfl,ha⟩:=h x (by simp)
  obtain ⟨l,rfl,hl⟩:=rows_of (g:=g) (p:=p) (es:=es) fun y hy=>h y (by simp [hy])
  exact ⟨a::l,rfl,fun b hb=>by rcases Xk.1 hb with rfl | hb;exact ha;exact hl b hb⟩
theorem shp_limbs (h1:P.underlying t=some (.slice e)) (h2:P.underlying e=some (.int .u32)) (h:Shp P (f+2) t vas):∃l:List Nat,vas=[.sl (enL cU l) .no]∧Lim l∧l.length≤maxLen:=by
 obtain ⟨es,rfl,hl,he⟩:=shp_sl h1 h
 obtain ⟨l,rfl,hp⟩:=rows_of (g:=cU) (p:=fun n=>n<4294967296) (es:=es) fun x hx=>by
  obtain ⟨n,rfl,hw⟩:=shp_int h2 (he x hx)
  obtain ⟨w1,w2⟩:=wf_u32 hw
  exact ⟨n.toNat,by show [Ab.int .u32 n]=[Ab.int .u32 (n.toNat:Int)];rw [Int.toNat_of_nonneg w1],by omega⟩
 exact ⟨l,rfl,hp,by simpa using hl⟩
structure BigTy (P:Program) (tb:TypeId):Prop where
 ex:∃(f0 f1:Field) (e:TypeId),P.underlying tb=some (.struct #[f0,f1])∧P.underlying f0.type=some .bool∧P.underlying f1.type=some (.slice e)∧P.underlying e=some (.int .u32)
theorem shp_big {tb:TypeId} (hb:BigTy P tb) (h:Shp P (f+3) tb vas):∃n l,vas=[.bool n,.sl (enL cU l) .no]∧Lim l:=by
 obtain ⟨f0,f1,e,h1,h2,h3,h4⟩:=hb.ex
 obtain ⟨ps,rfl,hl,hp⟩:=shp_st h1 h
 match ps,hl with
 | [p0,p1],_=>
  obtain ⟨n,rfl⟩:=shp_bool h2 (hp 0 f0 p0 rfl rfl)
  obtain ⟨l,rfl,hlim,_⟩:=shp_limbs h3 h4 (hp 1 f1 p1 rfl rfl)
  exact ⟨n,l,rfl,hlim⟩

end
section
variable {P:Program} {f:Nat} {t e:TypeId} {vas:List Ab}
structure CellTy (P:Program) (tc:TypeId):Prop where
 ex:∃(f0 f1 f2:Field),P.underlying tc=some (.struct #[f0,f1,f2])∧BigTy P f0.type∧BigTy P f1.type∧P.underlying f2.type=some (.int .u8)
theorem shp_cell {tc:TypeId} (hc:CellTy P tc) (h:Shp P (f+4) tc vas):∃r:RC,vas=cRC r∧r.lim:=by
 obtain ⟨f0,f1,f2,h1,h2,h3,h4⟩:=hc.ex
 obtain ⟨ps,rfl,hl,hp⟩:=shp_st h1 h
 match ps,hl with
 | [p0,p1,p2],_=>
  obtain ⟨n1,l1,rfl,k1⟩:=shp_big h2 (hp 0 f0 p0 rfl rfl)
  obtain ⟨n2,l2,rfl,k2⟩:=shp_big h3 (hp 1 f1 p1 rfl rfl)
  obtain ⟨s,rfl,hw⟩:=shp_int h4 (hp 2 f2 p2 rfl rfl)
  obtain ⟨w1,w2⟩:=wf_u8 hw
  refine ⟨⟨n1,l1,n2,l2,UInt8.ofNat s.toNat⟩,?_,k1,k2⟩
  have e:((UInt8.ofNat s.toNat).toNat:Int)=s:=by
   rw [Ym (show s.toNat<256 by omega)];omega
  unfold cRC
  dsimp only
  rw [e];rfl
theorem shp_cells {tc:TypeId} (hc:CellTy P tc) {es:List (List Ab)} (h:∀x∈es,Shp P (f+4) tc x):∃l:List RC,es=enL cRC l∧∀r∈l,r.lim:=
 rows_of fun x hx=>shp_cell hc (h x hx)

end
end Go.Gm
