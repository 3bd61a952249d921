/- RleBlanks: blanks and line ends between tokens change nothing, nor what stands behind the end: for every grid, every row of truths and every text, with no condition. -/
import Derived.Test.YtagddbecnkbcdaaGreatJ6
import Derived.Test.YtagddbecnkbcdaaGreatJ8
import Derived.Test.YtagddbecnkbcdaaGreatRows
import Derived.Lib.SmallJoins
set_option linter.all false
namespace Go.Proofs.YtagddbecnkbcdaaGreat
open Go.ChangeShapes Go.WideShapes Go.ChangeAt Go.RowKit Go.Gm Go.Joins
open Go.ChangeMaps (open_string shut_string)
theorem blanksOwn:ownKnob Tryz.prog.godebug=none:=by kernel_rfl
theorem blanksLaidOut:laidOutB Tryz.prog=true:=by kernel_rfl
theorem blanksBig:Vo6 Tryz.prog 46:=⟨_,_,_,Tryz.underlying46,Tryz.underlying4,Tryz.underlying44,Tryz.underlying96⟩
set_option maxRecDepth 100000 in
theorem blanksGrid:∃f0 f1 f2:Field,Tryz.prog.underlying 56=some (.struct #[f0,f1,f2])∧f0.type=46∧f1.type=46∧f2.type=54:=⟨_,_,_,Tryz.underlying56,rfl,rfl,rfl⟩
set_option maxRecDepth 100000 in
theorem blanksSupp:Oc Tryz.prog 5 56=true:=by kernel_rfl
set_option maxRecDepth 100000 in
theorem blanksSupp2:Oc Tryz.prog 2 57=true:=by kernel_rfl
set_option maxRecDepth 100000 in
theorem blanks_shp {vas:List Ab}(h:Shp Tryz.prog 5 56 vas):∃n1 l1 n2 l2 rows,vas=Fg n1 l1 n2 l2 rows∧Lim l1∧Lim l2:=by
 obtain⟨f0,f1,f2,h1,t0,t1,t2⟩:=blanksGrid
 obtain⟨ps,rfl,hl,hp⟩:=VjD (f:=4) h1 h
 match ps,hl with
 | [p0,p1,p2],_=>
  have q0:=hp 0 f0 p0 rfl rfl
  have q1:=hp 1 f1 p1 rfl rfl
  have q2:=hp 2 f2 p2 rfl rfl
  rw[t0]at q0
  rw[t1]at q1
  rw[t2]at q2
  obtain⟨n1,l1,rfl,k1⟩:=Ve9 (f:=1) blanksBig q0
  obtain⟨n2,l2,rfl,k2⟩:=Ve9 (f:=1) blanksBig q1
  obtain⟨es,rfl,_,he⟩:=VjE (f:=3) Tryz.underlying54 q2
  obtain⟨rows,rfl,_⟩:=Rm (g:=cS) (p:=fun _=>True) (es:=es) fun x hx=>by
   obtain⟨s,rfl,_⟩:=Vk5 (f:=2) Tryz.underlying9 (he x hx)
   exact⟨s,rfl,trivial⟩
  exact⟨n1,l1,n2,l2,rows,rfl,k1,k2⟩
theorem blanks_str_rel (E:Env)(s:ByteArray):Au E (.str s.data.toList) (.string s):=by
 have:s=⟨s.data.toList.toArray⟩:=by cases s;simp
 rw[this];exact .str _
set_option maxRecDepth 100000 in
theorem rleBlanks_contract (H:Type)(enc:TypeId×Value→H)(W:World)(base:Nat)(args:Array Value)(ds gs:List (DataW H))(before:List MemPlace)
  (aO:∀(j:Nat) t v,Tryz.f11.params[j]? = some t→args[j]? = some v→Value.okWide Tryz.prog W .any base t v)
  (hW:DataW.Whole enc Tryz.prog Tryz.f11.params.toList Rows.rleBlanksSpec.vars false W args.toList ds gs before) :
  Calls Tryz.prog 11 args W fun e W'=>∃v,e=.returned v∧Rows.rleBlanksSpec.post enc Tryz.prog Tryz.f11 false true false false W args v W':=by
 have hW':=hW
 obtain⟨p,q,hA0,hV,rfl,Zq,kM⟩:=hW
 have hA:DataW.TrodAll enc Tryz.prog W 0 (fun _=>true) true Tryz.f11.params.toList args.toList ds p:=hA0
 rw[Tryz.params11]at hA aO
 obtain⟨v0,vs0,d0,ds0,p0,q0,dQ,rfl,rfl,h0,r0⟩:=trodAll_cons hA
 obtain⟨v1,vs1,d1,ds1,p1,q1,rfl,rfl,rfl,h1,r1⟩:=trodAll_cons r0
 obtain⟨v2,vs2,d2,ds2,p2,q2,rfl,rfl,rfl,h2,r2⟩:=trodAll_cons r1
 obtain⟨rfl,rfl,rfl⟩:=trodAll_nil r2
 obtain rfl:args = #[v0,v1,v2]:=by cases args;simp_all
 obtain⟨rfl,rfl⟩:=trodVars_none hV
 obtain⟨vas,grel,gshp⟩:=Vmy (f:=5) blanksSupp (aO 0 56 v0 rfl rfl) h0 (by rw[Tryz.underlying56])
 obtain⟨n1,l1,n2,l2,rows,rfl,k1,k2⟩:=blanks_shp gshp
 obtain⟨es,hrel,tS,hlen,hcase⟩:=Vmw (f:=1) Tryz.underlying57 blanksSupp2 (aO 1 57 v1 rfl rfl) h1
 obtain⟨wh,rfl,_⟩:=Rm (g:=cBl) (p:=fun _=>True) (es:=es) fun x hx=>by
  obtain⟨b,rfl⟩:=VbR (f:=0) Tryz.underlying4 (tS x hx)
  exact⟨b,rfl,trivial⟩
 obtain⟨b,rfl,rfl,rfl,zU⟩:=open_string Tryz.underlying9 (aO 2 9 v2 rfl rfl) h2
 refine (VgR IE Tryz.func11 (by kernel_rfl) (by kernel_rfl) (args:=[.agg (Fg n1 l1 n2 l2 rows),.sl (enL cBl wh) .no,.str b.data.toList]) (fun _ _ h=>nomatch h) ?_ ?_ (TA [] k1 k2)).mono fun e W' ⟨he,hB⟩=>?_
 ·exact fun g cs hg=>by cases hg
 ·exact .cons grel (.cons hrel (.cons (blanks_str_rel _ b) (.nil _)))
 ·subst he
  exact⟨_,rfl,Vii hW' blanksLaidOut (by kernel_rfl) hB rfl (by kernel_rfl) Tryz.underlying4 rfl rfl rfl⟩
set_option maxRecDepth 100000 in
theorem rleBlanks_lifted (os:Os)(started:os.Started)(H:Type)(enc:TypeId×Value→H) :
  ReturnsInHanded {} Tryz.checked os 11 .any (Rows.rleBlanksSpec.pre6 enc Tryz.prog Tryz.f11 Rows.rleBlanksRow.domain false) (Rows.rleBlanksSpec.post enc Tryz.prog Tryz.f11 false true false false):=by
 refine returnsInHanded_of_change (C:=Tryz.checked) blanksOwn started (by kernel_rfl) Tryz.func11
  (ChangeSpec.witness6 (enc:=enc) (C:=Tryz.checked) false ⟨#[],#[.agg #[.bool false,.slice none 0 0,.bool false,.slice none 0 0,.slice none 0 0],.slice none 0 0,.string .empty],[]⟩ 8 (by kernel_rfl) (by kernel_rfl) (by kernel_rfl) (by kernel_rfl)) ?_
 intro W base args ds gs before aO hW _ _
 exact rleBlanks_contract H enc W base args ds gs before aO hW
theorem rleBlanks_holds:Rows.RleBlanksSaid:=
 OpenClaim.holds_of_wide 11 Tryz.f11 rfl rfl rfl rfl rfl rfl rfl ⟨rfl,rfl,rfl,rfl,rfl⟩ rfl rfl rfl rfl rfl (by kernel_rfl) Tryz.func11 (by kernel_rfl)
  (of_decide_eq_true (by kernel_rfl)) (by unfold Func.isWrapper;first | (rw[if_pos (by decide +kernel)];kernel_rfl) | (rw[if_neg (by decide +kernel)];exact⟨rfl,rfl⟩))
  (fun os started H enc _=>rleBlanks_lifted os started H enc)
end Go.Proofs.YtagddbecnkbcdaaGreat
