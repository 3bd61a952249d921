/- SpotReads: the pattern of any bytes, or where and why there is none, is the document's: for every text and every limits, with no condition. -/
import Derived.Test.YtagddbecnkbcdaaGreatJ3
import Derived.Test.YtagddbecnkbcdaaGreatJ6
import Derived.Test.YtagddbecnkbcdaaGreatJ8
import Derived.Test.YtagddbecnkbcdaaGreatRows
import Derived.Lib.SmallJoins
set_option linter.unusedVariables false
set_option linter.unusedSimpArgs false
namespace Go.Proofs.YtagddbecnkbcdaaGreat
open Go.ChangeShapes Go.WideShapes Go.ChangeAt Go.RowKit Go.Gm Go.Joins
open Go.ChangeMaps (open_string shut_string)
theorem spotOwn:ownKnob Tryz.prog.godebug=none:=by kernel_rfl
theorem spotLaidOut:laidOutB Tryz.prog=true:=by kernel_rfl
theorem spotCells:Tryz.prog.cellsOf 23=2:=by kernel_rfl
theorem spot_str_rel (E:Env) (s:ByteArray):Az E (.str s.data.toList) (.string s):=by
 have:s=⟨s.data.toList.toArray⟩:=by cases s;simp
 rw [this];exact .str _
set_option maxRecDepth 100000 in
theorem spotReads_contract (H:Type) (enc:TypeId×Value→H) (W:World) (base:Nat) (args:Array Value) (ds gs:List (DataW H)) (before:List MemPlace)
  (hval:∀(j:Nat) t v,Tryz.f3.params[j]? = some t→args[j]? = some v→Value.okWide Tryz.prog W .any base t v)
  (hW:DataW.Whole enc Tryz.prog Tryz.f3.params.toList Rows.spotReadsSpec.vars false W args.toList ds gs before) :
  Calls Tryz.prog 3 args W fun e W'=>∃v,e=.returned v∧Rows.spotReadsSpec.post enc Tryz.prog Tryz.f3 false true false false W args v W':=by
 have hW':=hW
 obtain ⟨p,q,hA0,hV,rfl,hfz,hnd⟩:=hW
 have hA:DataW.TrodAll enc Tryz.prog W 0 (fun _=>true) true Tryz.f3.params.toList args.toList ds p:=hA0
 rw [Tryz.params3]at hA hval
 obtain ⟨v0,vs0,d0,ds0,p0,q0,hargs,rfl,rfl,h0,r0⟩:=trodAll_cons hA
 obtain ⟨v1,vs1,d1,ds1,p1,q1,rfl,rfl,rfl,h1,r1⟩:=trodAll_cons r0
 obtain ⟨rfl,rfl,rfl⟩:=trodAll_nil r1
 obtain rfl:args = #[v0,v1]:=by cases args;simp_all
 obtain ⟨rfl,rfl⟩:=trodVars_none hV
 obtain ⟨b,rfl,rfl,rfl,hmax⟩:=open_string Tryz.underlying9 (hval 0 9 v0 rfl rfl) h0
 obtain ⟨c0,c1,y0,y1,m,rfl,rfl,rfl,hy0,hy1⟩:=open_agg2 Tryz.underlying23 (by kernel_rfl) spotCells (hval 1 23 v1 rfl rfl) h1
 obtain ⟨x,e0,rfl,wx⟩:=DataW.trod_int Tryz.underlying3 hy0
 obtain ⟨n,e1,rfl,wn⟩:=DataW.trod_int Tryz.underlying3 hy1
 simp only [List.cons.injEq,and_true]at e0 e1
 subst e0
 subst e1
 refine (calls_law IJ Tryz.func3 (by kernel_rfl) (by kernel_rfl) (args:=[.str b.data.toList,.agg [.int .i64 x,.int .i64 n]]) (fun _ _ h=>nomatch h) ?_ ?_ (WI x n [])).mono fun e W' ⟨he,hB⟩=>?_
 ·exact fun g cs hg=>by cases hg
 ·exact .cons (spot_str_rel _ b) (.cons (.agg_of (.cons (.int _ _) (.cons (.int _ _) (.nil _)))) (.nil _))
 ·subst he
  exact ⟨_,rfl,post_law hW' spotLaidOut (by kernel_rfl) hB rfl (by kernel_rfl) Tryz.underlying4 rfl rfl rfl⟩
set_option maxRecDepth 100000 in
theorem spotReads_lifted (os:Os) (started:os.Started) (H:Type) (enc:TypeId×Value→H) :
  ReturnsInHanded {} Tryz.checked os 3 .any (Rows.spotReadsSpec.pre6 enc Tryz.prog Tryz.f3 Rows.spotReadsRow.domain false) (Rows.spotReadsSpec.post enc Tryz.prog Tryz.f3 false true false false):=by
 refine returnsInHanded_of_change (C:=Tryz.checked) spotOwn started (by kernel_rfl) Tryz.func3
  (ChangeSpec.witness6 (enc:=enc) (C:=Tryz.checked) false ⟨#[],#[.string .empty,.agg #[.int .i64 0,.int .i64 0]],[]⟩ 8 (by kernel_rfl) (by kernel_rfl) (by kernel_rfl) (by kernel_rfl)) ?_
 intro W base args ds gs before hval hW _ _
 exact spotReads_contract H enc W base args ds gs before hval hW
theorem spotReads_holds:Rows.SpotReadsSaid:=
 OpenClaim.holds_of_wide 3 Tryz.f3 rfl rfl rfl rfl rfl rfl rfl ⟨rfl,rfl,rfl,rfl,rfl⟩ rfl rfl rfl rfl rfl (by kernel_rfl) Tryz.func3 (by kernel_rfl)
  (of_decide_eq_true (by kernel_rfl)) (by unfold Func.isWrapper;first | (rw [if_pos (by decide +kernel)];kernel_rfl) | (rw [if_neg (by decide +kernel)];exact ⟨rfl,rfl⟩))
  (fun os started H enc _=>spotReads_lifted os started H enc)
end Go.Proofs.YtagddbecnkbcdaaGreat
