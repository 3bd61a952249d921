/- BlockReads: the pattern of any bytes, or where and why there is none, is the document's: for every text and every limits, with no condition. -/
import Derived.Test.YtagddbecnkbcdaaGreatJ4
import Derived.Test.YtagddbecnkbcdaaGreatJ7
import Derived.Test.YtagddbecnkbcdaaGreatJ9
import Derived.Test.YtagddbecnkbcdaaGreatRows
import Derived.Lib.SmallJoins
set_option linter.all false
namespace Go.Proofs.YtagddbecnkbcdaaGreat
open Go.ChangeShapes Go.WideShapes Go.ChangeAt Go.RowKit Go.Gm Go.Joins
open Go.ChangeMaps (open_string shut_string)
theorem blockOwn:ownKnob Tryz.prog.godebug=none:=by kernel_rfl
theorem blockLaidOut:laidOutB Tryz.prog=true:=by kernel_rfl
theorem blockCells:Tryz.prog.cellsOf 23=2:=by kernel_rfl
theorem block_str_rel (E:Env)(s:ByteArray):A2 E (.str s.data.toList) (.string s):=by
 have:s=⟨s.data.toList.toArray⟩:=by cases s;simp
 rw[this];exact .str _
set_option maxRecDepth 100000 in
theorem blockReads_contract (H:Type)(enc:TypeId×Value→H)(W:World)(base:Nat)(args:Array Value)(ds gs:List (DataW H))(before:List MemPlace)
  (cC:∀(j:Nat) t v,Tryz.f6.params[j]? = some t→args[j]? = some v→Value.okWide Tryz.prog W .any base t v)
  (hW:DataW.Whole enc Tryz.prog Tryz.f6.params.toList Rows.blockReadsSpec.vars false W args.toList ds gs before) :
  Calls Tryz.prog 6 args W fun e W'=>∃v,e=.returned v∧Rows.blockReadsSpec.post enc Tryz.prog Tryz.f6 false true false false W args v W':=by
 have hW':=hW
 obtain⟨p,q,hA0,hV,rfl,Yv,lN⟩:=hW
 have hA:DataW.TrodAll enc Tryz.prog W 0 (fun _=>true) true Tryz.f6.params.toList args.toList ds p:=hA0
 rw[Tryz.params6]at hA cC
 obtain⟨v0,vs0,d0,ds0,p0,q0,eD,rfl,rfl,h0,r0⟩:=trodAll_cons hA
 obtain⟨v1,vs1,d1,ds1,p1,q1,rfl,rfl,rfl,h1,r1⟩:=trodAll_cons r0
 obtain⟨rfl,rfl,rfl⟩:=trodAll_nil r1
 obtain rfl:args = #[v0,v1]:=by cases args;simp_all
 obtain⟨rfl,rfl⟩:=trodVars_none hV
 obtain⟨b,rfl,rfl,rfl,zN⟩:=open_string Tryz.underlying9 (cC 0 9 v0 rfl rfl) h0
 obtain⟨c0,c1,y0,y1,m,rfl,rfl,rfl,yN,tV⟩:=open_agg2 Tryz.underlying23 (by kernel_rfl) blockCells (cC 1 23 v1 rfl rfl) h1
 obtain⟨x,e0,rfl,wx⟩:=DataW.trod_int Tryz.underlying3 yN
 obtain⟨n,e1,rfl,wn⟩:=DataW.trod_int Tryz.underlying3 tV
 simp only[List.cons.injEq,and_true]at e0 e1
 subst e0
 subst e1
 refine (calls_law Io Tryz.func6 (by kernel_rfl) (by kernel_rfl) (args:=[.str b.data.toList,.agg [.i6 x,.i6 n]]) (fun _ _ h=>nomatch h) ?_ ?_ (SN x n [])).mono fun e W' ⟨he,hB⟩=>?_
 ·exact fun g cs hg=>by cases hg
 ·exact .cons (block_str_rel _ b) (.cons (.agg_of (.cons (.int _ _) (.cons (.int _ _) (.nil _)))) (.nil _))
 ·subst he
  exact⟨_,rfl,post_law hW' blockLaidOut (by kernel_rfl) hB rfl (by kernel_rfl) Tryz.underlying4 rfl rfl rfl⟩
set_option maxRecDepth 100000 in
theorem blockReads_lifted (os:Os)(started:os.Started)(H:Type)(enc:TypeId×Value→H) :
  ReturnsInHanded {} Tryz.checked os 6 .any (Rows.blockReadsSpec.pre6 enc Tryz.prog Tryz.f6 Rows.blockReadsRow.domain false) (Rows.blockReadsSpec.post enc Tryz.prog Tryz.f6 false true false false):=by
 refine returnsInHanded_of_change (C:=Tryz.checked) blockOwn started (by kernel_rfl) Tryz.func6
  (ChangeSpec.witness6 (enc:=enc) (C:=Tryz.checked) false ⟨#[],#[.string .empty,.agg #[.i6 0,.i6 0]],[]⟩ 8 (by kernel_rfl) (by kernel_rfl) (by kernel_rfl) (by kernel_rfl)) ?_
 intro W base args ds gs before cC hW _ _
 exact blockReads_contract H enc W base args ds gs before cC hW
theorem blockReads_holds:Rows.BlockReadsSaid:=
 OpenClaim.holds_of_wide 6 Tryz.f6 rfl rfl rfl rfl rfl rfl rfl ⟨rfl,rfl,rfl,rfl,rfl⟩ rfl rfl rfl rfl rfl (by kernel_rfl) Tryz.func6 (by kernel_rfl)
  (of_decide_eq_true (by kernel_rfl)) (by unfold Func.isWrapper;first | (rw[if_pos (by decide +kernel)];kernel_rfl) | (rw[if_neg (by decide +kernel)];exact⟨rfl,rfl⟩))
  (fun os started H enc _=>blockReads_lifted os started H enc)
end Go.Proofs.YtagddbecnkbcdaaGreat
