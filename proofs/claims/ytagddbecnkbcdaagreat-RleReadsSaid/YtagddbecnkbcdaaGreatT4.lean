/- RleReads. -/
import Derived.Test.YtagddbecnkbcdaaGreatJ5
import Derived.Test.YtagddbecnkbcdaaGreatJ7
import Derived.Test.YtagddbecnkbcdaaGreatJ10
import Derived.Test.YtagddbecnkbcdaaGreatRows
import Derived.Lib.SmallJoins
set_option linter.all false
namespace Go.Proofs.YtagddbecnkbcdaaGreat
open Go.ChangeShapes Go.WideShapes Go.ChangeAt Go.RowKit Go.Gm Go.Joins
open Go.ChangeMaps (open_string shut_string)
theorem rrO:ownKnob Tryz.prog.godebug=none:=by kernel_rfl
theorem rrD:laidOutB Tryz.prog=true:=by kernel_rfl
theorem rrK:Tryz.prog.cellsOf 23=2:=by kernel_rfl
theorem rrs (E:Env)(s:ByteArray):A3 E (.str s.data.toList) (.string s):=by
 have:s=⟨s.data.toList.toArray⟩:=by cases s;simp
 rw[this];exact .str _
set_option maxRecDepth 100000 in
theorem rrC (H:Type)(enc:TypeId×Value→H)(W:World)(base:Nat)(args:Array Value)(ds gs:List (DataW H))(before:List MemPlace)
  (cG:∀(j:Nat) t v,Tryz.f9.params[j]? = some t→args[j]? = some v→Value.okWide Tryz.prog W .any base t v)
  (hW:DataW.Whole enc Tryz.prog Tryz.f9.params.toList Rows.rleReadsSpec.vars false W args.toList ds gs before) :
  Calls Tryz.prog 9 args W fun e W'=>∃v,e=.returned v∧Rows.rleReadsSpec.post enc Tryz.prog Tryz.f9 false true false false W args v W':=by
 have hW':=hW
 obtain⟨p,q,hA0,hV,rfl,hfz,mE⟩:=hW
 have hA:DataW.TrodAll enc Tryz.prog W 0 (fun _=>true) true Tryz.f9.params.toList args.toList ds p:=hA0
 rw[Tryz.params9]at hA cG
 obtain⟨v0,vs0,d0,ds0,p0,q0,eG,rfl,rfl,h0,r0⟩:=trodAll_cons hA
 obtain⟨v1,vs1,d1,ds1,p1,q1,rfl,rfl,rfl,h1,r1⟩:=trodAll_cons r0
 obtain⟨rfl,rfl,rfl⟩:=trodAll_nil r1
 obtain rfl:args = #[v0,v1]:=by cases args;simp_all
 obtain⟨rfl,rfl⟩:=trodVars_none hV
 obtain⟨b,rfl,rfl,rfl,Zr⟩:=open_string Tryz.underlying9 (cG 0 9 v0 rfl rfl) h0
 obtain⟨c0,c1,y0,y1,m,rfl,rfl,rfl,zK,uK⟩:=open_agg2 Tryz.underlying23 (by kernel_rfl) rrK (cG 1 23 v1 rfl rfl) h1
 obtain⟨x,e0,rfl,wx⟩:=DataW.trod_int Tryz.underlying3 zK
 obtain⟨n,e1,rfl,wn⟩:=DataW.trod_int Tryz.underlying3 uK
 simp only[List.cons.injEq,and_true]at e0 e1
 subst e0
 subst e1
 refine (VgM Jp Tryz.func9 (by kernel_rfl) (by kernel_rfl) (args:=[.str b.data.toList,.agg [.i6 x,.i6 n]]) (fun _ _ h=>nomatch h) ?_ ?_ (Vad x n [])).mono fun e W' ⟨he,hB⟩=>?_
 ·exact fun g cs hg=>by cases hg
 ·exact .cons (rrs _ b) (.cons (.agg_of (.cons (.int _ _) (.cons (.int _ _) (.nil _)))) (.nil _))
 ·subst he
  exact⟨_,rfl,Vil hW' rrD (by kernel_rfl) hB rfl (by kernel_rfl) Tryz.underlying4 rfl rfl rfl⟩
set_option maxRecDepth 100000 in
theorem rrL (os:Os)(started:os.Started)(H:Type)(enc:TypeId×Value→H) :
  ReturnsInHanded {} Tryz.checked os 9 .any (Rows.rleReadsSpec.pre6 enc Tryz.prog Tryz.f9 Rows.rleReadsRow.domain false) (Rows.rleReadsSpec.post enc Tryz.prog Tryz.f9 false true false false):=by
 refine returnsInHanded_of_change (C:=Tryz.checked) rrO started (by kernel_rfl) Tryz.func9
  (ChangeSpec.witness6 (enc:=enc) (C:=Tryz.checked) false ⟨#[],#[.string .empty,.agg #[.i6 0,.i6 0]],[]⟩ 8 (by kernel_rfl) (by kernel_rfl) (by kernel_rfl) (by kernel_rfl)) ?_
 intro W base args ds gs before cG hW _ _
 exact rrC H enc W base args ds gs before cG hW
theorem rleReads_holds:Rows.RleReadsSaid:=
 OpenClaim.holds_of_wide 9 Tryz.f9 rfl rfl rfl rfl rfl rfl rfl ⟨rfl,rfl,rfl,rfl,rfl⟩ rfl rfl rfl rfl rfl (by kernel_rfl) Tryz.func9 (by kernel_rfl)
  (of_decide_eq_true (by kernel_rfl)) (by unfold Func.isWrapper;first | (rw[if_pos (by decide +kernel)];kernel_rfl) | (rw[if_neg (by decide +kernel)];exact⟨rfl,rfl⟩))
  (fun os started H enc _=>rrL os started H enc)
end Go.Proofs.YtagddbecnkbcdaaGreat
