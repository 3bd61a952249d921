/- SpotTurn: places in another order, and some of them twice, are the same pattern: for every cells and every number, with no condition. -/
import Derived.Test.YtagddbecnkbcdaaGreatJ3
import Derived.Test.YtagddbecnkbcdaaGreatJ6
import Derived.Test.YtagddbecnkbcdaaGreatJ7
import Derived.Test.YtagddbecnkbcdaaGreatJ8
import Derived.Test.YtagddbecnkbcdaaGreatRows
import Derived.SizedLaws
import Derived.Lib.SmallJoins
set_option linter.unusedVariables false
set_option linter.unusedSimpArgs false
namespace Go.Proofs.YtagddbecnkbcdaaGreat
open Go.ChangeShapes Go.WideShapes Go.ChangeAt Go.RowKit Go.Gm Go.Joins
theorem turnOwn:ownKnob Tryz.prog.godebug=none:=by kernel_rfl
theorem turnLaidOut:laidOutB Tryz.prog=true:=by kernel_rfl
theorem turnBig:BigTy Tryz.prog 46:=⟨_,_,_,Tryz.underlying46,Tryz.underlying4,Tryz.underlying44,Tryz.underlying96⟩
theorem turnCell:CellTy Tryz.prog 48:=⟨_,_,_,Tryz.underlying48,turnBig,turnBig,Tryz.underlying5⟩
theorem turnSupp:RO Tryz.prog 5 35=true:=by kernel_rfl
set_option maxRecDepth 100000 in
theorem spotTurn_contract (H:Type) (enc:TypeId×Value→H) (W:World) (base:Nat) (args:Array Value) (ds gs:List (DataW H)) (before:List MemPlace)
  (hval:∀(j:Nat) t v,Tryz.f5.params[j]? = some t→args[j]? = some v→Value.okWide Tryz.prog W .any base t v)
  (hW:DataW.Whole enc Tryz.prog Tryz.f5.params.toList Rows.spotTurnSpec.vars false W args.toList ds gs before)
  (hsz:(DataW.weightsEach Tryz.prog (Tryz.f5.params.toList++Rows.spotTurnSpec.plain.varTypes Tryz.prog) (ds++gs)).all (· ≤ reachBytes)=true) :
  Calls Tryz.prog 5 args W fun e W'=>∃v,e=.returned v∧Rows.spotTurnSpec.post enc Tryz.prog Tryz.f5 false true false false W args v W':=by
 have hW':=hW
 obtain ⟨p,q,hA0,hV,rfl,hfz,hnd⟩:=hW
 have hA:DataW.TrodAll enc Tryz.prog W 0 (fun _=>true) true Tryz.f5.params.toList args.toList ds p:=hA0
 rw [Tryz.params5]at hA hval
 obtain ⟨v0,vs0,d0,ds0,p0,q0,hargs,rfl,rfl,h0,r0⟩:=trodAll_cons hA
 obtain ⟨v1,vs1,d1,ds1,p1,q1,rfl,rfl,rfl,h1,r1⟩:=trodAll_cons r0
 obtain ⟨rfl,rfl,rfl⟩:=trodAll_nil r1
 obtain rfl:args = #[v0,v1]:=by cases args;simp_all
 obtain ⟨rfl,rfl⟩:=trodVars_none hV
 obtain ⟨es,hrel,hshp,hlen,hcase⟩:=arg_row (f:=4) Tryz.underlying35 turnSupp (hval 0 35 v0 rfl rfl) h0
 obtain ⟨l,rfl,hlim⟩:=shp_cells (f:=0) turnCell hshp
 obtain ⟨n,rfl,rfl,rfl,wn⟩:=open_int Tryz.underlying5 (hval 1 5 v1 rfl rfl) h1
 obtain ⟨t,rfl,ht⟩:∃t:Nat,n=(t:Int)∧t<256:=by
  have h:IntKind.u8.min≤n∧n≤IntKind.u8.max:=by simpa [Lit.wf]using wn
  have h1:IntKind.u8.min=0:=rfl
  have h2:IntKind.u8.max=255:=rfl
  exact ⟨n.toNat,by omega,by omega⟩
 have z2:l.length<1152921504606846976:=by
  rcases hcase with h | ⟨elems,spare,rfl,h⟩
  ·have:=congrArg List.length h;simp at this;subst this;decide
  ·have h3:=sized_slice hsz (j:=0) (t:=35) rfl rfl Tryz.underlying35
   have h4:0<Tryz.prog.bytesOf 48:=by decide +kernel
   have h5:=Nat.le_mul_of_pos_right (elems.length+spare.length) h4
   have h6:=reachBytes_lt
   simp at h
   omega
 refine (calls_law HU Tryz.func5 (by kernel_rfl) (by kernel_rfl) (args:=[.sl (enL cRC l) .no,.int .u8 (t:Int)]) (fun _ _ h=>nomatch h) ?_ ?_ (spot_turn_ok ht [] z2 hlim)).mono fun e W' ⟨he,hB⟩=>?_
 ·exact fun g cs hg=>by cases hg
 ·exact .cons hrel (.cons (.int _ _) (.nil _))
 ·subst he
  exact ⟨_,rfl,post_law hW' turnLaidOut (by kernel_rfl) hB rfl (by kernel_rfl) Tryz.underlying4 rfl rfl rfl⟩
set_option maxRecDepth 100000 in
theorem spotTurn_lifted (os:Os) (started:os.Started) (H:Type) (enc:TypeId×Value→H) :
  ReturnsInHanded {} Tryz.checked os 5 .any (Rows.spotTurnSpec.pre6 enc Tryz.prog Tryz.f5 Rows.spotTurnRow.domain false) (Rows.spotTurnSpec.post enc Tryz.prog Tryz.f5 false true false false):=by
 refine returnsInHanded_of_change_sized (C:=Tryz.checked) turnOwn started (by kernel_rfl) Tryz.func5
  (ChangeSpec.witness6 (enc:=enc) (C:=Tryz.checked) false ⟨#[],#[.slice none 0 0,.int .u8 0],[]⟩ 8 (by kernel_rfl) (by kernel_rfl) (by kernel_rfl) (by kernel_rfl)) ?_
 intro W base args ds gs before hval hW _ hsz _
 exact spotTurn_contract H enc W base args ds gs before hval hW hsz
theorem spotTurn_holds:Rows.SpotTurnSaid:=
 OpenClaim.holds_of_wide 5 Tryz.f5 rfl rfl rfl rfl rfl rfl rfl ⟨rfl,rfl,rfl,rfl,rfl⟩ rfl rfl rfl rfl rfl (by kernel_rfl) Tryz.func5 (by kernel_rfl)
  (of_decide_eq_true (by kernel_rfl)) (by unfold Func.isWrapper;first | (rw [if_pos (by decide +kernel)];kernel_rfl) | (rw [if_neg (by decide +kernel)];exact ⟨rfl,rfl⟩))
  (fun os started H enc _=>spotTurn_lifted os started H enc)
end Go.Proofs.YtagddbecnkbcdaaGreat
