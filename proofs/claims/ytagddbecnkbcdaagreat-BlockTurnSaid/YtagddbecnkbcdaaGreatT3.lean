/- BlockTurn: blocks in another order, and twice, are the same pattern: for every two rows of cells, with no condition. -/
import Derived.Test.YtagddbecnkbcdaaGreatJ3
import Derived.Test.YtagddbecnkbcdaaGreatJ7
import Derived.Test.YtagddbecnkbcdaaGreatJ8
import Derived.Test.YtagddbecnkbcdaaGreatRows
import Derived.SizedLaws
import Derived.Lib.SmallJoins
set_option linter.all false
namespace Go.Proofs.YtagddbecnkbcdaaGreat
open Go.ChangeShapes Go.WideShapes Go.ChangeAt Go.RowKit Go.Gm Go.Joins
theorem turnOwn:ownKnob Tryz.prog.godebug=none:=by kernel_rfl
theorem turnLaidOut:laidOutB Tryz.prog=true:=by kernel_rfl
theorem turnBig:BigTy Tryz.prog 46:=⟨_,_,_,Tryz.underlying46,Tryz.underlying4,Tryz.underlying44,Tryz.underlying96⟩
theorem turnCell:CellTy Tryz.prog 48:=⟨_,_,_,Tryz.underlying48,turnBig,turnBig,Tryz.underlying5⟩
theorem turnSupp:Rk Tryz.prog 5 35=true:=by kernel_rfl
set_option maxRecDepth 100000 in
theorem blockTurn_contract (H:Type)(enc:TypeId×Value→H)(W:World)(base:Nat)(args:Array Value)(ds gs:List (DataW H))(before:List MemPlace)
  (bB:∀(j:Nat) t v,Tryz.f8.params[j]? = some t→args[j]? = some v→Value.okWide Tryz.prog W .any base t v)
  (hW:DataW.Whole enc Tryz.prog Tryz.f8.params.toList Rows.blockTurnSpec.vars false W args.toList ds gs before)
  (hsz:(DataW.weightsEach Tryz.prog (Tryz.f8.params.toList++Rows.blockTurnSpec.plain.varTypes Tryz.prog) (ds++gs)).all (· ≤ reachBytes)=true) :
  Calls Tryz.prog 8 args W fun e W'=>∃v,e=.returned v∧Rows.blockTurnSpec.post enc Tryz.prog Tryz.f8 false true false false W args v W':=by
 have hW':=hW
 obtain⟨p,q,hA0,hV,rfl,Zq,gO⟩:=hW
 have hA:DataW.TrodAll enc Tryz.prog W 0 (fun _=>true) true Tryz.f8.params.toList args.toList ds p:=hA0
 rw[Tryz.params8]at hA bB
 obtain⟨v0,vs0,d0,ds0,p0,q0,eB,rfl,rfl,h0,r0⟩:=trodAll_cons hA
 obtain⟨v1,vs1,d1,ds1,p1,q1,rfl,rfl,rfl,h1,r1⟩:=trodAll_cons r0
 obtain⟨rfl,rfl,rfl⟩:=trodAll_nil r1
 obtain rfl:args = #[v0,v1]:=by cases args;simp_all
 obtain⟨rfl,rfl⟩:=trodVars_none hV
 obtain⟨es,hrel,tX,hlen,hcase⟩:=arg_row (f:=4) Tryz.underlying35 turnSupp (bB 0 35 v0 rfl rfl) h0
 obtain⟨l,rfl,hlim⟩:=UD (f:=0) turnCell tX
 obtain⟨es',pX,pP,xJ,oE⟩:=arg_row (f:=4) Tryz.underlying35 turnSupp (bB 1 35 v1 rfl rfl) h1
 obtain⟨k,rfl,iH⟩:=UD (f:=0) turnCell pP
 have z2:l.length<1152921504606846976:=by
  rcases hcase with h | ⟨elems,spare,rfl,h⟩
  ·have:=congrArg List.length h;simp at this;subst this;decide
  ·have h3:=sized_slice hsz (j:=0) (t:=35) rfl rfl Tryz.underlying35
   have h4:0<Tryz.prog.bytesOf 48:=by decide +kernel
   have h5:=Nat.le_mul_of_pos_right (elems.length+spare.length) h4
   have h6:=reachBytes_lt
   simp at h
   omega
 have z3:k.length<1152921504606846976:=by
  rcases oE with h | ⟨elems,spare,rfl,h⟩
  ·have:=congrArg List.length h;simp at this;subst this;decide
  ·have h3:=sized_slice hsz (j:=1) (t:=35) rfl rfl Tryz.underlying35
   have h4:0<Tryz.prog.bytesOf 48:=by decide +kernel
   have h5:=Nat.le_mul_of_pos_right (elems.length+spare.length) h4
   have h6:=reachBytes_lt
   simp at h
   omega
 refine (calls_law Jj Tryz.func8 (by kernel_rfl) (by kernel_rfl) (args:=[.sl (enL cRC l) .no,.sl (enL cRC k) .no]) (fun _ _ h=>nomatch h) ?_ ?_ (Ut [] z2 hlim z3 iH)).mono fun e W' ⟨he,hB⟩=>?_
 ·exact fun g cs hg=>by cases hg
 ·exact .cons hrel (.cons pX (.nil _))
 ·subst he
  exact⟨_,rfl,post_law hW' turnLaidOut (by kernel_rfl) hB rfl (by kernel_rfl) Tryz.underlying4 rfl rfl rfl⟩
set_option maxRecDepth 100000 in
theorem blockTurn_lifted (os:Os)(started:os.Started)(H:Type)(enc:TypeId×Value→H) :
  ReturnsInHanded {} Tryz.checked os 8 .any (Rows.blockTurnSpec.pre6 enc Tryz.prog Tryz.f8 Rows.blockTurnRow.domain false) (Rows.blockTurnSpec.post enc Tryz.prog Tryz.f8 false true false false):=by
 refine returnsInHanded_of_change_sized (C:=Tryz.checked) turnOwn started (by kernel_rfl) Tryz.func8
  (ChangeSpec.witness6 (enc:=enc) (C:=Tryz.checked) false ⟨#[],#[.slice none 0 0,.slice none 0 0],[]⟩ 8 (by kernel_rfl) (by kernel_rfl) (by kernel_rfl) (by kernel_rfl)) ?_
 intro W base args ds gs before bB hW _ hsz _
 exact blockTurn_contract H enc W base args ds gs before bB hW hsz
theorem blockTurn_holds:Rows.BlockTurnSaid:=
 OpenClaim.holds_of_wide 8 Tryz.f8 rfl rfl rfl rfl rfl rfl rfl ⟨rfl,rfl,rfl,rfl,rfl⟩ rfl rfl rfl rfl rfl (by kernel_rfl) Tryz.func8 (by kernel_rfl)
  (of_decide_eq_true (by kernel_rfl)) (by unfold Func.isWrapper;first | (rw[if_pos (by decide +kernel)];kernel_rfl) | (rw[if_neg (by decide +kernel)];exact⟨rfl,rfl⟩))
  (fun os started H enc _=>blockTurn_lifted os started H enc)
end Go.Proofs.YtagddbecnkbcdaaGreat
