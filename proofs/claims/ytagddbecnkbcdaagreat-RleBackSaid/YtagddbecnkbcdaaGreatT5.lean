/- RleBack. -/
import Derived.Test.YtagddbecnkbcdaaGreatJ3
import Derived.Test.YtagddbecnkbcdaaGreatJ7
import Derived.Test.YtagddbecnkbcdaaGreatJ9
import Derived.Test.YtagddbecnkbcdaaGreatRows
import Derived.SizedLaws
import Derived.Lib.SmallJoins
set_option linter.all false
namespace Go.Proofs.YtagddbecnkbcdaaGreat
open Go.ChangeShapes Go.WideShapes Go.ChangeAt Go.RowKit Go.Gm Go.Joins
open Go.ChangeMaps (open_string shut_string)
theorem backOwn:ownKnob Tryz.prog.godebug=none:=by kernel_rfl
theorem bkL:laidOutB Tryz.prog=true:=by kernel_rfl
theorem bsr (E:Env)(s:ByteArray):Az E (.str s.data.toList) (.string s):=by
 have:s=⟨s.data.toList.toArray⟩:=by cases s;simp
 rw[this];exact .str _
theorem backBig:VjF Tryz.prog 46:=⟨_,_,_,Tryz.underlying46,Tryz.underlying4,Tryz.underlying44,Tryz.underlying96⟩
theorem backCell:Vhq Tryz.prog 48:=⟨_,_,_,Tryz.underlying48,backBig,backBig,Tryz.underlying5⟩
theorem backSupp:RY Tryz.prog 5 35=true:=by kernel_rfl
set_option maxRecDepth 100000 in
theorem rbC (H:Type)(enc:TypeId×Value→H)(W:World)(base:Nat)(args:Array Value)(ds gs:List (DataW H))(before:List MemPlace)
  (bJ:∀(j:Nat) t v,Tryz.f10.params[j]? = some t→args[j]? = some v→Value.okWide Tryz.prog W .any base t v)
  (hW:DataW.Whole enc Tryz.prog Tryz.f10.params.toList Rows.rleBackSpec.vars false W args.toList ds gs before)
  (hsz:(DataW.weightsEach Tryz.prog (Tryz.f10.params.toList++Rows.rleBackSpec.plain.varTypes Tryz.prog) (ds++gs)).all (· ≤ reachBytes)=true) :
  Calls Tryz.prog 10 args W fun e W'=>∃v,e=.returned v∧Rows.rleBackSpec.post enc Tryz.prog Tryz.f10 false true false false W args v W':=by
 have hW':=hW
 obtain⟨p,q,hA0,hV,rfl,hfz,dS⟩:=hW
 have hA:DataW.TrodAll enc Tryz.prog W 0 (fun _=>true) true Tryz.f10.params.toList args.toList ds p:=hA0
 rw[Tryz.params10]at hA bJ
 obtain⟨v0,vs0,d0,ds0,p0,q0,eD,rfl,rfl,h0,r0⟩:=trodAll_cons hA
 obtain⟨v1,vs1,d1,ds1,p1,q1,rfl,rfl,rfl,h1,r1⟩:=trodAll_cons r0
 obtain⟨rfl,rfl,rfl⟩:=trodAll_nil r1
 obtain rfl:args = #[v0,v1]:=by cases args;simp_all
 obtain⟨rfl,rfl⟩:=trodVars_none hV
 obtain⟨b,rfl,rfl,rfl,hmax⟩:=open_string Tryz.underlying9 (bJ 0 9 v0 rfl rfl) h0
 obtain⟨es,hrel,uM,hlen,hcase⟩:=Vm0 (f:=4) Tryz.underlying35 backSupp (bJ 1 35 v1 rfl rfl) h1
 obtain⟨l,rfl,hlim⟩:=VeC (f:=0) backCell uM
 have z1:b.data.toList.length≤reachBytes:=sized_string hsz (j:=0) (t:=9) rfl rfl
 have z2:l.length<1152921504606846976:=by
  rcases hcase with h | ⟨elems,spare,rfl,h⟩
  ·have:=congrArg List.length h;simp at this;subst this;decide
  ·have h3:=sized_slice hsz (j:=1) (t:=35) rfl rfl Tryz.underlying35
   have h4:0<Tryz.prog.bytesOf 48:=by decide +kernel
   have h5:=Nat.le_mul_of_pos_right (elems.length+spare.length) h4
   have h6:=reachBytes_lt
   simp at h
   omega
 have z3:b.data.toList.length<1152921504606846976:=by have:=reachBytes_lt;omega
 refine (VgT Kf Tryz.func10 (by kernel_rfl) (by kernel_rfl) (args:=[.str b.data.toList,.sl (enL cRC l) .no]) (fun _ _ h=>nomatch h) ?_ ?_ (VaJ [] z3 z2 hlim)).mono fun e W' ⟨he,hB⟩=>?_
 ·exact fun g cs hg=>by cases hg
 ·exact .cons (bsr _ b) (.cons hrel (.nil _))
 ·subst he
  exact⟨_,rfl,Viq hW' bkL (by kernel_rfl) hB rfl (by kernel_rfl) Tryz.underlying4 rfl rfl rfl⟩
set_option maxRecDepth 100000 in
theorem rbL (os:Os)(started:os.Started)(H:Type)(enc:TypeId×Value→H) :
  ReturnsInHanded {} Tryz.checked os 10 .any (Rows.rleBackSpec.pre6 enc Tryz.prog Tryz.f10 Rows.rleBackRow.domain false) (Rows.rleBackSpec.post enc Tryz.prog Tryz.f10 false true false false):=by
 refine returnsInHanded_of_change_sized (C:=Tryz.checked) backOwn started (by kernel_rfl) Tryz.func10
  (ChangeSpec.witness6 (enc:=enc) (C:=Tryz.checked) false ⟨#[],#[.string .empty,.slice none 0 0],[]⟩ 8 (by kernel_rfl) (by kernel_rfl) (by kernel_rfl) (by kernel_rfl)) ?_
 intro W base args ds gs before bJ hW _ hsz _
 exact rbC H enc W base args ds gs before bJ hW hsz
theorem rleBack_holds:Rows.RleBackSaid:=
 OpenClaim.holds_of_wide 10 Tryz.f10 rfl rfl rfl rfl rfl rfl rfl ⟨rfl,rfl,rfl,rfl,rfl⟩ rfl rfl rfl rfl rfl (by kernel_rfl) Tryz.func10 (by kernel_rfl)
  (of_decide_eq_true (by kernel_rfl)) (by unfold Func.isWrapper;first | (rw[if_pos (by decide +kernel)];kernel_rfl) | (rw[if_neg (by decide +kernel)];exact⟨rfl,rfl⟩))
  (fun os started H enc _=>rbL os started H enc)
end Go.Proofs.YtagddbecnkbcdaaGreat
