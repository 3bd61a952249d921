/- A number with the other sign has the same digits; one more digit is ten times as much, and it: for every input, in every world in which the listed tables hold what the program's text lays. -/
import Derived.Test.YtenmplcmmdaibaaDoorJ3
import Derived.Test.YtenmplcmmdaibaaDoorJ4
namespace Go.Proofs.YtenmplcmmdaibaaDoor
open Go.ChangeShapes Go.WideShapes Go.ChangeAt Go.RowKit Go.Gm
open Go.ChangeMaps (open_string shut_string)
set_option linter.unusedVariables false
set_option maxRecDepth 100000 in
theorem decSigns_contract (H : Type) (enc : TypeId × Value → H) (W : World) (base : Nat) (args : Array Value) (ds gs : List (DataW H)) (before : List MemPlace)
    (hval : ∀ (j : Nat) t v, Tryd.f6.params[j]? = some t → args[j]? = some v → Value.okWide Tryd.prog W .any base t v)
    (hW : DataW.Whole enc Tryd.prog Tryd.f6.params.toList Rows.decSignsSpec.vars false W args.toList ds gs before) (hL : laidMetH Tryd.prog theLaid W) :
    Calls Tryd.prog 6 args W fun e W' => ∃ v, e = .returned v ∧ Rows.decSignsSpec.post enc Tryd.prog Tryd.f6 false true false false W args v W' := by
  have hW' := hW
  obtain ⟨p, q, hA0, hV, rfl, hfz, hnd⟩ := hW
  have hA : DataW.TrodAll enc Tryd.prog W 0 (fun _ => true) true Tryd.f6.params.toList args.toList ds p := hA0
  rw [Tryd.params6] at hA hval
  obtain ⟨v0, vs0, d0, ds0, p0, q0, hargs, rfl, rfl, h0, r0⟩ := trodAll_cons hA
  obtain ⟨v1, vs1, d1, ds1, p1, q1, rfl, rfl, rfl, h1, r1⟩ := trodAll_cons r0
  obtain ⟨rfl, rfl, rfl⟩ := trodAll_nil r1
  obtain rfl : args = #[v0, v1] := by cases args; simp_all
  obtain ⟨rfl, rfl⟩ := trodVars_none hV
  obtain ⟨vas0, rel0, shp0⟩ := arg_agg (f := 3) bigSupp (hval 0 24 v0 rfl rfl) h0 (by rw [Tryd.underlying24])
  obtain ⟨n0, l0, rfl, lim0⟩ := shp_big (f := 0) bigTy shp0
  obtain ⟨z1, rfl, rfl, rfl, w1⟩ := open_int Tryd.underlying5 (hval 1 5 v1 rfl rfl) h1
  obtain ⟨n1, rfl, m1⟩ := nat_u8 w1
  refine (calls_law call_gliderlaw03_DecSigns Tryd.func6 (by kernel_rfl) (by kernel_rfl) (args := [.agg [.bool n0, .sl (enL cU l0) .no], .int .u8 (n1 : Int)]) (fixed hL) ?_ ?_ (signs_ok [] lim0 m1)).mono fun e W' ⟨he, hB⟩ => ?_
  · exact fun g cs hg => by cases hg
  · exact .cons rel0 (.cons (.int _ _) (.nil _))
  · subst he
    exact ⟨_, rfl, post_law hW' laidOut (by kernel_rfl) hB rfl (by kernel_rfl) Tryd.underlying4 rfl rfl rfl⟩
theorem decSigns_reads (os : Os) {H : Type} (enc : TypeId × Value → H) : ∃ places, DataW.whole enc Tryd.prog ((laidWorld os).forCall (fun _ _ => 0) ⟨#[], #[.agg #[.bool false, .slice none 0 0], .int .u8 0], []⟩).memory Tryd.f6.params.toList Rows.decSignsSpec.vars false (#[.agg #[.bool false, .slice none 0 0], .int .u8 0] : Array Value).toList 8 = some ([.agg [.lit (.bool false), .nil], .lit (.int .u8 0)], [], places) :=
  ⟨[], by kernel_rfl⟩
set_option maxRecDepth 100000 in
theorem decSigns_lifted (os : Os) (started : os.Started) (H : Type) (enc : TypeId × Value → H) (F : Stop.Interp) :
    ReturnsInHanded {} Tryd.checked os 6 .any ((OpenSpec.ofChange Rows.decSignsSpec).preRow enc Tryd.prog Tryd.f6 Rows.decSignsRow.domain false Rows.decSignsRow.laid) (((OpenSpec.ofChange Rows.decSignsSpec).at F).post enc Tryd.prog Tryd.f6 false true false false) := by
  obtain ⟨places, hx⟩ := decSigns_reads os enc
  refine returnsInHanded_of_row (C := Tryd.checked) (s := OpenSpec.ofChange Rows.decSignsSpec) own started (by kernel_rfl) Tryd.func6
    (witness_row_at (enc := enc) (C := Tryd.checked) false (laidWorld os) #[.agg #[.bool false, .slice none 0 0], .int .u8 0] rfl (by kernel_rfl) (by kernel_rfl) (by kernel_rfl)
      (OpenSpec.preRow_of_cond 8 hx (by kernel_rfl) (fun k hk => by cases hk) (by kernel_rfl) (laid_met os _))) ?_
  intro W base args ds gs before hval hW _ _ _ hL _ _
  exact decSigns_contract H enc W base args ds gs before hval hW hL
theorem decSigns_said : Rows.DecSignsSaid :=
  OpenClaim.holds_of_cond 6 Tryd.f6 rfl rfl rfl rfl rfl rfl rfl ⟨rfl, rfl, rfl, rfl, rfl⟩ rfl rfl rfl rfl rfl (by kernel_rfl) Tryd.func6 (by kernel_rfl)
    (of_decide_eq_true (by kernel_rfl)) (by unfold Func.isWrapper; first | (rw [if_pos (by decide +kernel)]; kernel_rfl) | (rw [if_neg (by decide +kernel)]; exact ⟨rfl, rfl⟩))
    (fun os started H enc _ F => by rw [OpenClaim.pre_eq_preRow]; exact decSigns_lifted os started H enc F)
theorem decSigns_plain (f : FuncId) (fn : Func) (hf : Tryd.pinned.checked.prog.funcNamed "glider/gliderlaw03.DecSigns" = some f) (hfn : Tryd.pinned.checked.prog.funcs[f]? = some fn) :
    false = Tryd.pinned.checked.prog.looks [] ∧ ∀ (j : Nat) t, fn.params[j]? = some t → Tryd.pinned.checked.prog.wantsStandIn t = false := by
  obtain rfl : f = 6 := Option.some.inj ((show Tryd.prog.funcNamed "glider/gliderlaw03.DecSigns" = some 6 by kernel_rfl).symm.trans hf) |>.symm
  obtain rfl : fn = Tryd.f6 := (Option.some.inj (Tryd.func6.symm.trans hfn)).symm
  refine ⟨by kernel_rfl, fun j t ht => ?_⟩
  rw [Tryd.params6] at ht
  have hm : t = 24 ∨ t = 5 := by have := Array.mem_of_getElem? ht; simpa using this
  rcases hm with rfl | rfl
  · exact (show Tryd.prog.wantsStandIn 24 = false by kernel_rfl)
  · exact (show Tryd.prog.wantsStandIn 5 = false by kernel_rfl)
/-- The statement. -/
theorem decSigns_holds : Rows.DecSignsCardSaid :=
  Claim7.holds_tied_plain_at .later [] _ _ _ _ decSigns_said (fun _ h => by cases h) (by kernel_rfl) (fun _ h => by cases h) decSigns_row_tie rfl ⟨rfl, rfl⟩ (by kernel_rfl) rfl decSigns_plain (by kernel_rfl)
end Go.Proofs.YtenmplcmmdaibaaDoor
