/- Remarks, line ends with a carriage return, and nodes that nobody names change nothing: for every input, in every world in which the listed tables hold what the program's text lays. -/
import Derived.Test.YtenmplcmmdaibaaGreatDoorJ4
import Derived.Test.YtenmplcmmdaibaaGreatDoorJ6
set_option linter.unusedVariables false
set_option linter.unusedSimpArgs false
namespace Go.Proofs.YtenmplcmmdaibaaGreatDoor
open Go.ChangeShapes Go.WideShapes Go.ChangeAt Go.RowKit Go.Gm
open Go.ChangeMaps (open_string shut_string)
set_option maxRecDepth 100000 in
theorem macroIdle_contract (H : Type) (enc : TypeId × Value → H) (W : World) (base : Nat) (args : Array Value) (ds gs : List (DataW H)) (before : List MemPlace)
  (hval : ∀ (j : Nat) t v, Tryz.f6.params[j]? = some t → args[j]? = some v → Value.okWide Tryz.prog W .any base t v)
  (hW : DataW.Whole enc Tryz.prog Tryz.f6.params.toList Rows.macroIdleSpec.vars false W args.toList ds gs before) (hL : laidMetH Tryz.prog Mb W) :
  Calls Tryz.prog 6 args W fun e W' => ∃ v, e = .returned v ∧ Rows.macroIdleSpec.post enc Tryz.prog Tryz.f6 false true false false W args v W' := by
 have hW' := hW
 obtain ⟨p, q, hA0, hV, rfl, hfz, hnd⟩ := hW
 have hA : DataW.TrodAll enc Tryz.prog W 0 (fun _ => true) true Tryz.f6.params.toList args.toList ds p := hA0
 rw [Tryz.params6] at hA hval
 obtain ⟨v0, vs0, d0, ds0, p0, q0, hargs, rfl, rfl, h0, r0⟩ := trodAll_cons hA
 obtain ⟨v1, vs1, d1, ds1, p1, q1, rfl, rfl, rfl, h1, r1⟩ := trodAll_cons r0
 obtain ⟨rfl, rfl, rfl⟩ := trodAll_nil r1
 obtain rfl : args = #[v0, v1] := by cases args; simp_all
 obtain ⟨rfl, rfl⟩ := trodVars_none hV
 obtain ⟨es0, rel0, shp0, len0, case0⟩ := arg_row (f := 3) Tryz.underlying25 ndsSupp (hval 0 25 v0 rfl rfl) h0
 obtain ⟨l0, rfl⟩ := shp_nds (f := 0) Tryz.underlying45 Tryz.underlying3 Tryz.underlying44 Tryz.underlying3 shp0
 obtain ⟨z1, rfl, rfl, rfl, w1⟩ := open_int Tryz.underlying5 (hval 1 5 v1 rfl rfl) h1
 obtain ⟨n1, rfl, m1⟩ := nat_u8 w1
 refine (calls_law FR Tryz.func6 (by kernel_rfl) (by kernel_rfl) (args := [.sl (enL cNd l0) .no, .int .u8 (n1 : Int)]) (fixed hL) ?_ ?_ (idle_ok m1 [])).mono fun e W' ⟨he, hB⟩ => ?_
 ·exact fun g cs hg => by cases hg
 ·exact .cons rel0 (.cons (.int _ _) (.nil _))
 ·subst he
  exact ⟨_, rfl, post_law hW' laidOut (by kernel_rfl) hB rfl (by kernel_rfl) Tryz.underlying4 rfl rfl rfl⟩
theorem macroIdle_reads (os : Os) {H : Type} (enc : TypeId × Value → H) : ∃ places, DataW.whole enc Tryz.prog ((Nj os).forCall (fun _ _ => 0) ⟨#[], #[.slice none 0 0, .int .u8 0], []⟩).memory Tryz.f6.params.toList Rows.macroIdleSpec.vars false (#[.slice none 0 0, .int .u8 0] : Array Value).toList 8 = some ([.nil, .lit (.int .u8 0)], [], places) :=
 ⟨[], by kernel_rfl⟩
set_option maxRecDepth 100000 in
theorem macroIdle_lifted (os : Os) (started : os.Started) (H : Type) (enc : TypeId × Value → H) (F : Stop.Interp) :
  ReturnsInHanded {} Tryz.checked os 6 .any ((OpenSpec.ofChange Rows.macroIdleSpec).preRow enc Tryz.prog Tryz.f6 Rows.macroIdleRow.domain false Rows.macroIdleRow.laid) (((OpenSpec.ofChange Rows.macroIdleSpec).at F).post enc Tryz.prog Tryz.f6 false true false false) := by
 obtain ⟨places, hx⟩ := macroIdle_reads os enc
 refine returnsInHanded_of_row (C := Tryz.checked) (s := OpenSpec.ofChange Rows.macroIdleSpec) own started (by kernel_rfl) Tryz.func6
  (witness_row_at (enc := enc) (C := Tryz.checked) false (Nj os) #[.slice none 0 0, .int .u8 0] rfl (by kernel_rfl) (by kernel_rfl) (by kernel_rfl)
   (OpenSpec.preRow_of_cond 8 hx (by kernel_rfl) (fun k hk => by cases hk) (by kernel_rfl) (laid_met os _))) ?_
 intro W base args ds gs before hval hW _ _ _ hL _ _
 exact macroIdle_contract H enc W base args ds gs before hval hW hL
theorem macroIdle_said : Rows.MacroIdleSaid :=
 OpenClaim.holds_of_cond 6 Tryz.f6 rfl rfl rfl rfl rfl rfl rfl ⟨rfl, rfl, rfl, rfl, rfl⟩ rfl rfl rfl rfl rfl (by kernel_rfl) Tryz.func6 (by kernel_rfl)
  (of_decide_eq_true (by kernel_rfl)) (by unfold Func.isWrapper; first | (rw [if_pos (by decide +kernel)]; kernel_rfl) | (rw [if_neg (by decide +kernel)]; exact ⟨rfl, rfl⟩))
  (fun os started H enc _ F => by rw [OpenClaim.pre_eq_preRow]; exact macroIdle_lifted os started H enc F)
theorem macroIdle_plain (f : FuncId) (fn : Func) (hf : Tryz.pinned.checked.prog.funcNamed "glider/gliderlaw19.MacroIdle" = some f) (hfn : Tryz.pinned.checked.prog.funcs[f]? = some fn) :
  true = Tryz.pinned.checked.prog.looks [] ∧ ∀ (j : Nat) t, fn.params[j]? = some t → Tryz.pinned.checked.prog.wantsStandIn t = false := by
 obtain rfl : f = 6 := Option.some.inj ((show Tryz.prog.funcNamed "glider/gliderlaw19.MacroIdle" = some 6 by kernel_rfl).symm.trans hf) |>.symm
 obtain rfl : fn = Tryz.f6 := (Option.some.inj (Tryz.func6.symm.trans hfn)).symm
 refine ⟨by kernel_rfl, fun j t ht => ?_⟩
 rw [Tryz.params6] at ht
 have hm : t = 25 ∨ t = 5 := by have := Array.mem_of_getElem? ht; simpa using this
 rcases hm with rfl | rfl
 ·exact (show Tryz.prog.wantsStandIn 25 = false by kernel_rfl)
 ·exact (show Tryz.prog.wantsStandIn 5 = false by kernel_rfl)
theorem macroIdle_holds : Rows.MacroIdleCardSaid :=
 Claim7.holds_tied_plain_at .later [] _ _ _ _ macroIdle_said (fun _ h => by cases h) (by kernel_rfl) (fun _ h => by cases h) macroIdle_row_tie rfl ⟨rfl, rfl⟩ (by kernel_rfl) rfl macroIdle_plain (by kernel_rfl)
end Go.Proofs.YtenmplcmmdaibaaGreatDoor
