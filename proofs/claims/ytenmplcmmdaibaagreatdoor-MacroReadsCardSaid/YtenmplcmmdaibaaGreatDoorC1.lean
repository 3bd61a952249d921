/- The pattern of any bytes, or where and why there is none, is the document's: for every input, in every world in which the listed tables hold what the program's text lays. -/
import Derived.Test.YtenmplcmmdaibaaGreatDoorJ4
import Derived.Test.YtenmplcmmdaibaaGreatDoorJ7
set_option linter.unusedVariables false
set_option linter.unusedSimpArgs false
namespace Go.Proofs.YtenmplcmmdaibaaGreatDoor
open Go.ChangeShapes Go.WideShapes Go.ChangeAt Go.RowKit Go.Gm
open Go.ChangeMaps (open_string shut_string)
set_option maxRecDepth 100000 in
theorem macroReads_contract (H : Type) (enc : TypeId × Value → H) (W : World) (base : Nat) (args : Array Value) (ds gs : List (DataW H)) (before : List MemPlace)
  (hval : ∀ (j : Nat) t v, Tryz.f3.params[j]? = some t → args[j]? = some v → Value.okWide Tryz.prog W .any base t v)
  (hW : DataW.Whole enc Tryz.prog Tryz.f3.params.toList Rows.macroReadsSpec.vars false W args.toList ds gs before) (hL : laidMetH Tryz.prog Nz W) :
  Calls Tryz.prog 3 args W fun e W' => ∃ v, e = .returned v ∧ Rows.macroReadsSpec.post enc Tryz.prog Tryz.f3 false true false false W args v W' := by
 have hW' := hW
 obtain ⟨p, q, hA0, hV, rfl, hfz, hnd⟩ := hW
 have hA : DataW.TrodAll enc Tryz.prog W 0 (fun _ => true) true Tryz.f3.params.toList args.toList ds p := hA0
 rw [Tryz.params3] at hA hval
 obtain ⟨v0, vs0, d0, ds0, p0, q0, hargs, rfl, rfl, h0, r0⟩ := trodAll_cons hA
 obtain ⟨v1, vs1, d1, ds1, p1, q1, rfl, rfl, rfl, h1, r1⟩ := trodAll_cons r0
 obtain ⟨rfl, rfl, rfl⟩ := trodAll_nil r1
 obtain rfl : args = #[v0, v1] := by cases args; simp_all
 obtain ⟨rfl, rfl⟩ := trodVars_none hV
 obtain ⟨b0, rfl, rfl, rfl, hmax0⟩ := open_string Tryz.underlying9 (hval 0 9 v0 rfl rfl) h0
 obtain ⟨vas1, rel1, shp1⟩ := arg_agg (f := 2) limSupp (hval 1 23 v1 rfl rfl) h1 (by rw [Tryz.underlying23])
 obtain ⟨a1, c1, rfl, wa1, wc1⟩ := shp_two (f := 0) Tryz.underlying23 Tryz.underlying3 Tryz.underlying3 shp1
 refine (calls_law FR Tryz.func3 (by kernel_rfl) (by kernel_rfl) (args := [.str b0.data.toList, .agg [.int .i64 a1, .int .i64 c1]]) (fixed hL) ?_ ?_ (reads_ok _ _ [])).mono fun e W' ⟨he, hB⟩ => ?_
 ·exact fun g cs hg => by cases hg
 ·exact .cons (str_rel _ b0) (.cons rel1 (.nil _))
 ·subst he
  exact ⟨_, rfl, post_law hW' laidOut (by kernel_rfl) hB rfl (by kernel_rfl) Tryz.underlying4 rfl rfl rfl⟩
theorem macroReads_reads (os : Os) {H : Type} (enc : TypeId × Value → H) : ∃ places, DataW.whole enc Tryz.prog ((Oy os).forCall (fun _ _ => 0) ⟨#[], #[.string .empty, .agg #[.int .i64 0, .int .i64 0]], []⟩).memory Tryz.f3.params.toList Rows.macroReadsSpec.vars false (#[.string .empty, .agg #[.int .i64 0, .int .i64 0]] : Array Value).toList 8 = some ([.lit (.string []), .agg [.lit (.int .i64 0), .lit (.int .i64 0)]], [], places) :=
 ⟨[], by kernel_rfl⟩
set_option maxRecDepth 100000 in
theorem macroReads_lifted (os : Os) (started : os.Started) (H : Type) (enc : TypeId × Value → H) (F : Stop.Interp) :
  ReturnsInHanded {} Tryz.checked os 3 .any ((OpenSpec.ofChange Rows.macroReadsSpec).preRow enc Tryz.prog Tryz.f3 Rows.macroReadsRow.domain false Rows.macroReadsRow.laid) (((OpenSpec.ofChange Rows.macroReadsSpec).at F).post enc Tryz.prog Tryz.f3 false true false false) := by
 obtain ⟨places, hx⟩ := macroReads_reads os enc
 refine returnsInHanded_of_row (C := Tryz.checked) (s := OpenSpec.ofChange Rows.macroReadsSpec) own started (by kernel_rfl) Tryz.func3
  (witness_row_at (enc := enc) (C := Tryz.checked) false (Oy os) #[.string .empty, .agg #[.int .i64 0, .int .i64 0]] rfl (by kernel_rfl) (by kernel_rfl) (by kernel_rfl)
   (OpenSpec.preRow_of_cond 8 hx (by kernel_rfl) (fun k hk => by cases hk) (by kernel_rfl) (laid_met os _))) ?_
 intro W base args ds gs before hval hW _ _ _ hL _ _
 exact macroReads_contract H enc W base args ds gs before hval hW hL
theorem macroReads_said : Rows.MacroReadsSaid :=
 OpenClaim.holds_of_cond 3 Tryz.f3 rfl rfl rfl rfl rfl rfl rfl ⟨rfl, rfl, rfl, rfl, rfl⟩ rfl rfl rfl rfl rfl (by kernel_rfl) Tryz.func3 (by kernel_rfl)
  (of_decide_eq_true (by kernel_rfl)) (by unfold Func.isWrapper; first | (rw [if_pos (by decide +kernel)]; kernel_rfl) | (rw [if_neg (by decide +kernel)]; exact ⟨rfl, rfl⟩))
  (fun os started H enc _ F => by rw [OpenClaim.pre_eq_preRow]; exact macroReads_lifted os started H enc F)
theorem macroReads_plain (f : FuncId) (fn : Func) (hf : Tryz.pinned.checked.prog.funcNamed "glider/gliderlaw19.MacroReads" = some f) (hfn : Tryz.pinned.checked.prog.funcs[f]? = some fn) :
  true = Tryz.pinned.checked.prog.looks [] ∧ ∀ (j : Nat) t, fn.params[j]? = some t → Tryz.pinned.checked.prog.wantsStandIn t = false := by
 obtain rfl : f = 3 := Option.some.inj ((show Tryz.prog.funcNamed "glider/gliderlaw19.MacroReads" = some 3 by kernel_rfl).symm.trans hf) |>.symm
 obtain rfl : fn = Tryz.f3 := (Option.some.inj (Tryz.func3.symm.trans hfn)).symm
 refine ⟨by kernel_rfl, fun j t ht => ?_⟩
 rw [Tryz.params3] at ht
 have hm : t = 9 ∨ t = 23 := by have := Array.mem_of_getElem? ht; simpa using this
 rcases hm with rfl | rfl
 ·exact (show Tryz.prog.wantsStandIn 9 = false by kernel_rfl)
 ·exact (show Tryz.prog.wantsStandIn 23 = false by kernel_rfl)
theorem macroReads_holds : Rows.MacroReadsCardSaid :=
 Claim7.holds_tied_plain_at .later [] _ _ _ _ macroReads_said (fun _ h => by cases h) (by kernel_rfl) (fun _ h => by cases h) macroReads_row_tie rfl ⟨rfl, rfl⟩ (by kernel_rfl) rfl macroReads_plain (by kernel_rfl)
end Go.Proofs.YtenmplcmmdaibaaGreatDoor
