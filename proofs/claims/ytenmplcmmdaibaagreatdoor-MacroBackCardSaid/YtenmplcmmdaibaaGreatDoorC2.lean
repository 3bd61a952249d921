/- What is written is read just as it was: for every input, in every world in which the listed tables hold what the program's text lays. -/
import Derived.Test.YtenmplcmmdaibaaGreatDoorJ3
import Derived.Test.YtenmplcmmdaibaaGreatDoorJ6
set_option linter.unusedVariables false
set_option linter.unusedSimpArgs false
namespace Go.Proofs.YtenmplcmmdaibaaGreatDoor
open Go.ChangeShapes Go.WideShapes Go.ChangeAt Go.RowKit Go.Gm
open Go.ChangeMaps (open_string shut_string)
set_option maxRecDepth 100000 in
theorem macroBack_contract (H : Type) (enc : TypeId × Value → H) (W : World) (base : Nat) (args : Array Value) (ds gs : List (DataW H)) (before : List MemPlace)
  (hval : ∀ (j : Nat) t v, Tryz.f4.params[j]? = some t → args[j]? = some v → Value.okWide Tryz.prog W .any base t v)
  (hW : DataW.Whole enc Tryz.prog Tryz.f4.params.toList Rows.macroBackSpec.vars false W args.toList ds gs before) (hL : laidMetH Tryz.prog LZ W) :
  Calls Tryz.prog 4 args W fun e W' => ∃ v, e = .returned v ∧ Rows.macroBackSpec.post enc Tryz.prog Tryz.f4 false true false false W args v W' := by
 have hW' := hW
 obtain ⟨p, q, hA0, hV, rfl, hfz, hnd⟩ := hW
 have hA : DataW.TrodAll enc Tryz.prog W 0 (fun _ => true) true Tryz.f4.params.toList args.toList ds p := hA0
 rw [Tryz.params4] at hA hval
 obtain ⟨v0, vs0, d0, ds0, p0, q0, hargs, rfl, rfl, h0, r0⟩ := trodAll_cons hA
 obtain ⟨v1, vs1, d1, ds1, p1, q1, rfl, rfl, rfl, h1, r1⟩ := trodAll_cons r0
 obtain ⟨v2, vs2, d2, ds2, p2, q2, rfl, rfl, rfl, h2, r2⟩ := trodAll_cons r1
 obtain ⟨rfl, rfl, rfl⟩ := trodAll_nil r2
 obtain rfl : args = #[v0, v1, v2] := by cases args; simp_all
 obtain ⟨rfl, rfl⟩ := trodVars_none hV
 obtain ⟨b0, rfl, rfl, rfl, hmax0⟩ := open_string Tryz.underlying9 (hval 0 9 v0 rfl rfl) h0
 obtain ⟨es1, rel1, shp1, len1, case1⟩ := arg_row (f := 3) Tryz.underlying25 ndsSupp (hval 1 25 v1 rfl rfl) h1
 obtain ⟨l1, rfl⟩ := shp_nds (f := 0) Tryz.underlying45 Tryz.underlying3 Tryz.underlying44 Tryz.underlying3 shp1
 obtain ⟨n2, rfl, rfl, rfl, w2⟩ := open_int Tryz.underlying3 (hval 2 3 v2 rfl rfl) h2
 refine (calls_law FT Tryz.func4 (by kernel_rfl) (by kernel_rfl) (args := [.str b0.data.toList, .sl (enL cNd l1) .no, .int .i64 n2]) (fixed hL) ?_ ?_ (mback_ok [])).mono fun e W' ⟨he, hB⟩ => ?_
 ·exact fun g cs hg => by cases hg
 ·exact .cons (str_rel _ b0) (.cons rel1 (.cons (.int _ _) (.nil _)))
 ·subst he
  exact ⟨_, rfl, post_law hW' laidOut (by kernel_rfl) hB rfl (by kernel_rfl) Tryz.underlying4 rfl rfl rfl⟩
theorem macroBack_reads (os : Os) {H : Type} (enc : TypeId × Value → H) : ∃ places, DataW.whole enc Tryz.prog ((Nn os).forCall (fun _ _ => 0) ⟨#[], #[.string .empty, .slice none 0 0, .int .i64 0], []⟩).memory Tryz.f4.params.toList Rows.macroBackSpec.vars false (#[.string .empty, .slice none 0 0, .int .i64 0] : Array Value).toList 8 = some ([.lit (.string []), .nil, .lit (.int .i64 0)], [], places) :=
 ⟨[], by kernel_rfl⟩
set_option maxRecDepth 100000 in
theorem macroBack_lifted (os : Os) (started : os.Started) (H : Type) (enc : TypeId × Value → H) (F : Stop.Interp) :
  ReturnsInHanded {} Tryz.checked os 4 .any ((OpenSpec.ofChange Rows.macroBackSpec).preRow enc Tryz.prog Tryz.f4 Rows.macroBackRow.domain false Rows.macroBackRow.laid) (((OpenSpec.ofChange Rows.macroBackSpec).at F).post enc Tryz.prog Tryz.f4 false true false false) := by
 obtain ⟨places, hx⟩ := macroBack_reads os enc
 refine returnsInHanded_of_row (C := Tryz.checked) (s := OpenSpec.ofChange Rows.macroBackSpec) own started (by kernel_rfl) Tryz.func4
  (witness_row_at (enc := enc) (C := Tryz.checked) false (Nn os) #[.string .empty, .slice none 0 0, .int .i64 0] rfl (by kernel_rfl) (by kernel_rfl) (by kernel_rfl)
   (OpenSpec.preRow_of_cond 8 hx (by kernel_rfl) (fun k hk => by cases hk) (by kernel_rfl) (laid_met os _))) ?_
 intro W base args ds gs before hval hW _ _ _ hL _ _
 exact macroBack_contract H enc W base args ds gs before hval hW hL
theorem macroBack_said : Rows.MacroBackSaid :=
 OpenClaim.holds_of_cond 4 Tryz.f4 rfl rfl rfl rfl rfl rfl rfl ⟨rfl, rfl, rfl, rfl, rfl⟩ rfl rfl rfl rfl rfl (by kernel_rfl) Tryz.func4 (by kernel_rfl)
  (of_decide_eq_true (by kernel_rfl)) (by unfold Func.isWrapper; first | (rw [if_pos (by decide +kernel)]; kernel_rfl) | (rw [if_neg (by decide +kernel)]; exact ⟨rfl, rfl⟩))
  (fun os started H enc _ F => by rw [OpenClaim.pre_eq_preRow]; exact macroBack_lifted os started H enc F)
theorem macroBack_plain (f : FuncId) (fn : Func) (hf : Tryz.pinned.checked.prog.funcNamed "glider/gliderlaw19.MacroBack" = some f) (hfn : Tryz.pinned.checked.prog.funcs[f]? = some fn) :
  true = Tryz.pinned.checked.prog.looks [] ∧ ∀ (j : Nat) t, fn.params[j]? = some t → Tryz.pinned.checked.prog.wantsStandIn t = false := by
 obtain rfl : f = 4 := Option.some.inj ((show Tryz.prog.funcNamed "glider/gliderlaw19.MacroBack" = some 4 by kernel_rfl).symm.trans hf) |>.symm
 obtain rfl : fn = Tryz.f4 := (Option.some.inj (Tryz.func4.symm.trans hfn)).symm
 refine ⟨by kernel_rfl, fun j t ht => ?_⟩
 rw [Tryz.params4] at ht
 have hm : t = 9 ∨ t = 25 ∨ t = 3 := by have := Array.mem_of_getElem? ht; simpa using this
 rcases hm with rfl | rfl | rfl
 ·exact (show Tryz.prog.wantsStandIn 9 = false by kernel_rfl)
 ·exact (show Tryz.prog.wantsStandIn 25 = false by kernel_rfl)
 ·exact (show Tryz.prog.wantsStandIn 3 = false by kernel_rfl)
theorem macroBack_holds : Rows.MacroBackCardSaid :=
 Claim7.holds_tied_plain_at .later [] _ _ _ _ macroBack_said (fun _ h => by cases h) (by kernel_rfl) (fun _ h => by cases h) macroBack_row_tie rfl ⟨rfl, rfl⟩ (by kernel_rfl) rfl macroBack_plain (by kernel_rfl)
end Go.Proofs.YtenmplcmmdaibaaGreatDoor
