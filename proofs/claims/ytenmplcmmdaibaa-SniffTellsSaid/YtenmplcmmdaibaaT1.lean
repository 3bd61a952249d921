/- SniffTells: the format that any bytes tell of, its name, and the format of a name, are the document's: for every text and every whole number, with no condition. -/
import Derived.Test.YtenmplcmmdaibaaRows
import Derived.Test.YtenmplcmmdaibaaTi
import Derived.Test.YtenmplcmmdaibaaL3
import Derived.Test.YtenmplcmmdaibaaGmK
namespace Go.Proofs.Ytenmplcmmdaibaa
open Go.ChangeShapes Go.WideShapes Go.ChangeAt Go.RowKit Go.Gm
open Go.ChangeMaps (open_string shut_string)
theorem tellsOwn : ownKnob Try.prog.godebug = none := by kernel_rfl
theorem tellsLaidOut : laidOutB Try.prog = true := by kernel_rfl
theorem str_rel (E : Env) (s : ByteArray) : VRel E (.str s.data.toList) (.string s) := by
  have : s = ⟨s.data.toList.toArray⟩ := by cases s; simp
  rw [this]; exact .str _
set_option maxRecDepth 100000 in
theorem sniffTells_contract (H : Type) (enc : TypeId × Value → H) (W : World) (base : Nat) (args : Array Value) (ds gs : List (DataW H)) (before : List MemPlace)
    (hval : ∀ (j : Nat) t v, Try.f3.params[j]? = some t → args[j]? = some v → Value.okWide Try.prog W .any base t v)
    (hW : DataW.Whole enc Try.prog Try.f3.params.toList Rows.sniffTellsSpec.vars false W args.toList ds gs before) :
    Calls Try.prog 3 args W fun e W' => ∃ v, e = .returned v ∧ Rows.sniffTellsSpec.post enc Try.prog Try.f3 false true false false W args v W' := by
  have hW' := hW
  obtain ⟨p, q, hA0, hV, rfl, hfz, hnd⟩ := hW
  have hA : DataW.TrodAll enc Try.prog W 0 (fun _ => true) true Try.f3.params.toList args.toList ds p := hA0
  rw [Try.params3] at hA hval
  obtain ⟨v0, vs0, d0, ds0, p0, q0, hargs, rfl, rfl, h0, r0⟩ := trodAll_cons hA
  obtain ⟨v1, vs1, d1, ds1, p1, q1, rfl, rfl, rfl, h1, r1⟩ := trodAll_cons r0
  obtain ⟨rfl, rfl, rfl⟩ := trodAll_nil r1
  obtain rfl : args = #[v0, v1] := by cases args; simp_all
  obtain ⟨rfl, rfl⟩ := trodVars_none hV
  obtain ⟨b, rfl, rfl, rfl, hmax⟩ := open_string Try.underlying9 (hval 0 9 v0 rfl rfl) h0
  obtain ⟨n, rfl, rfl, rfl, wn⟩ := open_int Try.underlying3 (hval 1 3 v1 rfl rfl) h1
  refine (calls_law call_gliderlaw20_SniffTells Try.func3 (by kernel_rfl) (by kernel_rfl) (args := [.str b.data.toList, .int .i64 n]) ?_ (tells_ok _ n [])).mono fun e W' ⟨he, hB⟩ => ?_
  · exact .cons (str_rel _ b) (.cons (.int _ _) (.nil _))
  · subst he
    exact ⟨_, rfl, post_law hW' tellsLaidOut (by kernel_rfl) hB rfl (by kernel_rfl) Try.underlying4 rfl rfl rfl⟩
set_option maxRecDepth 100000 in
theorem sniffTells_lifted (os : Os) (started : os.Started) (H : Type) (enc : TypeId × Value → H) :
    ReturnsInHanded {} Try.checked os 3 .any (Rows.sniffTellsSpec.pre6 enc Try.prog Try.f3 Rows.sniffTellsRow.domain false) (Rows.sniffTellsSpec.post enc Try.prog Try.f3 false true false false) := by
  refine returnsInHanded_of_change (C := Try.checked) tellsOwn started (by kernel_rfl) Try.func3
    (ChangeSpec.witness6 (enc := enc) (C := Try.checked) false ⟨#[], #[.string .empty, .int .i64 0], []⟩ 8 (by kernel_rfl) (by kernel_rfl) (by kernel_rfl) (by kernel_rfl)) ?_
  intro W base args ds gs before hval hW _ _
  exact sniffTells_contract H enc W base args ds gs before hval hW
/-- The statement. -/
theorem sniffTells_holds : Rows.SniffTellsSaid :=
  OpenClaim.holds_of_wide 3 Try.f3 rfl rfl rfl rfl rfl rfl rfl ⟨rfl, rfl, rfl, rfl, rfl⟩ rfl rfl rfl rfl rfl (by kernel_rfl) Try.func3 (by kernel_rfl)
    (of_decide_eq_true (by kernel_rfl)) (by unfold Func.isWrapper; first | (rw [if_pos (by decide +kernel)]; kernel_rfl) | (rw [if_neg (by decide +kernel)]; exact ⟨rfl, rfl⟩))
    (fun os started H enc _ => sniffTells_lifted os started H enc)
end Go.Proofs.Ytenmplcmmdaibaa
