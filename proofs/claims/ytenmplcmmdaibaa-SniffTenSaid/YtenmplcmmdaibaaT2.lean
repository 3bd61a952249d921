/- SniffTen: whatever stands behind ten bytes changes nothing: for every two texts, with no condition. -/
import Derived.Test.YtenmplcmmdaibaaRows
import Derived.Test.YtenmplcmmdaibaaTi
import Derived.Test.YtenmplcmmdaibaaL3
import Derived.Test.YtenmplcmmdaibaaGmK
import Derived.SizedLaws
namespace Go.Proofs.Ytenmplcmmdaibaa
open Go.ChangeShapes Go.WideShapes Go.ChangeAt Go.RowKit Go.Gm
open Go.ChangeMaps (open_string shut_string)
theorem tenOwn : ownKnob Try.prog.godebug = none := by kernel_rfl
theorem tenLaidOut : laidOutB Try.prog = true := by kernel_rfl
theorem ten_str_rel (E : Env) (s : ByteArray) : VRel E (.str s.data.toList) (.string s) := by
  have : s = ⟨s.data.toList.toArray⟩ := by cases s; simp
  rw [this]; exact .str _
set_option maxRecDepth 100000 in
theorem sniffTen_contract (H : Type) (enc : TypeId × Value → H) (W : World) (base : Nat) (args : Array Value) (ds gs : List (DataW H)) (before : List MemPlace)
    (hval : ∀ (j : Nat) t v, Try.f4.params[j]? = some t → args[j]? = some v → Value.okWide Try.prog W .any base t v)
    (hW : DataW.Whole enc Try.prog Try.f4.params.toList Rows.sniffTenSpec.vars false W args.toList ds gs before)
    (hsz : (DataW.weightsEach Try.prog (Try.f4.params.toList ++ Rows.sniffTenSpec.plain.varTypes Try.prog) (ds ++ gs)).all (· ≤ reachBytes) = true) :
    Calls Try.prog 4 args W fun e W' => ∃ v, e = .returned v ∧ Rows.sniffTenSpec.post enc Try.prog Try.f4 false true false false W args v W' := by
  have hW' := hW
  obtain ⟨p, q, hA0, hV, rfl, hfz, hnd⟩ := hW
  have hA : DataW.TrodAll enc Try.prog W 0 (fun _ => true) true Try.f4.params.toList args.toList ds p := hA0
  rw [Try.params4] at hA hval
  obtain ⟨v0, vs0, d0, ds0, p0, q0, hargs, rfl, rfl, h0, r0⟩ := trodAll_cons hA
  obtain ⟨v1, vs1, d1, ds1, p1, q1, rfl, rfl, rfl, h1, r1⟩ := trodAll_cons r0
  obtain ⟨rfl, rfl, rfl⟩ := trodAll_nil r1
  obtain rfl : args = #[v0, v1] := by cases args; simp_all
  obtain ⟨rfl, rfl⟩ := trodVars_none hV
  obtain ⟨b, rfl, rfl, rfl, hmax⟩ := open_string Try.underlying9 (hval 0 9 v0 rfl rfl) h0
  obtain ⟨more, rfl, rfl, rfl, hmax2⟩ := open_string Try.underlying9 (hval 1 9 v1 rfl rfl) h1
  have z1 : b.data.toList.length ≤ reachBytes := sized_string hsz (j := 0) (t := 9) rfl rfl
  have z2 : more.data.toList.length ≤ reachBytes := sized_string hsz (j := 1) (t := 9) rfl rfl
  have hsum : b.data.toList.length + more.data.toList.length ≤ 1152921504606846976 := by
    have := reachBytes_lt
    omega
  refine (calls_law call_gliderlaw20_SniffTen Try.func4 (by kernel_rfl) (by kernel_rfl) (args := [.str b.data.toList, .str more.data.toList]) ?_ (ten_ok _ _ [] hsum)).mono fun e W' ⟨he, hB⟩ => ?_
  · exact .cons (ten_str_rel _ b) (.cons (ten_str_rel _ more) (.nil _))
  · subst he
    exact ⟨_, rfl, post_law hW' tenLaidOut (by kernel_rfl) hB rfl (by kernel_rfl) Try.underlying4 rfl rfl rfl⟩
set_option maxRecDepth 100000 in
theorem sniffTen_lifted (os : Os) (started : os.Started) (H : Type) (enc : TypeId × Value → H) :
    ReturnsInHanded {} Try.checked os 4 .any (Rows.sniffTenSpec.pre6 enc Try.prog Try.f4 Rows.sniffTenRow.domain false) (Rows.sniffTenSpec.post enc Try.prog Try.f4 false true false false) := by
  refine returnsInHanded_of_change_sized (C := Try.checked) tenOwn started (by kernel_rfl) Try.func4
    (ChangeSpec.witness6 (enc := enc) (C := Try.checked) false ⟨#[], #[.string .empty, .string .empty], []⟩ 8 (by kernel_rfl) (by kernel_rfl) (by kernel_rfl) (by kernel_rfl)) ?_
  intro W base args ds gs before hval hW _ hsz _
  exact sniffTen_contract H enc W base args ds gs before hval hW hsz
/-- The statement. -/
theorem sniffTen_holds : Rows.SniffTenSaid :=
  OpenClaim.holds_of_wide 4 Try.f4 rfl rfl rfl rfl rfl rfl rfl ⟨rfl, rfl, rfl, rfl, rfl⟩ rfl rfl rfl rfl rfl (by kernel_rfl) Try.func4 (by kernel_rfl)
    (of_decide_eq_true (by kernel_rfl)) (by unfold Func.isWrapper; first | (rw [if_pos (by decide +kernel)]; kernel_rfl) | (rw [if_neg (by decide +kernel)]; exact ⟨rfl, rfl⟩))
    (fun os started H enc _ => sniffTen_lifted os started H enc)
end Go.Proofs.Ytenmplcmmdaibaa
