/- SniffWritten: what the document writes in a format tells of that one: for every rule and every cells, with no condition. -/
import Derived.Test.YtenmplcmmdaibaaJ3
import Derived.Test.YtenmplcmmdaibaaJ6
import Derived.Test.YtenmplcmmdaibaaRows
import Derived.SizedLaws
namespace Go.Proofs.Ytenmplcmmdaibaa
open Go.ChangeShapes Go.WideShapes Go.ChangeAt Go.RowKit Go.Gm
open Go.ChangeMaps (open_string shut_string)
theorem writtenOwn : ownKnob Try.prog.godebug = none := by kernel_rfl
theorem writtenLaidOut : laidOutB Try.prog = true := by kernel_rfl
theorem written_str_rel (E : Env) (s : ByteArray) : VRel E (.str s.data.toList) (.string s) := by
  have : s = ⟨s.data.toList.toArray⟩ := by cases s; simp
  rw [this]; exact .str _
theorem writtenBig : BigTy Try.prog 55 := ⟨_, _, _, Try.underlying55, Try.underlying4, Try.underlying53, Try.underlying88⟩
theorem writtenCell : CellTy Try.prog 65 := ⟨_, _, _, Try.underlying65, writtenBig, writtenBig, Try.underlying5⟩
theorem writtenSupp : supp Try.prog 5 27 = true := by kernel_rfl
set_option maxRecDepth 100000 in
theorem sniffWritten_contract (H : Type) (enc : TypeId × Value → H) (W : World) (base : Nat) (args : Array Value) (ds gs : List (DataW H)) (before : List MemPlace)
    (hval : ∀ (j : Nat) t v, Try.f5.params[j]? = some t → args[j]? = some v → Value.okWide Try.prog W .any base t v)
    (hW : DataW.Whole enc Try.prog Try.f5.params.toList Rows.sniffWrittenSpec.vars false W args.toList ds gs before)
    (hsz : (DataW.weightsEach Try.prog (Try.f5.params.toList ++ Rows.sniffWrittenSpec.plain.varTypes Try.prog) (ds ++ gs)).all (· ≤ reachBytes) = true) :
    Calls Try.prog 5 args W fun e W' => ∃ v, e = .returned v ∧ Rows.sniffWrittenSpec.post enc Try.prog Try.f5 false true false false W args v W' := by
  have hW' := hW
  obtain ⟨p, q, hA0, hV, rfl, hfz, hnd⟩ := hW
  have hA : DataW.TrodAll enc Try.prog W 0 (fun _ => true) true Try.f5.params.toList args.toList ds p := hA0
  rw [Try.params5] at hA hval
  obtain ⟨v0, vs0, d0, ds0, p0, q0, hargs, rfl, rfl, h0, r0⟩ := trodAll_cons hA
  obtain ⟨v1, vs1, d1, ds1, p1, q1, rfl, rfl, rfl, h1, r1⟩ := trodAll_cons r0
  obtain ⟨rfl, rfl, rfl⟩ := trodAll_nil r1
  obtain rfl : args = #[v0, v1] := by cases args; simp_all
  obtain ⟨rfl, rfl⟩ := trodVars_none hV
  obtain ⟨b, rfl, rfl, rfl, hmax⟩ := open_string Try.underlying9 (hval 0 9 v0 rfl rfl) h0
  obtain ⟨es, hrel, hshp, hlen, hcase⟩ := arg_row (f := 4) Try.underlying27 writtenSupp (hval 1 27 v1 rfl rfl) h1
  obtain ⟨l, rfl, hlim⟩ := shp_cells (f := 0) writtenCell hshp
  have z1 : b.data.toList.length ≤ reachBytes := sized_string hsz (j := 0) (t := 9) rfl rfl
  have z2 : l.length < 1152921504606846976 := by
    rcases hcase with h | ⟨elems, spare, rfl, h⟩
    · have := congrArg List.length h; simp at this; subst this; decide
    · have h3 := sized_slice hsz (j := 1) (t := 27) rfl rfl Try.underlying27
      have h4 : 0 < Try.prog.bytesOf 65 := by decide +kernel
      have h5 := Nat.le_mul_of_pos_right (elems.length + spare.length) h4
      have h6 := reachBytes_lt
      simp at h
      omega
  have z3 : b.data.toList.length < 1152921504606846976 := by have := reachBytes_lt; omega
  refine (calls_law call_gliderlaw20_SniffWritten Try.func5 (by kernel_rfl) (by kernel_rfl) (args := [.str b.data.toList, .sl (enL cRC l) .no]) ?_ ?_ (written_ok _ l [] z3 z2 hlim)).mono fun e W' ⟨he, hB⟩ => ?_
  · exact fun g cs hg => by cases hg
  · exact .cons (written_str_rel _ b) (.cons hrel (.nil _))
  · subst he
    exact ⟨_, rfl, post_law hW' writtenLaidOut (by kernel_rfl) hB rfl (by kernel_rfl) Try.underlying4 rfl rfl rfl⟩
set_option maxRecDepth 100000 in
theorem sniffWritten_lifted (os : Os) (started : os.Started) (H : Type) (enc : TypeId × Value → H) :
    ReturnsInHanded {} Try.checked os 5 .any (Rows.sniffWrittenSpec.pre6 enc Try.prog Try.f5 Rows.sniffWrittenRow.domain false) (Rows.sniffWrittenSpec.post enc Try.prog Try.f5 false true false false) := by
  refine returnsInHanded_of_change_sized (C := Try.checked) writtenOwn started (by kernel_rfl) Try.func5
    (ChangeSpec.witness6 (enc := enc) (C := Try.checked) false ⟨#[], #[.string .empty, .slice none 0 0], []⟩ 8 (by kernel_rfl) (by kernel_rfl) (by kernel_rfl) (by kernel_rfl)) ?_
  intro W base args ds gs before hval hW _ hsz _
  exact sniffWritten_contract H enc W base args ds gs before hval hW hsz
/-- The statement. -/
theorem sniffWritten_holds : Rows.SniffWrittenSaid :=
  OpenClaim.holds_of_wide 5 Try.f5 rfl rfl rfl rfl rfl rfl rfl ⟨rfl, rfl, rfl, rfl, rfl⟩ rfl rfl rfl rfl rfl (by kernel_rfl) Try.func5 (by kernel_rfl)
    (of_decide_eq_true (by kernel_rfl)) (by unfold Func.isWrapper; first | (rw [if_pos (by decide +kernel)]; kernel_rfl) | (rw [if_neg (by decide +kernel)]; exact ⟨rfl, rfl⟩))
    (fun os started H enc _ => sniffWritten_lifted os started H enc)
end Go.Proofs.Ytenmplcmmdaibaa
