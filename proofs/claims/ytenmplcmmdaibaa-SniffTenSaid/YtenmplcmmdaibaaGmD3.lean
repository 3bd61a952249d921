/- The other operations that only compute. -/
import Derived.Test.YtenmplcmmdaibaaGmD2
namespace Go.Gm
set_option linter.unusedVariables false
set_option linter.unusedSimpArgs false
section
variable {C : Cfg} {E : Env} {H : AHeap} {w : World}
theorem cond_ok {a b c z : AVal} {u v x : Value} (hc : VRel E c x) (ha : VRel E a u) (hb : VRel E b v) (h : condV c a b = some z) : PureOk E C.P w (do pure (if ← asBool x then u else v)) z := by
  unfold condV at h
  split at h
  · rename_i t
    injection h with h; subst h
    rw [hc.bool_inv]
    cases t
    · exact ⟨v, by simp [asBool], hb⟩
    · exact ⟨u, by simp [asBool], ha⟩
  · cases h
theorem un_ok {op : UnOp} {a z : AVal} {u : Value} (ha : VRel E a u) (h : unA op a = some z) : PureOk E C.P w (Op.unary op u) z := by
  unfold unA at h
  split at h
  · injection h with h; subst h; rw [ha.int_inv]; exact ⟨_, by simp [Op.unary, Op.intArith], .int _ _⟩
  · rw [ha.int_inv]
    obtain ⟨v, h1, h2⟩ := bits_ok (E := E) (P := C.P) (w := w) h
    exact ⟨v, by simpa [Op.unary] using h1, h2⟩
  · injection h with h; subst h; rw [ha.bool_inv]; exact ⟨_, by simp [Op.unary], .bool _⟩
  · cases h
theorem extract_ok {i : Nat} {a z : AVal} {u : Value} (ha : VRel E a u) (h : extractA i a = some z) : PureOk E C.P w (Instr.extract u i) z := by
  unfold extractA at h
  split at h
  · obtain ⟨vs, rfl, hv⟩ := ha.tup_cells
    obtain ⟨v, h1, h2⟩ := hv.get h
    have h1' : vs[i]? = some v := by simpa using h1
    exact ⟨v, by simp [Instr.extract, h1'], h2⟩
  · cases h
theorem fieldAddr_ok {s f : Nat} {fs : Array Field} {fd : Field} {a z : AVal} {u : Value} (hu : C.P.underlying s = some (.struct fs)) (hf : fs[f]? = some fd) (hz : sizeT C.P fd.type ≠ 0) (ha : VRel E a u) (h : fieldAddrA fd.offset a = some z) :
    PureOk E C.P w (Instr.fieldAt s u f) z := by
  have run : ∀ b o, (Instr.fieldAt s (.pointer (some ⟨b, o, none⟩)) f).run C.P w = .ok (.pointer (some ⟨b, o + fd.offset, none⟩)) w := by
    intro b o
    simp [Instr.fieldAt, Sem.run_bind, run_underlying hu, Result.andThen_ok, hf, Instr.sureAddr, fieldPlace, run_sizeOf' hz, hz, add_plain]
  unfold fieldAddrA at h
  split at h
  · injection h with h; subst h
    obtain ⟨b, h1, rfl⟩ := ha.ptr_inv
    exact ⟨_, run b _, .ptr h1⟩
  · injection h with h; subst h
    cases ha with
    | cptr f' hI hm hv => exact ⟨_, by rw [run, Nat.add_assoc], .cptr f' hI hm hv⟩
  · cases h
theorem part_ok {t : TypeId} {d : TypeDesc} (hu : C.P.underlying t = some d) {off : Nat} {cs : List AVal} {vs : Array Value} {z : AVal} (hv : VRels E cs vs.toList) (h : partA (isAggT C.P t) off (sizeT C.P t) cs = some z) : PureOk E C.P w (part t vs off) z := by
  unfold partA at h
  unfold PureOk part
  simp only [Sem.run_bind, run_isAgg hu, Result.andThen_ok]
  split at h
  · rename_i ha
    injection h with h; subst h
    simp only [ha, if_true, Sem.run_bind, run_sizeOf_u hu, Result.andThen_ok, Sem.run_pure]
    refine ⟨_, rfl, .agg_of ?_⟩
    have := (hv.drop off).take (sizeT C.P t)
    have e : (vs.extract off (off + sizeT C.P t)).toList = (vs.toList.drop off).take (sizeT C.P t) := by
      rw [Array.toList_extract, List.extract_eq_take_drop]; congr 1; omega
    rw [e]; exact this
  · rename_i ha
    obtain ⟨v, h1, h2⟩ := hv.get h
    have h1' : vs[off]? = some v := by simpa using h1
    simp only [ha, Bool.false_eq_true, if_false, h1', Sem.run_pure]
    exact ⟨v, rfl, h2⟩
theorem field_ok {s f : Nat} {fs : Array Field} {fd : Field} {d : TypeDesc} {a z : AVal} {u : Value} (hu : C.P.underlying s = some (.struct fs)) (hf : fs[f]? = some fd) (hd : C.P.underlying fd.type = some d) (ha : VRel E a u) (h : fieldA (isAggT C.P fd.type) fd.offset (sizeT C.P fd.type) a = some z) :
    PureOk E C.P w (Instr.field s u f) z := by
  unfold fieldA at h
  split at h
  · obtain ⟨vs, rfl, hv⟩ := ha.agg_cells
    obtain ⟨v, h1, h2⟩ := part_ok (w := w) hd hv h
    exact ⟨v, by simp [Instr.field, Sem.run_bind, run_underlying hu, Result.andThen_ok, hf, asAgg, h1], h2⟩
  · cases h
theorem nilCheck_ok {op : Oper} {x : Operand} {a z : AVal} {ρ : Operand → Value} (ho : op.op = .nilCheck x) (ha : VRel E a (ρ x)) (h : nilCheckA a = some z) : ∃ v, (execOp ρ op).run C.P w = .ok (.value v) w ∧ VRel E z v := by
  unfold nilCheckA at h
  split at h
  · injection h with h; subst h
    obtain ⟨b, h1, h2⟩ := ha.ptr_inv
    exact ⟨ρ x, by simp only [execOp, ho, h2]; rfl, ha⟩
  · injection h with h; subst h
    obtain ⟨b, o, h2⟩ := ha.cptr_inv
    exact ⟨ρ x, by simp only [execOp, ho, h2]; rfl, ha⟩
  · injection h with h; subst h
    obtain ⟨b, h2, _⟩ := ha.iface_inv
    exact ⟨ρ x, by simp only [execOp, ho, h2]; rfl, ha⟩
  · cases h
theorem iface_ok {t : TypeId} {d : TypeDesc} {a z : AVal} {u : Value} (hu : C.P.underlying t = some d) (hd : ∀ m, d ≠ .interface m) (ha : VRel E a u) (h : ifaceA t a = some z) : PureOk E C.P w (Instr.makeInterface t u) z := by
  injection h with h; subst h
  refine ⟨.iface t u, ?_, .iface ha⟩
  unfold Instr.makeInterface
  simp only [Sem.run_bind, run_underlying hu, Result.andThen_ok]
  cases d <;> first | rfl | exact absurd rfl (hd _)
theorem assert_ok {t xt : TypeId} {d : TypeDesc} {ok : Bool} {a z : AVal} {u : Value} (hu : C.P.underlying t = some d) (hd : ∀ m, d ≠ .interface m) (ha : VRel E a u) (h : assertA t ok a = some z) : PureOk E C.P w (Instr.typeAssert u xt t ok) z := by
  unfold assertA at h
  split at h
  · rename_i t' x
    split at h
    · rename_i ht
      subst ht
      obtain ⟨v, rfl, hv⟩ := ha.iface_inv
      have key : (Instr.typeAssert (.iface t' v) xt t' ok).run C.P w = .ok (if ok then .tuple #[v, .bool true] else v) w := by
        unfold Instr.typeAssert
        simp only [Sem.run_bind, run_underlying hu, Result.andThen_ok]
        cases d <;> first | (simp; done) | exact absurd rfl (hd _)
      injection h with h; subst h
      cases ok
      · exact ⟨_, key, hv⟩
      · exact ⟨_, key, .tup_of (VRels.cons hv (VRels.cons (.bool true) (.nil E)))⟩
    · cases h
  · cases h
theorem max2_ok {a b z : AVal} {u v : Value} (ha : VRel E a u) (hb : VRel E b v) (h : max2A a b = some z) : PureOk E C.P w (Builtin.max2 u v) z := by
  unfold max2A at h
  split at h
  · injection h with h; subst h; rw [ha.int_inv, hb.int_inv]; exact ⟨_, by simp [Builtin.max2], .int _ _⟩
  · cases h
theorem min2_ok {a b z : AVal} {u v : Value} (ha : VRel E a u) (hb : VRel E b v) (h : min2A a b = some z) : PureOk E C.P w (Builtin.min2 u v) z := by
  unfold min2A at h
  split at h
  · injection h with h; subst h; rw [ha.int_inv, hb.int_inv]; exact ⟨_, by simp [Builtin.min2], .int _ _⟩
  · cases h
theorem fold_ok {f : AVal → AVal → Option AVal} {g : Value → Value → Sem Value} (hfg : ∀ {a b z : AVal} {u v : Value}, VRel E a u → VRel E b v → f a b = some z → PureOk E C.P w (g u v) z) :
    ∀ (xs : List AVal) (vs : List Value) (a z : AVal) (u : Value), VRel E a u → VRels E xs vs → foldA f a xs = some z → PureOk E C.P w (vs.foldlM g u) z
  | [], [], a, z, u, ha, _, h => by simp [foldA] at h; subst h; exact ⟨u, by simp, ha⟩
  | [], _ :: _, a, z, u, ha, hv, h => by have := hv.1; simp at this
  | _ :: _, [], a, z, u, ha, hv, h => by have := hv.1; simp at this
  | x :: xs, v :: vs, a, z, u, ha, hv, h => by
    simp only [foldA] at h
    cases hx : f a x with
    | none => simp [hx] at h
    | some y =>
      rw [hx] at h
      obtain ⟨r, h1, h2⟩ := hfg ha hv.head hx
      obtain ⟨r', h3, h4⟩ := fold_ok hfg xs vs y z r h2 hv.tail h
      exact ⟨r', by simp [Sem.run_bind, h1, Result.andThen_ok, h3], h4⟩
end
end Go.Gm
