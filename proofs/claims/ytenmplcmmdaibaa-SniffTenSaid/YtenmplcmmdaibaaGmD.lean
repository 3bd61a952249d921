/- The pure operations of the abstract machine are the model's. -/
import Derived.Test.YtenmplcmmdaibaaGmC
import Derived.Tactics
import Derived.WalkKit
namespace Go.Gm
set_option linter.unusedVariables false
set_option linter.unusedSimpArgs false

theorem VRel.of_toList (E : Env) (s : ByteArray) : VRel E (.str s.data.toList) (.string s) := by
  have : (⟨s.data.toList.toArray⟩ : ByteArray) = s := by cases s; simp
  have h := VRel.str (E := E) s.data.toList
  rwa [this] at h
theorem abs0_rel (E : Env) (v : Value) : VRel E (abs0 v) v := by
  cases v with
  | bool b => exact .bool b
  | int k n => exact .int k n
  | string s => exact .of_toList E s
  | pointer a => cases a with | none => exact .nilp | some a => exact .undef _
  | slice a l c =>
    cases a with
    | some a => exact .undef _
    | none =>
      cases l with
      | succ l => exact .undef _
      | zero =>
        cases c with
        | succ c => exact .undef _
        | zero => exact .sl0 rfl (fun _ => rfl) (fun _ h => by cases h)
  | map r => cases r with | none => exact .nilmap | some r => exact .undef _
  | func fn first captured =>
    cases fn with
    | func f =>
      simp only [abs0]
      split
      · rename_i h
        obtain ⟨h1, h2⟩ := h
        obtain rfl : first = #[] := by simpa using h1
        obtain rfl : captured = #[] := by simpa using h2
        exact .fn rfl fun i c v h => by simp at h
      · exact .undef _
    | _ => exact .undef _
  | nilFunc => exact .nilfn
  | nilIface => exact .nilif
  | _ => exact .undef _
theorem absV_rel (E : Env) (v : Value) : VRel E (absV v) v := by
  have key : ∀ vs : Array Value, VRels E (vs.toList.map abs0) vs.toList := fun vs => by
    have := VRels.map (E := E) vs.toList abs0 id (fun x _ => abs0_rel E x)
    simpa using this
  cases v with
  | agg cs => exact .agg_of (key cs)
  | tuple cs => exact .tup_of (key cs)
  | _ => (simp only [absV]; exact abs0_rel E _)

theorem VRel.bool_inv {E : Env} {b : Bool} {v : Value} (h : VRel E (.bool b) v) : v = .bool b := by cases h; rfl
theorem VRel.int_inv {E : Env} {k : IntKind} {n : Int} {v : Value} (h : VRel E (.int k n) v) : v = .int k n := by cases h; rfl
theorem VRel.str_inv {E : Env} {s : List UInt8} {v : Value} (h : VRel E (.str s) v) : v = .string ⟨s.toArray⟩ := by cases h; rfl

/-- An operation that only computes: what the model gives at related operands. -/
def PureOk (E : Env) (P : Program) (w : World) (s : Sem Value) (x : AVal) : Prop := ∃ v, s.run P w = .ok v w ∧ VRel E x v

section
variable {E : Env} {P : Program} {w : World}
theorem bits_ok {op : BinOp} {k : IntKind} {x y : Int} {z : AVal} (h : bitsBin op k x y = some z) : PureOk E P w (Op.intBits op k x y) z := by
  cases op <;> simp only [bitsBin, reduceCtorEq] at h <;> (injection h with h; subst h; exact ⟨_, rfl, .int _ _⟩)
theorem int_ok {op : BinOp} {t : TypeId} {k : IntKind} {x y : Int} {z : AVal} (h : intBin op k x y = some z) (hs : isShift op = false) : PureOk E P w (binOp op t (.int k x) (.int k y)) z := by
  cases op <;> simp only [intBin, isShift, reduceCtorEq, Bool.true_eq_false] at h hs
  case add => injection h with h; subst h; exact ⟨_, by simp [binOp, Op.intArith], .int _ _⟩
  case sub => injection h with h; subst h; exact ⟨_, by simp [binOp, Op.intArith], .int _ _⟩
  case mul => injection h with h; subst h; exact ⟨_, by simp [binOp, Op.intArith], .int _ _⟩
  case quo =>
    split at h
    · cases h
    · rename_i hy; injection h with h; subst h; exact ⟨_, by simp [binOp, Op.intDiv, hy], .int _ _⟩
  case rem =>
    split at h
    · cases h
    · rename_i hy; injection h with h; subst h; exact ⟨_, by simp [binOp, Op.intDiv, hy], .int _ _⟩
  all_goals first
    | (injection h with h; subst h; exact ⟨_, by simp [binOp, Op.intCmp], .bool _⟩)
    | (obtain ⟨v, h1, h2⟩ := bits_ok (E := E) (P := P) (w := w) h; exact ⟨v, by simpa [binOp] using h1, h2⟩)
theorem shift_ok {op : BinOp} {t : TypeId} {k k' : IntKind} {x y : Int} {z : AVal} (h : shiftBin op k x y = some z) (hs : isShift op = true) : PureOk E P w (binOp op t (.int k x) (.int k' y)) z := by
  have hy : ¬ y < 0 := fun hy => by simp [shiftBin, hy] at h
  cases op <;> simp only [isShift, Bool.false_eq_true] at hs <;> simp only [shiftBin, if_neg hy, Option.some.injEq] at h <;> subst h
  · exact ⟨_, by simp [binOp, Op.shift, hy], .int _ _⟩
  · exact ⟨_, by simp [binOp, Op.shift, hy], .int _ _⟩
theorem toList_mk (s : List UInt8) : (⟨s.toArray⟩ : ByteArray).toList = s := by
  rw [ByteArray.toList_eq]
theorem str_ok {op : BinOp} {t : TypeId} {x y : List UInt8} {z : AVal} (h : strBin op x y = some z) : PureOk E P w (binOp op t (.string ⟨x.toArray⟩) (.string ⟨y.toArray⟩)) z := by
  have happ : (⟨x.toArray⟩ ++ ⟨y.toArray⟩ : ByteArray) = ⟨(x ++ y).toArray⟩ := by
    apply ByteArray.ext; simp
  cases op <;> simp only [strBin, reduceCtorEq] at h
  case add =>
    split at h
    · rename_i hle
      injection h with h; subst h
      refine ⟨.string ⟨(x ++ y).toArray⟩, ?_, .str _⟩
      have hsz : ¬ ((((⟨x.toArray⟩ : ByteArray).size + (⟨y.toArray⟩ : ByteArray).size : Nat) : Int) > IntKind.i64.max) := by
        have h1 : (⟨x.toArray⟩ : ByteArray).size = x.length := by simp [ByteArray.size]
        have h2 : (⟨y.toArray⟩ : ByteArray).size = y.length := by simp [ByteArray.size]
        have h3 : IntKind.i64.max = 9223372036854775807 := by decide
        rw [h1, h2, h3]; omega
      simp only [binOp, Op.stringOp, if_neg hsz, happ]
      rfl
    · cases h
  all_goals (injection h with h; subst h; exact ⟨_, by simp only [binOp, Op.stringOp, toList_mk]; rfl, .bool _⟩)
end
theorem VRel.isInt {E : Env} {x : AVal} {v : Value} (h : VRel E x v) {k : IntKind} {n : Int} (e : x = .int k n) : v = .int k n := by subst e; exact h.int_inv

/-- What is asked of the told facts. -/
structure EqOk (C : Cfg) : Prop where
  guard : ∀ t, C.eq t = true → C.P.eqGuardType C.P.depth t = false
  eqv : ∀ t, C.eq t = true → ∀ (E : Env) (as bs : List AVal) (vs us : Array Value) (b : Bool) (w : World), VRels E as vs.toList → VRels E bs us.toList → cellsEq as bs = some b → (Op.equal t (.agg vs) (.agg us)).run C.P w = .ok b w

def ROk (E : Env) (H : AHeap) (P : Program) (w : World) (s : Sem Next) (x : AVal) : Prop :=
  ∃ v w' E', s.run P w = .ok (.value v) w' ∧ VRel E' x v ∧ Sim E' H w' ∧ Step E H w E' H w'
theorem ROk.of_pure {E : Env} {H : AHeap} {P : Program} {w : World} {s : Sem Value} {x : AVal} (hs : Sim E H w) (h : PureOk E P w s x) : ROk E H P w (do pure (.value (← s))) x := by
  obtain ⟨v, h1, h2⟩ := h
  refine ⟨v, w, E, ?_, h2, hs, .refl _ _ _⟩
  simp [Sem.run_bind, h1, Result.andThen]
section
variable {C : Cfg} {E : Env} {H : AHeap} {w : World}
theorem eqGuard_other {P : Program} (op : BinOp) (t : TypeId) (x y : Operand) (a b : Value) (h1 : ∀ c d, ¬ (a = .agg c ∧ b = .agg d)) (h2 : ¬ (a = .nilIface ∧ b = .nilIface)) : (eqGuard op t x y a b).run P w = .ok () w := by
  unfold eqGuard
  repeat' split
  all_goals first
    | rfl
    | exact absurd ⟨rfl, rfl⟩ h2
    | exact absurd ⟨rfl, rfl⟩ (h1 _ _)
    | simp
    | trivial
theorem equal_bool {P : Program} {t : TypeId} (hu : P.underlying t = some .bool) (a b : Bool) (w : World) : ∀ d, (Op.equalIn (d + 1) t (.bool a) (.bool b)).run P w = .ok (a == b) w := by
  intro d; simp [Op.equalIn, run_underlying hu]
theorem equal_nilnil {P : Program} {t e : TypeId} (hu : P.underlying t = some (.pointer e)) (w : World) : ∀ d, (Op.equalIn (d + 1) t (.pointer none) (.pointer none)).run P w = .ok true w := by
  intro d; simp [Op.equalIn, run_underlying hu]
theorem equal_nilptr {P : Program} {t e : TypeId} (hu : P.underlying t = some (.pointer e)) (a : Addr) (w : World) : ∀ d, (Op.equalIn (d + 1) t (.pointer none) (.pointer (some a))).run P w = .ok false w := by
  intro d; simp [Op.equalIn, run_underlying hu]
theorem equal_ptrnil {P : Program} {t e : TypeId} (hu : P.underlying t = some (.pointer e)) (a : Addr) (w : World) : ∀ d, (Op.equalIn (d + 1) t (.pointer (some a)) (.pointer none)).run P w = .ok false w := by
  intro d; simp [Op.equalIn, run_underlying hu]
theorem equal_nilif {P : Program} {t : TypeId} {e} (hu : P.underlying t = some (.interface e)) (t' : TypeId) (v : Value) (w : World) : ∀ d, (Op.equalIn (d + 1) t .nilIface (.iface t' v)).run P w = .ok false w := by
  intro d; simp [Op.equalIn, run_underlying hu]
theorem equal_ifnil {P : Program} {t : TypeId} {e} (hu : P.underlying t = some (.interface e)) (t' : TypeId) (v : Value) (w : World) : ∀ d, (Op.equalIn (d + 1) t (.iface t' v) .nilIface).run P w = .ok false w := by
  intro d; simp [Op.equalIn, run_underlying hu]
theorem VRel.nilp_inv {E : Env} {v : Value} (h : VRel E .nilp v) : v = .pointer none := by cases h; rfl
theorem VRel.ptr_inv {E : Env} {id g o : Nat} {v : Value} (h : VRel E (.ptr id g o) v) : ∃ b, E.φ id g = some b ∧ v = .pointer (some ⟨b, o, none⟩) := by cases h with | ptr h => exact ⟨_, h, rfl⟩
theorem VRel.cptr_inv {E : Env} {cs : List AVal} {o : Nat} {v : Value} (h : VRel E (.cptr cs o) v) : ∃ b o', v = .pointer (some ⟨b, o' + o, none⟩) := by cases h with | cptr f _ _ _ => exact ⟨_, _, rfl⟩
theorem VRel.nilif_inv {E : Env} {v : Value} (h : VRel E .nilif v) : v = .nilIface := by cases h; rfl
theorem VRel.iface_inv {E : Env} {t : TypeId} {x : AVal} {v : Value} (h : VRel E (.iface t x) v) : ∃ u, v = .iface t u ∧ VRel E x u := by cases h with | iface h => exact ⟨_, rfl, h⟩
theorem eqKind_bool {t : TypeId} (h : eqKind C t = .bool) : C.P.underlying t = some .bool := by
  unfold eqKind at h
  split at h
  · cases h
  · split at h <;> first | assumption | cases h
theorem eqKind_ptr {t : TypeId} (h : eqKind C t = .ptr) : ∃ e, C.P.underlying t = some (.pointer e) := by
  unfold eqKind at h
  split at h
  · cases h
  · split at h <;> first | exact ⟨_, by assumption⟩ | cases h
theorem eqKind_iface {t : TypeId} (h : eqKind C t = .iface) : ∃ e, C.P.underlying t = some (.interface e) := by
  unfold eqKind at h
  split at h
  · cases h
  · split at h <;> first | exact ⟨_, by assumption⟩ | cases h
theorem eqKind_flat {t : TypeId} (h : eqKind C t = .flat) : C.eq t = true := by
  unfold eqKind at h
  split at h
  · assumption
  · split at h <;> cases h
theorem bin_ok (hC : EqOk C) {op : BinOp} {t : TypeId} {x y : Operand} {a b : AVal} {u v : Value} {z : AVal} (hs : Sim E H w) (ha : VRel E a u) (hb : VRel E b v) (h : binA (eqKind C t) op a b = some z) :
    PureOk E C.P w (do eqGuard op t x y u v; binOp op t u v) z := by
  have plain : ∀ {z}, (∀ c d, ¬ (u = .agg c ∧ v = .agg d)) → ¬ (u = .nilIface ∧ v = .nilIface) → PureOk E C.P w (binOp op t u v) z → PureOk E C.P w (do eqGuard op t x y u v; binOp op t u v) z := by
    intro z h1 h2 ⟨r, h3, h4⟩
    refine ⟨r, ?_, h4⟩
    rw [Sem.run_bind, eqGuard_other op t x y u v h1 h2]
    exact h3
  unfold binA at h
  split at h
  · rename_i k n k' n'
    rw [ha.int_inv, hb.int_inv] at plain ⊢
    refine plain (by simp) (by simp) ?_
    split at h
    · rename_i hsh; exact shift_ok h hsh
    · rename_i hsh
      split at h
      · rename_i hk; subst hk; exact int_ok h (by simpa using hsh)
      · cases h
  · rw [ha.str_inv, hb.str_inv] at plain ⊢
    exact plain (by simp) (by simp) (str_ok h)
  · rename_i h1 h2
    have key : ∀ bb, eqA (eqKind C t) a b = some bb → (op = .eql ∨ op = .neq) → (do eqGuard op t x y u v; binOp op t u v : Sem Value).run C.P w = .ok (.bool (if op = .eql then bb else !bb)) w := by
      intro bb he hop
      have eqrun : ∀ (r : Bool), (eqGuard op t x y u v).run C.P w = .ok () w → (Op.equal t u v).run C.P w = .ok r w → (∀ k n, u ≠ .int k n) → (∀ s, u ≠ .string s) → (∀ k n, u ≠ .float k n) → (∀ k n m, u ≠ .complex k n m) → 
          (do eqGuard op t x y u v; binOp op t u v : Sem Value).run C.P w = .ok (.bool (if op = .eql then r else !r)) w := by
        intro r h3 h4 n1 n2 n3 n4
        rw [Sem.run_bind, h3]
        show (binOp op t u v).run C.P w = _
        rcases hop with rfl | rfl
        · have : binOp .eql t u v = (do pure (.bool (← Op.equal t u v))) := by
            cases u <;> first | rfl | exact absurd rfl (n1 _ _) | exact absurd rfl (n2 _) | exact absurd rfl (n3 _ _) | exact absurd rfl (n4 _ _ _)
          rw [this]; simp [Sem.run_bind, h4, Result.andThen]
        · have : binOp .neq t u v = (do pure (.bool (!(← Op.equal t u v)))) := by
            cases u <;> first | rfl | exact absurd rfl (n1 _ _) | exact absurd rfl (n2 _) | exact absurd rfl (n3 _ _) | exact absurd rfl (n4 _ _ _)
          rw [this]; simp [Sem.run_bind, h4, Result.andThen]
      unfold eqA at he
      split at he <;> first | cases he | skip
      · rename_i hk
        have hu := eqKind_bool hk
        rw [ha.bool_inv, hb.bool_inv] at eqrun ⊢
        refine eqrun _ (eqGuard_other op t x y _ _ (by simp) (by simp)) ?_ (by simp) (by simp) (by simp) (by simp)
        exact equal_bool hu _ _ _ 9999
      · rename_i hk
        obtain ⟨e, hu⟩ := eqKind_ptr hk
        rw [ha.nilp_inv, hb.nilp_inv] at eqrun ⊢
        exact eqrun _ (eqGuard_other op t x y _ _ (by simp) (by simp)) (equal_nilnil hu _ 9999) (by simp) (by simp) (by simp) (by simp)
      · rename_i hk
        obtain ⟨e, hu⟩ := eqKind_ptr hk
        obtain ⟨b', _, hb'⟩ := hb.ptr_inv
        rw [ha.nilp_inv, hb'] at eqrun ⊢
        exact eqrun _ (eqGuard_other op t x y _ _ (by simp) (by simp)) (equal_nilptr hu _ _ 9999) (by simp) (by simp) (by simp) (by simp)
      · rename_i hk
        obtain ⟨e, hu⟩ := eqKind_ptr hk
        obtain ⟨b', _, hb'⟩ := ha.ptr_inv
        rw [hb.nilp_inv, hb'] at eqrun ⊢
        exact eqrun _ (eqGuard_other op t x y _ _ (by simp) (by simp)) (equal_ptrnil hu _ _ 9999) (by simp) (by simp) (by simp) (by simp)
      · rename_i hk
        obtain ⟨e, hu⟩ := eqKind_ptr hk
        obtain ⟨b', _, hb'⟩ := hb.cptr_inv
        rw [ha.nilp_inv, hb'] at eqrun ⊢
        exact eqrun _ (eqGuard_other op t x y _ _ (by simp) (by simp)) (equal_nilptr hu _ _ 9999) (by simp) (by simp) (by simp) (by simp)
      · rename_i hk
        obtain ⟨e, hu⟩ := eqKind_ptr hk
        obtain ⟨b', _, hb'⟩ := ha.cptr_inv
        rw [hb.nilp_inv, hb'] at eqrun ⊢
        exact eqrun _ (eqGuard_other op t x y _ _ (by simp) (by simp)) (equal_ptrnil hu _ _ 9999) (by simp) (by simp) (by simp) (by simp)
      · rename_i hk
        obtain ⟨e, hu⟩ := eqKind_iface hk
        obtain ⟨b', hb', _⟩ := hb.iface_inv
        rw [ha.nilif_inv, hb'] at eqrun ⊢
        exact eqrun _ (eqGuard_other op t x y _ _ (by simp) (by simp)) (equal_nilif hu _ _ _ 9999) (by simp) (by simp) (by simp) (by simp)
      · rename_i hk
        obtain ⟨e, hu⟩ := eqKind_iface hk
        obtain ⟨b', hb', _⟩ := ha.iface_inv
        rw [hb.nilif_inv, hb'] at eqrun ⊢
        exact eqrun _ (eqGuard_other op t x y _ _ (by simp) (by simp)) (equal_ifnil hu _ _ _ 9999) (by simp) (by simp) (by simp) (by simp)
      · rename_i hk
        have hf := eqKind_flat hk
        obtain ⟨vs, hv, hvs⟩ := ha.agg_cells
        obtain ⟨us, hu, hus⟩ := hb.agg_cells
        rw [hv, hu] at eqrun ⊢
        refine eqrun _ ?_ (hC.eqv t hf E _ _ vs us bb w hvs hus he) (by simp) (by simp) (by simp) (by simp)
        have hg := hC.guard t hf
        rcases hop with rfl | rfl <;> simp [eqGuard, program, Sem.run_bind, Sem.run, Result.andThen, hg]
    cases op <;> simp only [reduceCtorEq] at h
    case eql =>
      cases he : eqA (eqKind C t) a b with
      | none => simp [he] at h
      | some bb => simp [he] at h; subst h; exact ⟨_, by simpa using key bb he (.inl rfl), .bool _⟩
    case neq =>
      cases he : eqA (eqKind C t) a b with
      | none => simp [he] at h
      | some bb => simp [he] at h; subst h; exact ⟨_, by simpa using key bb he (.inr rfl), .bool _⟩
end
end Go.Gm
