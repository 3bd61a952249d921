/- Each operation that reads, at most, is the model's. -/
import Derived.Test.YtenmplcmmdaibaaGmD7
namespace Go.Gm
set_option linter.unusedVariables false
set_option linter.unusedSimpArgs false
theorem okT_parts {P : Program} {t : TypeId} (h : okT P t = true) : (∃ d, P.underlying t = some d) ∧ sizeT P t ≠ 0 ∧ (P.info? t).bind (·.zero) ≠ none ∧ (∀ z, (P.info? t).bind (·.zero) = some z → z.cells.size = sizeT P t) ∧ ∃ i z, P.info? t = some i ∧ i.zero = some z ∧ i.size = sizeT P t := by
  unfold okT at h
  simp only [Bool.and_eq_true] at h
  obtain ⟨h1, h2⟩ := h
  cases hi : P.info? t with
  | none => simp [hi] at h2
  | some i =>
    rw [hi] at h2
    cases hz : i.zero with
    | none => simp [hz] at h2
    | some z =>
      simp only [hz, Bool.and_eq_true, bne_iff_ne, beq_iff_eq] at h2
      exact ⟨Option.isSome_iff_exists.1 h1, by simp [sizeT, hi]; exact h2.1, by simp [hz], fun z' hz' => by simp [hz] at hz'; subst hz'; simp [sizeT, hi, h2.2], i, z, rfl, hz, by simp [sizeT, hi]⟩
/-- What is asked of maps. -/
structure MapOk (C : Cfg) : Prop where
  look : ∀ (t kt e : TypeId) (ok : Bool) (E : Env) (H : AHeap) (w : World) (m k z : AVal) (u v : Value), C.P.underlying t = some (.map kt e) → C.eq kt = true → Sim E H w → VRel E m u → VRel E k v → lookupA (zeroV C.P e) ok m k H = some z → PureOk E C.P w (Instr.lookup t u v ok) z
  upd : ∀ (t kt e : TypeId) (E : Env) (H H' : AHeap) (w : World) (m k x : AVal) (u v y : Value), C.P.underlying t = some (.map kt e) → C.eq kt = true → Sim E H w → VRel E m u → VRel E k v → VRel E x y → updateA m k x H = some H' →
    ∃ w', (Instr.mapUpdate t u v y).run C.P w = .ok () w' ∧ Sim E H' w' ∧ Step E H w E H' w'
section
variable {C : Cfg} {E : Env} {H : AHeap} {w : World}
def SOk (E : Env) (H : AHeap) (P : Program) (w : World) (s : Sem Value) (x : AVal) : Prop := ∃ v w' E', s.run P w = .ok v w' ∧ VRel E' x v ∧ Sim E' H w' ∧ Step E H w E' H w'
theorem PureOk.sok {P : Program} {s : Sem Value} {x : AVal} (hs : Sim E H w) (h : PureOk E P w s x) : SOk E H P w s x := by
  obtain ⟨v, h1, h2⟩ := h; exact ⟨v, w, E, h1, h2, hs, .refl _ _ _⟩
theorem SOk.rok {P : Program} {s : Sem Value} {x : AVal} (h : SOk E H P w s x) : ROk E H P w (do pure (.value (← s))) x := by
  obtain ⟨v, w', E', h1, h2, h3, h4⟩ := h
  exact ⟨v, w', E', by simp [Sem.run_bind, h1, Result.andThen], h2, h3, h4⟩
theorem toBytes_ok {src dst e : TypeId} (h1 : C.P.underlying src = some .string) (h2 : C.P.underlying dst = some (.slice e)) (h3 : C.P.underlying e = some (.int .u8)) (hs : Sim E H w) {x z : AVal} {v : Value} (hx : VRel E x v) (h : convToBytes x = some z) :
    SOk E H C.P w (convert src dst v) z := by
  unfold convToBytes at h
  split at h
  · rename_i s
    injection h with h; subst h
    rw [hx.str_inv]
    have hrun := run_bytes_of_string (P := C.P) w src dst e ⟨s.toArray⟩ h1 h2 h3
    obtain ⟨us, hus⟩ : ∃ us, us = bytesRow ⟨s.toArray⟩ (grownCap w (⟨s.toArray⟩ : ByteArray).size 0 e) := ⟨_, rfl⟩
    rw [← hus] at hrun
    have hcap : s.length ≤ grownCap w (⟨s.toArray⟩ : ByteArray).size 0 e := by have := grownCap_ge w (⟨s.toArray⟩ : ByteArray).size 0 e; rw [size_mk] at this ⊢; exact this
    obtain ⟨k1, k2⟩ := hs.fixed (w.drawn + 1) us e (us.size, us.size + 1)
    refine ⟨_, _, _, hrun, ?_, k1, k2⟩
    have := fixed_rel (E := E) (b := w.heap.size) (cap := grownCap w (⟨s.toArray⟩ : ByteArray).size 0 e) (tk := .no) (us := us) (s := 1) (es := s.map fun b => [AVal.int .u8 b.toNat]) k2.le (fun o v ho => by simp [Env.setI, ho]) (by simp) (by simp [isImm]) (fun k c hk => ?_) (by simpa using hcap) (.inl rfl)
    · rw [List.length_map] at this; rw [size_mk] at this ⊢; exact this
    · have hfl : (s.map fun b => [AVal.int .u8 (b.toNat : Int)]).flatten = s.map fun b => AVal.int .u8 (b.toNat : Int) := by
        clear hk hrun hus hcap hx k1 k2
        induction s with
        | nil => rfl
        | cons b s ih => simp only [List.map_cons, List.flatten_cons, List.singleton_append, ih]
      rw [hfl, List.getElem?_map] at hk
      cases hk' : s[k]? with
      | none => simp [hk'] at hk
      | some b =>
        simp only [hk', Option.map_some, Option.some.injEq] at hk
        subst hk
        have hlt : k < s.length := (List.getElem?_eq_some_iff.1 hk').1
        refine ⟨.int .u8 b.toNat, ?_, .int _ _⟩
        rw [hus, bytesRow, Array.getElem?_append_left (by simpa using hlt)]
        simp [hk']
  · cases h
theorem conv_ok {src dst : TypeId} (hs : Sim E H w) {x z : AVal} {v : Value} (hx : VRel E x v) (h : convA C.P src dst x H = some z) : SOk E H C.P w (convert src dst v) z := by
  unfold convA at h
  split at h
  · rename_i k1 k2 h1 h2
    unfold convInt at h
    split at h
    · injection h with h; subst h
      rw [hx.int_inv]
      exact PureOk.sok hs ⟨_, by simp [convert, Sem.run_bind, run_underlying h1, run_underlying h2, Result.andThen_ok, Conv.intToInt], .int _ _⟩
    · cases h
  · rename_i h1 h2
    unfold convSame at h
    split at h
    · injection h with h; subst h
      rw [hx.str_inv]
      exact PureOk.sok hs ⟨_, by simp [convert, Sem.run_bind, run_underlying h1, run_underlying h2, Result.andThen_ok], .str _⟩
    · cases h
  · rename_i k1 h1 h2
    unfold convRune at h
    split at h
    · injection h with h; subst h
      rw [hx.int_inv]
      exact PureOk.sok hs ⟨_, by simp [convert, Sem.run_bind, run_underlying h1, run_underlying h2, Result.andThen_ok, Conv.intToString], .of_toList _ _⟩
    · cases h
  · rename_i e h1 h2
    split at h
    · rename_i he
      have he' : C.P.underlying e = some (.int .u8) := by unfold isU8 at he; split at he <;> first | assumption | cases he
      exact toBytes_ok h1 h2 he' hs hx h
    · cases h
  · rename_i e h1 h2
    split at h
    · rename_i he
      have he' : C.P.underlying e = some (.int .u8) := by unfold isU8 at he; split at he <;> first | assumption | cases he
      exact (toStr_ok h1 he' h2 hs hx h).sok hs
    · cases h
  · cases h
end
end Go.Gm
