/- Indexing, lengths, slicing. -/
import Derived.Test.YtenmplcmmdaibaaGmD3
namespace Go.Gm
set_option linter.unusedVariables false
set_option linter.unusedSimpArgs false
section
variable {C : Cfg} {E : Env} {H : AHeap} {w : World}
theorem size_mk (s : List UInt8) : (⟨s.toArray⟩ : ByteArray).size = s.length := by simp [ByteArray.size]
theorem idxStr_ok {t : TypeId} {a i z : AVal} {u v : Value} (hu : C.P.underlying t = some .string) (ha : VRel E a u) (hi : VRel E i v) (h : idxStr a i = some z) : PureOk E C.P w (Instr.index t u v) z := by
  unfold idxStr at h
  split at h
  · rename_i s k n
    rw [ha.str_inv, hi.int_inv]
    split at h
    · rename_i hn
      cases hg : s[n.toNat]? with
      | none => simp [hg] at h
      | some b =>
        simp only [hg, Option.map_some, Option.some.injEq] at h
        subst h
        have hlt : n.toNat < s.length := (List.getElem?_eq_some_iff.1 hg).1
        have hb : (⟨s.toArray⟩ : ByteArray)[n.toNat]? = some b := by
          rw [getElem?_pos (⟨s.toArray⟩ : ByteArray) n.toNat (by rw [size_mk]; exact hlt)]
          have : s[n.toNat] = b := (List.getElem?_eq_some_iff.1 hg).2
          rw [← this]; rfl
        refine ⟨.int .u8 b.toNat, ?_, .int _ _⟩
        simp only [Instr.index, asIntOf, Sem.run_bind, Sem.run_pure, Result.andThen_ok, run_underlying hu, if_pos hn, hb]
    · cases h
  · cases h
theorem idxAgg_ok {t e n : Nat} {d : TypeDesc} {a i z : AVal} {u v : Value} (hu : C.P.underlying t = some (.array n e)) (hd : C.P.underlying e = some d) (ha : VRel E a u) (hi : VRel E i v) (h : idxAgg (isAggT C.P e) n (sizeT C.P e) a i = some z) :
    PureOk E C.P w (Instr.index t u v) z := by
  unfold idxAgg at h
  split at h
  · rename_i cs k m
    obtain ⟨vs, rfl, hv⟩ := ha.agg_cells
    rw [hi.int_inv]
    split at h
    · rename_i hm
      obtain ⟨r, h1, h2⟩ := part_ok (w := w) hd hv h
      refine ⟨r, ?_, h2⟩
      simp only [Instr.index, asIntOf, Sem.run_bind, Sem.run_pure, Result.andThen_ok, run_underlying hu, if_pos hm, run_sizeOf_u hd, h1]
    · cases h
  · cases h
theorem run_idxAddr_slice {t e : TypeId} (hu : C.P.underlying t = some (.slice e)) {d : TypeDesc} (hd : C.P.underlying e = some d) (b o len cap : Nat) (k : IntKind) (n : Int) (hn : 0 ≤ n ∧ n < len) :
    (Instr.indexAt t (.slice (some ⟨b, o, none⟩) len cap) (.int k n)).run C.P w = .ok (.pointer (some ⟨b, o + n.toNat * sizeT C.P e, none⟩)) w := by
  simp only [Instr.indexAt, asIntOf, Sem.run_bind, Sem.run_pure, Result.andThen_ok, run_underlying hu, if_pos hn, run_sizeOf_u hd, add_plain]
theorem idxSl_ok {t e : TypeId} {d : TypeDesc} {a i z : AVal} {u v : Value} (hu : C.P.underlying t = some (.slice e)) (hd : C.P.underlying e = some d) (ha : VRel E a u) (hi : VRel E i v) (h : idxSl (sizeT C.P e) a i = some z) :
    PureOk E C.P w (Instr.indexAt t u v) z := by
  unfold idxSl at h
  split at h
  · rename_i es tk k n
    rw [hi.int_inv]
    split at h
    · rename_i hn
      cases hg : es[n.toNat]? with
      | none => simp [hg] at h
      | some x =>
        simp only [hg, Option.bind_some] at h
        split at h
        · rename_i hx
          injection h with h; subst h
          have hlt : n.toNat < es.length := (List.getElem?_eq_some_iff.1 hg).1
          cases ha with
          | sl0 ht ha hs => simp at hg
          | sl f hl hI hm hv hc ht =>
            rename_i b o s cap
            have hs : s = sizeT C.P e := by rw [← hl _ _ hg, hx]
            subst hs
            refine ⟨_, run_idxAddr_slice hu hd b o es.length cap k n ⟨hn, by omega⟩, ?_⟩
            have hrel : VRel E (.cptr x 0) (.pointer (some ⟨b, (o + n.toNat * sizeT C.P e) + 0, none⟩)) :=
              .cptr (f n.toNat) (fun j hj => by
                have := hI n.toNat j hlt (by omega)
                rw [← Nat.add_assoc] at this
                exact this) (fun j c hj => hm _ _ _ _ hg hj) (fun j c hj => hv _ _ _ _ hg hj)
            exact hrel
        · cases h
    · cases h
  · rename_i id g off len cap sz' ex k n
    rw [hi.int_inv]
    split at h
    · rename_i hn
      obtain ⟨hsz, hn0, hn1⟩ := hn
      injection h with h; subst h
      cases ha with
      | ms h1 hc hl he ho =>
        have ho' := ho (by omega)
        subst ho'
        exact ⟨_, run_idxAddr_slice hu hd _ _ _ _ k n ⟨hn0, hn1⟩, .ptr h1⟩
    · cases h
  · cases h
theorem idxArr_ok {t e n : Nat} {d : TypeDesc} {a i z : AVal} {u v : Value} (hu : C.P.underlying t = some (.array n e)) (hd : C.P.underlying e = some d) (ha : VRel E a u) (hi : VRel E i v) (h : idxArr n (sizeT C.P e) a i = some z) :
    PureOk E C.P w (Instr.indexAt t u v) z := by
  have run : ∀ b o k (m : Int), 0 ≤ m ∧ m < n → (Instr.indexAt t (.pointer (some ⟨b, o, none⟩)) (.int k m)).run C.P w = .ok (.pointer (some ⟨b, o + m.toNat * sizeT C.P e, none⟩)) w := by
    intro b o k m hm
    simp only [Instr.indexAt, asIntOf, Sem.run_bind, Sem.run_pure, Result.andThen_ok, run_underlying hu, Instr.sureAddr, if_pos hm, run_sizeOf_u hd, add_plain]
  unfold idxArr at h
  split at h
  · rename_i id g o k m
    rw [hi.int_inv]
    split at h
    · rename_i hm
      injection h with h; subst h
      obtain ⟨b, h1, rfl⟩ := ha.ptr_inv
      exact ⟨_, run b o k m hm, .ptr h1⟩
    · cases h
  · rename_i cs o k m
    rw [hi.int_inv]
    split at h
    · rename_i hm
      injection h with h; subst h
      cases ha with
      | cptr f hI hmm hv => exact ⟨_, by rw [run _ _ _ _ hm, Nat.add_assoc], .cptr f hI hmm hv⟩
    · cases h
  · cases h
theorem lenStr_ok {t : TypeId} {ty : TypeId} {a z : AVal} {u : Value} (hu : C.P.underlying t = some .string) (ha : VRel E a u) (h : lenStr a = some z) : PureOk E C.P w (Builtin.len_ #[t] ty #[u]) z := by
  unfold lenStr at h
  split at h
  · injection h with h; subst h
    rw [ha.str_inv]
    refine ⟨_, ?_, .int _ _⟩
    simp [Builtin.len_, Sem.run_bind, run_underlying hu, Result.andThen_ok, size_mk, goInt]
  · cases h
theorem lenSl_ok {t e : TypeId} {ty : TypeId} {a z : AVal} {u : Value} (hu : C.P.underlying t = some (.slice e)) (ha : VRel E a u) (h : lenSl a = some z) : PureOk E C.P w (Builtin.len_ #[t] ty #[u]) z := by
  unfold lenSl at h
  split at h
  · injection h with h; subst h
    refine ⟨_, ?_, .int _ _⟩
    cases ha <;> simp [Builtin.len_, Sem.run_bind, run_underlying hu, Result.andThen_ok, goInt]
  · injection h with h; subst h
    refine ⟨_, ?_, .int _ _⟩
    cases ha; simp [Builtin.len_, Sem.run_bind, run_underlying hu, Result.andThen_ok, goInt]
  · cases h
theorem lenArr_ok {t n e : Nat} {ty : TypeId} {a z : AVal} {u : Value} (hu : C.P.underlying t = some (.array n e)) (h : lenArr n a = some z) : PureOk E C.P w (Builtin.len_ #[t] ty #[u]) z := by
  injection h with h; subst h
  exact ⟨_, by simp [Builtin.len_, Sem.run_bind, run_underlying hu, Result.andThen_ok, goInt], .int _ _⟩
theorem cap_ok {t e : TypeId} {ty : TypeId} {a z : AVal} {u : Value} (hu : C.P.underlying t = some (.slice e)) (ha : VRel E a u) (h : capA a = some z) : PureOk E C.P w (Builtin.cap_ #[t] ty #[u]) z := by
  unfold capA at h
  split at h
  · injection h with h; subst h
    refine ⟨_, ?_, .int _ _⟩
    cases ha with
    | sl0 ht ha hs => cases ht; simp [Builtin.cap_, Sem.run_bind, run_underlying hu, Result.andThen_ok, goInt]
    | sl f hl hI hm hv hc ht => cases ht; simp [Builtin.cap_, Sem.run_bind, run_underlying hu, Result.andThen_ok, goInt]
  · injection h with h; subst h
    refine ⟨_, ?_, .int _ _⟩
    cases ha with
    | ms h1 hc hl he ho => rw [he rfl]; simp [Builtin.cap_, Sem.run_bind, run_underlying hu, Result.andThen_ok, goInt]
  · cases h

/-! ### Slicing -/
theorem bound_ok {d : Nat} {o : Option AVal} {v : Option Value} {n y : Nat} (hv : (o = none ∧ v = none) ∨ ∃ a u, o = some a ∧ v = some u ∧ VRel E a u) (h : boundA d o = some n) (code : BoundsCode) (hy : v ≠ none → n ≤ y) :
    (v = none → n = d) ∧ ∀ u, v = some u → (Instr.sliceBound u y code).run C.P w = .ok n w := by
  rcases hv with ⟨rfl, rfl⟩ | ⟨a, u, rfl, rfl, hau⟩
  · simp [boundA] at h; exact ⟨fun _ => h.symm, fun u hu => by cases hu⟩
  · refine ⟨fun h => (by cases h), fun u' hu => ?_⟩
    cases hu
    unfold boundA at h
    split at h
    · rename_i h1; cases h1
    · rename_i k m h1
      cases h1
      split at h
      · rename_i hm
        injection h with h; subst h
        rw [hau.int_inv]
        have := hy (by simp)
        simp only [Instr.sliceBound, asIntOf, Sem.run_bind, Sem.run_pure, Result.andThen_ok]
        rw [if_pos ⟨hm, by omega⟩]
        simp
      · cases h
    · cases h
theorem bounds_ok {isS : Bool} {len cap : Nat} {lo hi mx : Option AVal} {lo' hi' mx' : Option Value} {l h m : Nat} (hmh : mx' ≠ none → hi' ≠ none)
    (r1 : (lo = none ∧ lo' = none) ∨ ∃ a u, lo = some a ∧ lo' = some u ∧ VRel E a u) (r2 : (hi = none ∧ hi' = none) ∨ ∃ a u, hi = some a ∧ hi' = some u ∧ VRel E a u) (r3 : (mx = none ∧ mx' = none) ∨ ∃ a u, mx = some a ∧ mx' = some u ∧ VRel E a u)
    (h1 : boundA 0 lo = some l) (h2 : boundA len hi = some h) (h3 : boundA cap mx = some m) (hl : l ≤ h) (hh : h ≤ m) (hm : m ≤ cap) :
    (Instr.sliceBounds isS len cap lo' hi' mx').run C.P w = .ok (l, h, m) w := by
  unfold Instr.sliceBounds
  obtain ⟨m1, m2⟩ := bound_ok (C := C) (w := w) r3 h3 (if isS then .slice3Acap else .slice3Alen) (y := cap) (fun _ => hm)
  cases mx' with
  | none =>
    have em := m1 rfl
    subst em
    obtain ⟨b1, b2⟩ := bound_ok (C := C) (w := w) r2 h2 (if isS then .sliceAcap else .sliceAlen) (y := m) (fun _ => hh)
    obtain ⟨c1, c2⟩ := bound_ok (C := C) (w := w) r1 h1 .sliceB (y := h) (fun _ => hl)
    cases hi' with
    | none =>
      have := b1 rfl; subst this
      cases lo' with
      | none => have := c1 rfl; subst this; simp
      | some u => simp [Sem.run_bind, c2 u rfl, Result.andThen_ok]
    | some u2 =>
      cases lo' with
      | none => have := c1 rfl; subst this; simp [Sem.run_bind, b2 u2 rfl, Result.andThen_ok]
      | some u => simp [Sem.run_bind, b2 u2 rfl, c2 u rfl, Result.andThen_ok]
  | some u3 =>
    obtain ⟨b1, b2⟩ := bound_ok (C := C) (w := w) r2 h2 .slice3B (y := m) (fun _ => hh)
    obtain ⟨c1, c2⟩ := bound_ok (C := C) (w := w) r1 h1 .slice3C (y := h) (fun _ => hl)
    cases hi' with
    | none => exact absurd rfl (hmh (by simp))
    | some u2 =>
      cases lo' with
      | none => have := c1 rfl; subst this; simp [Sem.run_bind, m2 u3 rfl, b2 u2 rfl, Result.andThen_ok]
      | some u => simp [Sem.run_bind, m2 u3 rfl, b2 u2 rfl, c2 u rfl, Result.andThen_ok]
end
end Go.Gm
