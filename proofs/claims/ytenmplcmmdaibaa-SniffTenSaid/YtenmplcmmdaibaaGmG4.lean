/- Regions that draw their order: the law. -/
import Derived.Test.YtenmplcmmdaibaaGmG3
namespace Go.Gm
set_option linter.unusedVariables false
set_option linter.unusedSimpArgs false
section
variable {C : Cfg} {ops : Array Oper} {perm : List Nat} {t : Tr} {M : Nat}
/-- What a block that was laid ahead of its turn will be. -/
def Early (E0 : Env) (w0 : World) (t : Tr) (E : Env) (H : AHeap) (w : World) (j b : Nat) (v : Value) : Prop :=
  ∃ (blk : Blk) (f : Nat → AVal), w0.heap.size ≤ b ∧ Fresh E H w b blk ∧ t.cur (j + 1) = t.cur j ++ [blk] ∧ t.V j = f (t.cur j).length ∧ ∀ (E' : Env) (n : Nat), E'.φ n 0 = some b → VRel E' (f n) v
structure Inv (C : Cfg) (ops : Array Oper) (perm : List Nat) (t : Tr) (M : Nat) (E0 : Env) (H0 : AHeap) (w0 : World) (c : Nat) (S : Nat → Bool) (cv : Nat → Value) (bo : Nat → Nat) (E : Env) (w : World) : Prop where
  le : c ≤ M
  pre : ∀ (j i : Nat), j < c → perm[j]? = some i → S i = true
  noE : ∀ (j i : Nat) (o : Oper), c ≤ j → perm[j]? = some i → ops[i]? = some o → S i = true → isE o = false ∧ j < M
  closed : ∀ (j : Nat) (o : Oper), S j = true → ops[j]? = some o → ∀ e ∈ o.after, Region.binds .any e = true → S e.on = true
  glob : GlobOk C.G E
  step : Step E0 H0 w0 E (t.cur c) w
  sim : Sim E (t.cur c) w
  vals : ∀ (j i : Nat) (o : Oper), perm[j]? = some i → ops[i]? = some o → S i = true → (j < c ∨ isA o = false ∨ t.B j = false) → VRel E (t.V j) (cv i)
  early : ∀ (j i : Nat) (o : Oper), c ≤ j → perm[j]? = some i → ops[i]? = some o → S i = true → isA o = true → t.B j = true → Early E0 w0 t E (t.cur c) w j (bo i) (cv i)
  inj : ∀ (j i j' i' : Nat) (o o' : Oper), c ≤ j → c ≤ j' → perm[j]? = some i → perm[j']? = some i' → ops[i]? = some o → ops[i']? = some o' → S i = true → S i' = true → isA o = true → isA o' = true → t.B j = true → t.B j' = true → bo i = bo i' → i = i'
theorem Fresh.persist {E E' : Env} {H H' : AHeap} {w w' : World} {b : Nat} {blk : Blk} (h : Fresh E H w b blk) (st : Step E H w E' H' w') : Fresh E' H' w' b blk := by
  refine ⟨Nat.lt_of_lt_of_le h.lt st.size, fun ho => ?_, fun o => by rw [st.imm b o h.lt h.free]; exact h.imm o, ?_⟩
  · rcases st.own b ho with h1 | h1
    · exact h.free h1
    · have := h.lt; omega
  · rcases h.rel with ⟨cells, cs, tt, h1, h2, h3⟩ | ⟨h1, ck, h2⟩
    · exact .inl ⟨cells, cs, tt, h1, by rw [st.frame b h.lt h.free]; exact h2, h3.mono st.le⟩
    · exact .inr ⟨h1, ck, by rw [st.frame b h.lt h.free]; exact h2⟩
theorem Early.persist {E0 : Env} {w0 : World} {E E' : Env} {H H' : AHeap} {w w' : World} {j b : Nat} {v : Value} (h : Early E0 w0 t E H w j b v) (st : Step E H w E' H' w') : Early E0 w0 t E' H' w' j b v := by
  obtain ⟨blk, f, h1, h2, h3⟩ := h
  exact ⟨blk, f, h1, h2.persist st, h3⟩
/-- What owns a block once another one was taken in. -/
theorem owned_take {E : Env} {H : AHeap} {w : World} {b : Nat} {blk : Blk} (hs : Sim E H w) (h : Fresh E H w b blk) {x : Nat} (ho : Owned (E.setφ H.length 0 b) (H ++ [blk]) x) : x = b ∨ Owned E H x := by
  have st : Step E H { w with heap := w.heap } E H w := .refl E H w
  obtain ⟨i, hi⟩ := ho
  unfold loc at hi
  rw [List.getElem?_append] at hi
  split at hi
  · rename_i hlt
    right
    refine ⟨i, ?_⟩
    unfold loc
    rw [List.getElem?_eq_getElem hlt] at hi ⊢
    simp only [Option.bind_some] at hi ⊢
    have hno : ∀ g y, E.φ H.length g = some y → False := fun g x hx => by have := hs.dom _ _ _ hx; omega
    cases hB : H[i] <;> rw [hB] at hi <;> simp only [locB, Env.setφ] at hi ⊢ <;> first | exact hi | (rw [if_neg (by omega)] at hi; exact hi)
  · rename_i hlt
    cases hx : i - H.length with
    | succ n => simp [hx] at hi
    | zero =>
      have : i = H.length := by omega
      subst this
      rw [hx] at hi
      simp only [List.getElem?_cons_zero, Option.bind_some] at hi
      left
      rcases h.rel with ⟨cells, cs, tt, h1, _⟩ | ⟨h1, _⟩ <;> subst h1 <;> simp [locB, Env.setφ] at hi <;> exact hi.symm
theorem Early.take {E0 : Env} {w0 : World} {E : Env} {H : AHeap} {w : World} {j b b' : Nat} {v : Value} {blk : Blk} (hs : Sim E H w) (hb : Fresh E H w b blk) (h : Early E0 w0 t E H w j b' v) (hne : b' ≠ b) (hle : E.le (E.setφ H.length 0 b)) :
    Early E0 w0 t (E.setφ H.length 0 b) (H ++ [blk]) w j b' v := by
  obtain ⟨blk', f, h1, h2, h3⟩ := h
  refine ⟨blk', f, h1, ⟨h2.lt, fun ho => ?_, h2.imm, ?_⟩, h3⟩
  · rcases owned_take hs hb ho with h4 | h4
    · exact hne h4
    · exact h2.free h4
  · rcases h2.rel with ⟨cells, cs, tt, q1, q2, q3⟩ | q
    · exact .inl ⟨cells, cs, tt, q1, q2, q3.mono hle⟩
    · exact .inr q
section
variable {E0 : Env} {H0 : AHeap} {w0 : World} {S : Nat → Bool} {cv : Nat → Value} {bo : Nat → Nat}
theorem isE_iff {o : Oper} : isE o = true ↔ cls o.op = .e := by unfold isE; split <;> simp_all
theorem isA_iff {o : Oper} : isA o = true ↔ cls o.op = .a := by unfold isA; split <;> simp_all
/-- An operation that was done ahead of its turn has its turn. -/
theorem Inv.absorb (R : Road C ops perm t M) {c : Nat} {E : Env} {w : World} (I : Inv C ops perm t M E0 H0 w0 c S cv bo E w) (hc : c < M) {i : Nat} (hi : perm[c]? = some i) (hS : S i = true) :
    ∃ E', Inv C ops perm t M E0 H0 w0 (c + 1) S cv bo E' w ∧ E.le E' := by
  obtain ⟨i', o, h1, h2, _, _, hst⟩ := R.step c hc
  rw [hi] at h1; cases h1
  have hnE := (I.noE c i o (Nat.le_refl _) hi h2 hS).1
  have pre' : ∀ (j x : Nat), j < c + 1 → perm[j]? = some x → S x = true := fun j x hj hx => by
    rcases Nat.lt_succ_iff_lt_or_eq.1 hj with h | h
    · exact I.pre j x h hx
    · subst h; rw [hi] at hx; cases hx; exact hS
  have plain : t.cur (c + 1) = t.cur c → VRel E (t.V c) (cv i) → ∃ E', Inv C ops perm t M E0 H0 w0 (c + 1) S cv bo E' w ∧ E.le E' := by
    intro hcur hv
    refine ⟨E, ⟨hc, pre', fun j x ox hj => I.noE j x ox (by omega), I.closed, I.glob, by rw [hcur]; exact I.step, by rw [hcur]; exact I.sim, fun j x ox hx hox hSx hh => ?_, fun j x ox hj => by rw [hcur]; exact I.early j x ox (by omega), fun j x j' x' ox ox' hj hj' => I.inj j x j' x' ox ox' (by omega) (by omega)⟩, .refl E⟩
    by_cases hjc : j = c
    · subst hjc; rw [hi] at hx; cases hx; exact hv
    · exact I.vals j x ox hx hox hSx (hh.imp (fun h => by omega) id)
  rcases hst with ⟨hcl, _, _, _, hcur, _⟩ | ⟨hcl, hg, _⟩ | ⟨hcl, _⟩
  · have hnA : isA o = false := by cases hq : isA o <;> simp_all [isA_iff]
    exact plain hcur (I.vals c i o hi h2 hS (.inr (.inl hnA)))
  · have hA : isA o = true := isA_iff.2 hcl
    cases hB : t.B c with
    | false =>
      rw [hB] at hg
      simp only [gA, Bool.false_eq_true, if_false, Option.some.injEq, Prod.mk.injEq] at hg
      exact plain hg.2.symm (by rw [← hg.1]; exact .undef _)
    | true =>
      obtain ⟨blk, f, e1, e2, e3, e4, e5⟩ := I.early c i o (Nat.le_refl _) hi h2 hS hA hB
      obtain ⟨k1, k2⟩ := e2.take I.sim I.step e1
      have hle : E.le (E.setφ (t.cur c).length 0 (bo i)) := by
        refine ⟨fun x g y hx => ?_, fun _ _ _ h => h, fun _ _ _ h => h⟩
        have : ¬ (x = (t.cur c).length ∧ g = 0) := fun ⟨q1, q2⟩ => by have := I.sim.dom _ _ _ hx; omega
        simp [Env.setφ, this, hx]
      refine ⟨E.setφ (t.cur c).length 0 (bo i), ⟨hc, pre', fun j x ox hj => I.noE j x ox (by omega), I.closed, I.glob.mono hle, by rw [e3]; exact k2, by rw [e3]; exact k1, fun j x ox hx hox hSx hh => ?_, fun j x ox hj hx hox hSx hAx hBx => ?_,
        fun j x j' x' ox ox' hj hj' => I.inj j x j' x' ox ox' (by omega) (by omega)⟩, hle⟩
      · by_cases hjc : j = c
        · subst hjc; rw [hi] at hx; cases hx
          rw [e4]; exact e5 _ _ (by simp [Env.setφ])
        · exact (I.vals j x ox hx hox hSx (hh.imp (fun h => by omega) id)).mono hle
      · rw [e3]
        refine (I.early j x ox (by omega) hx hox hSx hAx hBx).take I.sim e2 (fun hb => ?_) hle
        have := I.inj j x c i ox o (by omega) (Nat.le_refl _) hx hi hox h2 hSx hS hAx hA hBx hB hb
        subst this
        have := R.inj hx hi
        omega
  · rw [isE_iff.2 hcl] at hnE; cases hnE
theorem Inv.absorbTo (R : Road C ops perm t M) (K : Nat) (hK : K ≤ M) (hS : ∀ (j i : Nat), j < K → perm[j]? = some i → S i = true) : ∀ (d c : Nat) (E : Env) (w : World), c + d = K → Inv C ops perm t M E0 H0 w0 c S cv bo E w → ∃ E', Inv C ops perm t M E0 H0 w0 K S cv bo E' w ∧ E.le E'
  | 0, c, E, w, h, I => by simp at h; subst h; exact ⟨E, I, .refl E⟩
  | d + 1, c, E, w, h, I => by
    obtain ⟨i, o, h1, _⟩ := R.step c (by omega)
    obtain ⟨E', I', l1⟩ := I.absorb R (by omega) h1 (hS c i (by omega) h1)
    obtain ⟨E2, I2, l2⟩ := Inv.absorbTo R K hK hS d (c + 1) E' w (by omega) I'
    exact ⟨E2, I2, l1.trans l2⟩
end
end
end Go.Gm
