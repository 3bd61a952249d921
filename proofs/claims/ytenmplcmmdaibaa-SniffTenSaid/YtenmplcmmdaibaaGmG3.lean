/- Regions that draw their order: any order comes to what the canonical one comes to. -/
import Derived.Test.YtenmplcmmdaibaaGmG2
namespace Go.Gm
set_option linter.unusedVariables false
set_option linter.unusedSimpArgs false
section
variable {C : Cfg} {ops : Array Oper}
def dstOf (ops : Array Oper) (i : Nat) : Option Tmp := (ops[i]?).bind (·.dst)
def foldP (ops : Array Oper) (S : Nat → Bool) (cv : Nat → Value) (l : List Nat) (a : Act) : Act := l.foldl (fun a i => if S i then a.put (dstOf ops i) (cv i) else a) a
theorem foldP_cons (S : Nat → Bool) (cv : Nat → Value) (x : Nat) (l : List Nat) (a : Act) : foldP ops S cv (x :: l) a = foldP ops S cv l (if S x then a.put (dstOf ops x) (cv x) else a) := rfl
theorem foldP_append (S : Nat → Bool) (cv : Nat → Value) (l l' : List Nat) (a : Act) : foldP ops S cv (l ++ l') a = foldP ops S cv l' (foldP ops S cv l a) := by simp [foldP, List.foldl_append]
theorem foldP_comm (S : Nat → Bool) (cv : Nat → Value) (d : Option Tmp) (v : Value) : ∀ (l : List Nat) (a : Act), (∀ j ∈ l, S j = true → ∀ x, d = some x → dstOf ops j ≠ some x) → foldP ops S cv l (a.put d v) = (foldP ops S cv l a).put d v
  | [], a, _ => rfl
  | x :: l, a, h => by
    rw [foldP_cons, foldP_cons]
    by_cases hx : S x = true
    · simp only [hx, if_true]
      rw [Act.put_comm a v (cv x) (h x (by simp) hx)]
      exact foldP_comm S cv d v l _ fun j hj => h j (by simp [hj])
    · simp only [hx, Bool.false_eq_true, if_false]
      exact foldP_comm S cv d v l _ fun j hj => h j (by simp [hj])
theorem foldP_same {S S' : Nat → Bool} {cv cv' : Nat → Value} : ∀ (l : List Nat) (a : Act), (∀ j ∈ l, S' j = S j ∧ (S j = true → cv' j = cv j)) → foldP ops S' cv' l a = foldP ops S cv l a
  | [], a, _ => rfl
  | x :: l, a, h => by
    rw [foldP_cons, foldP_cons]
    obtain ⟨h1, h2⟩ := h x (by simp)
    rw [h1]
    by_cases hx : S x = true
    · simp only [hx, if_true]; rw [h2 hx]; exact foldP_same l _ fun j hj => h j (by simp [hj])
    · simp only [hx, Bool.false_eq_true, if_false]; exact foldP_same l _ fun j hj => h j (by simp [hj])
/-- One operation more. -/
theorem foldP_add {S : Nat → Bool} {cv : Nat → Value} {i : Nat} {v : Value} (hi : S i = false) : ∀ (l : List Nat) (a : Act) (p : Nat), l[p]? = some i → (∀ (q r : Nat) (x : Nat), l[q]? = some x → l[r]? = some x → q = r) →
    (∀ (q : Nat) (j : Nat), p < q → l[q]? = some j → S j = true → ∀ x, dstOf ops i = some x → dstOf ops j ≠ some x) →
    foldP ops (fun j => if j = i then true else S j) (fun j => if j = i then v else cv j) l a = (foldP ops S cv l a).put (dstOf ops i) v
  | [], a, p, h, _, _ => by simp at h
  | x :: l, a, p, h, hu, hc => by
    rw [foldP_cons, foldP_cons]
    cases p with
    | zero =>
      simp at h; subst h
      simp only [if_true, hi, Bool.false_eq_true, if_false]
      have hni : ∀ j ∈ l, j ≠ x := fun j hj e => by
        subst e
        obtain ⟨q, hq, hjq⟩ := List.getElem_of_mem hj
        have := hu (q + 1) 0 j (by simp [List.getElem?_eq_getElem hq, hjq]) (by simp)
        omega
      rw [foldP_same (S := S) (cv := cv) l _ fun j hj => ⟨by simp [hni j hj], fun _ => by simp [hni j hj]⟩]
      exact foldP_comm S cv _ v l a fun j hj hs => by
        obtain ⟨q, hq, hjq⟩ := List.getElem_of_mem hj
        exact hc (q + 1) j (by omega) (by simp [List.getElem?_eq_getElem hq, hjq]) hs
    | succ p =>
      simp at h
      have hne : x ≠ i := fun e => by
        have := hu (p + 1) 0 i (by simpa using h) (by simp [e])
        omega
      simp only [if_neg hne]
      exact foldP_add hi l _ p h (fun q r y h1 h2 => by have := hu (q + 1) (r + 1) y (by simpa using h1) (by simpa using h2); omega) (fun q j hq hj => hc (q + 1) j (by omega) (by simpa using hj))
theorem put_size (a : Act) (d : Option Tmp) (v : Value) : (a.put d v).tmps.size = a.tmps.size := by cases d <;> simp [Act.put]
theorem foldP_size (S : Nat → Bool) (cv : Nat → Value) : ∀ (l : List Nat) (a : Act), (foldP ops S cv l a).tmps.size = a.tmps.size
  | [], a => rfl
  | x :: l, a => by rw [foldP_cons, foldP_size S cv l]; split <;> simp [put_size]
theorem foldP_defers (S : Nat → Bool) (cv : Nat → Value) : ∀ (l : List Nat) (a : Act), (foldP ops S cv l a).defers = a.defers
  | [], a => rfl
  | x :: l, a => by rw [foldP_cons, foldP_defers S cv l]; split <;> simp [put_defers]
theorem put_other (a : Act) (d : Option Tmp) (v : Value) (t : Nat) (h : d ≠ some t) : (a.put d v).tmps.getD t undef = a.tmps.getD t undef := by
  cases d with
  | none => rfl
  | some d =>
    have : d ≠ t := fun e => h (by rw [e])
    simp [Act.put, Array.getD_eq_getD_getElem?, Array.getElem?_setIfInBounds_ne this]
theorem foldP_read (S : Nat → Bool) (cv : Nat → Value) (t : Nat) : ∀ (l : List Nat) (a : Act), (∀ j ∈ l, S j = true → dstOf ops j ≠ some t) → (foldP ops S cv l a).tmps.getD t undef = a.tmps.getD t undef
  | [], a, _ => rfl
  | x :: l, a, h => by
    rw [foldP_cons, foldP_read S cv t l _ fun j hj => h j (by simp [hj])]
    split
    · rename_i hx; exact put_other a _ _ t (h x (by simp) hx)
    · rfl
theorem putT_other (tm : List AVal) (d : Option Tmp) (v : AVal) (t : Nat) (h : d ≠ some t) : (putT tm d v).getD t .undef = tm.getD t .undef := by
  cases d with
  | none => rfl
  | some d =>
    have : d ≠ t := fun e => h (by rw [e])
    simp [putT, List.getD_eq_getElem?_getD, List.getElem?_set_ne this]
theorem put_at {E : Env} {tm : List AVal} {a : Act} {x : AVal} {v : Value} (hl : tm.length = a.tmps.size) (hv : VRel E x v) (t : Nat) : VRel E ((putT tm (some t) x).getD t .undef) ((a.put (some t) v).tmps.getD t undef) := by
  simp only [putT, Act.put, List.getD_eq_getElem?_getD, Array.getD_eq_getD_getElem?]
  by_cases ht : t < tm.length
  · rw [List.getElem?_set_self ht, Array.getElem?_setIfInBounds_self_of_lt (by omega)]
    exact hv
  · rw [List.getElem?_eq_none (by simp; omega)]
    exact .undef _

/-- The road, and what is known of it. -/
structure Road (C : Cfg) (ops : Array Oper) (perm : List Nat) (t : Tr) (M : Nat) : Prop where
  len : perm.length = ops.size
  mem : ∀ i, i < ops.size → i ∈ perm
  le : M ≤ perm.length
  spec : ∀ (a : Nat) (j : Nat), perm[a]? = some j → ∃ oj, ops[j]? = some oj ∧ (∀ e ∈ oj.after, Region.binds .any e = true → ∃ b, b < a ∧ perm[b]? = some e.on) ∧
      ∀ (b i : Nat), b < a → perm[b]? = some i → ∃ oi, ops[i]? = some oi ∧ i ≠ j ∧ (((Region.before ops).getD j 0).testBit i = true ∨ (isE oj = false ∧ oi.apart ops oj = true ∧ oj.apart ops oi = true)) ∧ (isA oi = true → isE oj = false → ∀ d, oi.dst = some d → d ∉ oj.looksAt ops)
  step : ∀ j, j < M → StepOk C ops (fun i j => ((Region.before ops).getD j 0).testBit i) perm t j
section
variable {perm : List Nat} {t : Tr} {M : Nat}
theorem Road.inj (R : Road C ops perm t M) {a b i : Nat} (h1 : perm[a]? = some i) (h2 : perm[b]? = some i) : a = b := by
  rcases Nat.lt_trichotomy a b with h | h | h
  · obtain ⟨_, _, _, h3⟩ := R.spec b i h2
    obtain ⟨_, _, h4, _⟩ := h3 a i h h1
    exact absurd rfl h4
  · exact h
  · obtain ⟨_, _, _, h3⟩ := R.spec a i h1
    obtain ⟨_, _, h4, _⟩ := h3 b i h h2
    exact absurd rfl h4
theorem Road.pos (R : Road C ops perm t M) {i : Nat} (hi : i < ops.size) : ∃ j : Nat, perm[j]? = some i := by
  obtain ⟨j, hj, he⟩ := List.getElem_of_mem (R.mem i hi)
  exact ⟨j, by rw [List.getElem?_eq_getElem hj, he]⟩
theorem apart_l {x y : Oper} (h : x.apart ops y = true) {d : Tmp} (hd : x.dst = some d) : d ∉ y.looksAt ops ∧ y.dst ≠ some d := by
  unfold Oper.apart at h
  rw [hd] at h
  simp only [Bool.and_eq_true, Bool.not_eq_true', bne_iff_ne] at h
  exact ⟨by simpa using h.1.1, h.1.2⟩
theorem apart_r {x y : Oper} (h : x.apart ops y = true) {d : Tmp} (hd : y.dst = some d) : d ∉ x.looksAt ops := by
  unfold Oper.apart at h
  rw [hd] at h
  simp only [Bool.and_eq_true, Bool.not_eq_true'] at h
  simpa using h.2
theorem dstOf_eq {i : Nat} {o : Oper} (h : ops[i]? = some o) : dstOf ops i = o.dst := by simp [dstOf, h]
theorem Road.tlen (R : Road C ops perm t M) {n : Nat} (h0 : (t.T 0).length = n) : ∀ j, j ≤ M → (t.T j).length = n
  | 0, _ => h0
  | j + 1, hj => by
    obtain ⟨i, o, _, _, _, h, _⟩ := R.step j (by omega)
    rw [h]
    have := R.tlen h0 j (by omega)
    cases o.dst <;> simp [putT, this]
/-- What stands in a temporary that is looked at. -/
theorem Road.read (R : Road C ops perm t M) {E : Env} {a0 : Act} {S : Nat → Bool} {cv : Nat → Value} (h0 : VRels E (t.T 0) a0.tmps.toList) (x : Nat) :
    ∀ K, K ≤ M → (∀ (j i : Nat) (o : Oper), j < K → perm[j]? = some i → ops[i]? = some o → o.dst = some x → S i = true ∧ VRel E (t.V j) (cv i)) →
      VRel E ((t.T K).getD x .undef) ((foldP ops S cv (perm.take K) a0).tmps.getD x undef)
  | 0, _, _ => by simpa [foldP] using getD_rel h0 x
  | K + 1, hK, h => by
    obtain ⟨i, o, h1, h2, _, h3, _⟩ := R.step K (by omega)
    have ih := R.read h0 x K (by omega) fun j i o hj => h j i o (by omega)
    have htake : perm.take (K + 1) = perm.take K ++ [i] := by
      rw [List.take_add_one, h1]; rfl
    rw [htake, foldP_append, h3, foldP_cons]
    have hl : (t.T K).length = (foldP ops S cv (perm.take K) a0).tmps.size := by
      rw [foldP_size, R.tlen rfl K (by omega)]
      simpa using h0.1
    rw [dstOf_eq h2]
    by_cases hd : o.dst = some x
    · obtain ⟨h4, h5⟩ := h K i o (by omega) h1 h2 hd
      simp only [h4, if_true, hd]
      exact put_at hl h5 x
    · rw [putT_other _ _ _ _ hd]
      split
      · show VRel E _ ((foldP ops S cv [] _).tmps.getD x undef)
        simp only [foldP, List.foldl_nil]
        rw [put_other _ _ _ _ hd]; exact ih
      · exact ih
end
end
end Go.Gm
