/- Regions that draw their order: the law, whole. -/
import Derived.Test.YtenmplcmmdaibaaGmG4
namespace Go.Gm
set_option linter.unusedVariables false
set_option linter.unusedSimpArgs false
theorem filter_lt {p q : Nat → Bool} {i : Nat} (hp : p i = true) (hq : q i = false) (h : ∀ x, q x = true → p x = true) : ∀ l : List Nat, (l.filter q).length ≤ (l.filter p).length ∧ (i ∈ l → (l.filter q).length < (l.filter p).length)
  | [] => ⟨Nat.le_refl _, fun h => by simp at h⟩
  | x :: l => by
    obtain ⟨h1, h2⟩ := filter_lt hp hq h l
    by_cases hx : q x = true
    · rw [List.filter_cons_of_pos hx, List.filter_cons_of_pos (h x hx)]
      simp only [List.length_cons]
      refine ⟨by omega, fun hm => ?_⟩
      rcases List.mem_cons.1 hm with e | e
      · rw [← e, hq] at hx; cases hx
      · have := h2 e; omega
    · rw [List.filter_cons_of_neg hx]
      by_cases hpx : p x = true
      · rw [List.filter_cons_of_pos hpx]
        simp only [List.length_cons]
        exact ⟨by omega, fun _ => by omega⟩
      · rw [List.filter_cons_of_neg hpx]
        refine ⟨h1, fun hm => ?_⟩
        rcases List.mem_cons.1 hm with e | e
        · rw [← e] at hpx; exact absurd hp hpx
        · exact h2 e
section
variable {C : Cfg} {ops : Array Oper} {perm : List Nat} {t : Tr} {M : Nat} {E0 : Env} {H0 : AHeap} {w0 : World} {S : Nat → Bool} {cv : Nat → Value} {bo : Nat → Nat}
/-- An operation is done, ahead of its turn or not. -/
theorem Inv.add (R : Road C ops perm t M) {c : Nat} {E : Env} {w : World} (I : Inv C ops perm t M E0 H0 w0 c S cv bo E w) {j i : Nat} {o : Oper} (hj : perm[j]? = some i) (ho : ops[i]? = some o) (hcj : c ≤ j) (hjM : j < M) (hnE : isE o = false)
    (hedge : ∀ e ∈ o.after, Region.binds .any e = true → S e.on = true) {E' : Env} {w' : World} (hs : Sim E' (t.cur c) w') (st : Step E (t.cur c) w E' (t.cur c) w') (v : Value) (b : Nat)
    (hv : (isA o = false ∨ t.B j = false) → VRel E' (t.V j) v) (hb : isA o = true → t.B j = true → b = w.heap.size ∧ Early E0 w0 t E' (t.cur c) w' j b v) :
    Inv C ops perm t M E0 H0 w0 c (fun x => if x = i then true else S x) (fun x => if x = i then v else cv x) (fun x => if x = i then b else bo x) E' w' := by
  have hne : ∀ {q x : Nat}, perm[q]? = some x → x ≠ i → q ≠ j := fun h1 h2 h3 => h2 (by subst h3; rw [hj] at h1; exact (Option.some.inj h1).symm)
  refine ⟨I.le, fun q x hq hx => ?_, fun q x ox hq hx hox hS => ?_, fun x ox hS hox e he hbd => ?_, I.glob.mono st.le, I.step.trans st, hs, fun q x ox hx hox hS hh => ?_, fun q x ox hq hx hox hS hA hB => ?_, fun q x q' x' ox ox' hq hq' hx hx' hox hox' hS hS' hA hA' hB hB' heq => ?_⟩
  · show (if x = i then true else S x) = true
    split
    · rfl
    · exact I.pre q x hq hx
  · by_cases hxi : x = i
    · subst hxi
      rw [ho] at hox; cases hox
      have := R.inj hx hj
      exact ⟨hnE, by omega⟩
    · simp only [if_neg hxi] at hS
      exact I.noE q x ox hq hx hox hS
  · have hSe : S e.on = true := by
      by_cases hxi : x = i
      · subst hxi; rw [ho] at hox; cases hox; exact hedge e he hbd
      · simp only [if_neg hxi] at hS; exact I.closed x ox hS hox e he hbd
    show (if e.on = i then true else S e.on) = true
    split
    · rfl
    · exact hSe
  · by_cases hxi : x = i
    · subst hxi
      rw [ho] at hox; cases hox
      have := R.inj hx hj; subst this
      simp only [if_true]
      exact hv (hh.resolve_left (by omega))
    · simp only [if_neg hxi] at hS ⊢
      exact (I.vals q x ox hx hox hS hh).mono st.le
  · by_cases hxi : x = i
    · subst hxi
      rw [ho] at hox; cases hox
      have := R.inj hx hj; subst this
      simp only [if_true]
      exact (hb hA hB).2
    · simp only [if_neg hxi] at hS ⊢
      exact (I.early q x ox hq hx hox hS hA hB).persist st
  · by_cases hxi : x = i <;> by_cases hxi' : x' = i
    · rw [hxi, hxi']
    · exfalso
      subst hxi
      rw [ho] at hox; cases hox
      have := R.inj hx hj; subst this
      simp only [if_true, if_neg hxi'] at heq hS'
      obtain ⟨blk, f, _, h2, _⟩ := I.early q' x' ox' hq' hx' hox' hS' hA' hB'
      have := h2.lt
      have := (hb hA hB).1
      omega
    · exfalso
      subst hxi'
      rw [ho] at hox'; cases hox'
      have := R.inj hx' hj; subst this
      simp only [if_true, if_neg hxi] at heq hS
      obtain ⟨blk, f, _, h2, _⟩ := I.early q x ox hq hx hox hS hA hB
      have := h2.lt
      have := (hb hA' hB').1
      omega
    · simp only [if_neg hxi, if_neg hxi'] at heq hS hS'
      exact I.inj q x q' x' ox ox' hq hq' hx hx' hox hox' hS hS' hA hA' hB hB' heq
/-- An operation that acts has its turn. -/
theorem Inv.addE (R : Road C ops perm t M) {c : Nat} {E : Env} {w : World} (I : Inv C ops perm t M E0 H0 w0 c S cv bo E w) {i : Nat} {o : Oper} (hj : perm[c]? = some i) (ho : ops[i]? = some o) (hcM : c < M) (hE : isE o = true)
    (hedge : ∀ e ∈ o.after, Region.binds .any e = true → S e.on = true) {E' : Env} {w' : World} (hs : Sim E' (t.cur (c + 1)) w') (st : Step E (t.cur c) w E' (t.cur (c + 1)) w') (v : Value) (hv : VRel E' (t.V c) v) :
    Inv C ops perm t M E0 H0 w0 (c + 1) (fun x => if x = i then true else S x) (fun x => if x = i then v else cv x) bo E' w' := by
  have hnA : isA o = false := by
    cases hq : isA o with
    | false => rfl
    | true => rw [isE_iff] at hE; rw [isA_iff] at hq; rw [hE] at hq; cases hq
  refine ⟨hcM, fun q x hq hx => ?_, fun q x ox hq hx hox hS => ?_, fun x ox hS hox e he hbd => ?_, I.glob.mono st.le, I.step.trans st, hs, fun q x ox hx hox hS hh => ?_, fun q x ox hq hx hox hS hA hB => ?_, fun q x q' x' ox ox' hq hq' hx hx' hox hox' hS hS' hA hA' hB hB' heq => ?_⟩
  · show (if x = i then true else S x) = true
    split
    · rfl
    · rename_i hxi
      refine I.pre q x ?_ hx
      have : q ≠ c := fun e => hxi (by subst e; rw [hj] at hx; exact (Option.some.inj hx).symm)
      omega
  · by_cases hxi : x = i
    · subst hxi; have := R.inj hx hj; omega
    · simp only [if_neg hxi] at hS; exact I.noE q x ox (by omega) hx hox hS
  · have hSe : S e.on = true := by
      by_cases hxi : x = i
      · subst hxi; rw [ho] at hox; cases hox; exact hedge e he hbd
      · simp only [if_neg hxi] at hS; exact I.closed x ox hS hox e he hbd
    show (if e.on = i then true else S e.on) = true
    split
    · rfl
    · exact hSe
  · by_cases hxi : x = i
    · subst hxi
      have := R.inj hx hj; subst this
      simp only [if_true]; exact hv
    · simp only [if_neg hxi] at hS ⊢
      have : q ≠ c := fun e => hxi (by subst e; rw [hj] at hx; exact (Option.some.inj hx).symm)
      exact (I.vals q x ox hx hox hS (hh.imp (fun h => by omega) id)).mono st.le
  · by_cases hxi : x = i
    · subst hxi; have := R.inj hx hj; omega
    · simp only [if_neg hxi] at hS ⊢
      exact (I.early q x ox (by omega) hx hox hS hA hB).persist st
  · by_cases hxi : x = i
    · subst hxi; have := R.inj hx hj; omega
    · by_cases hxi' : x' = i
      · subst hxi'; have := R.inj hx' hj; omega
      · simp only [if_neg hxi, if_neg hxi'] at heq hS hS'
        exact I.inj q x q' x' ox ox' (by omega) (by omega) hx hx' hox hox' hS hS' hA hA' hB hB' heq

/-- The temporaries that an operation looks at, as the road has them. -/
def looked (n : Nat) (ops : Array Oper) (o : Oper) (tm : List AVal) : List AVal := (List.range n).map fun x => if x ∈ o.looksAt ops then tm.getD x .undef else .undef
theorem looked_get {n : Nat} {o : Oper} {tm : List AVal} (hn : tm.length = n) {x : Nat} (hx : x ∈ o.looksAt ops) : (looked n ops o tm).getD x .undef = tm.getD x .undef := by
  unfold looked
  rw [List.getD_eq_getElem?_getD, List.getElem?_map]
  by_cases h : x < n
  · rw [List.getElem?_range h]; simp [hx]
  · rw [List.getElem?_eq_none (by simp; omega), List.getD_eq_getElem?_getD, List.getElem?_eq_none (by omega)]; rfl
theorem looked_rho {n : Nat} {o : Oper} {tm : List AVal} (hn : tm.length = n) {x : Operand} (hx : x ∈ o.op.operands) : rho C.G (looked n ops o tm) x = rho C.G tm x := by
  cases x with
  | tmp d =>
    simp only [rho]
    refine looked_get hn ?_
    unfold Oper.looksAt
    refine List.mem_append.2 (.inl (List.mem_filterMap.2 ⟨.tmp d, by simpa using hx, rfl⟩))
  | _ => rfl
theorem looked_want {n : Nat} {o : Oper} {tm : List AVal} (hn : tm.length = n) : wantA ops o (looked n ops o tm) = wantA ops o tm := by
  unfold wantA
  cases hg : o.guard with
  | none => rfl
  | some p =>
    obtain ⟨g, want⟩ := p
    simp only []
    cases hd : (ops[g]?).bind (·.dst) with
    | none => rfl
    | some d =>
      have : d ∈ o.looksAt ops := by
        unfold Oper.looksAt
        rw [hg]
        refine List.mem_append.2 (.inr ?_)
        simp [hd]
      simp only [Option.map_some]
      rw [looked_get hn this]
theorem Inv.looks (R : Road C ops perm t M) {n : Nat} {c : Nat} {E : Env} {w : World} (I : Inv C ops perm t M E0 H0 w0 c S cv bo E w) {a0 : Act} (h0 : VRels E (t.T 0) a0.tmps.toList) (hn : (t.T 0).length = n) {j i : Nat} {o : Oper} (hj : perm[j]? = some i) (ho : ops[i]? = some o) (hjM : j ≤ M) (hS : S i = false)
    (hbf : ∀ x, ((Region.before ops).getD i 0).testBit x = true → S x = true) (hcase : isE o = false ∨ j = c) : VRels E (looked n ops o (t.T j)) (foldP ops S cv perm a0).tmps.toList := by
  have hsz : (foldP ops S cv perm a0).tmps.size = n := by rw [foldP_size, ← hn]; simpa using h0.1.symm
  refine ⟨by simp [looked, hsz], fun x y u h1 h2 => ?_⟩
  have hx : x < n := by have := (List.getElem?_eq_some_iff.1 h1).1; simpa [looked] using this
  have hy : y = if x ∈ o.looksAt ops then (t.T j).getD x .undef else .undef := by
    unfold looked at h1
    rw [List.getElem?_map, List.getElem?_range hx] at h1
    simpa using h1.symm
  have hu : u = (foldP ops S cv perm a0).tmps.getD x undef := by
    rw [Array.getElem?_toList] at h2
    simp [Array.getD_eq_getD_getElem?, h2]
  rw [hy]
  split
  · rename_i hl
    rw [hu]
    have hsplit : foldP ops S cv perm a0 = foldP ops S cv (perm.drop j) (foldP ops S cv (perm.take j) a0) := by rw [← foldP_append, List.take_append_drop]
    rw [hsplit, foldP_read]
    · refine R.read h0 x j hjM fun j' i' o' hj' hi' ho' hd => ?_
      obtain ⟨o2, q1, q2, q3⟩ := R.spec j i hj
      rw [ho] at q1; cases q1
      obtain ⟨o3, p1, p2, p3, p4⟩ := q3 j' i' hj' hi'
      rw [ho'] at p1; cases p1
      have hSi : S i' = true := by
        rcases p3 with p3 | ⟨_, p3, _⟩
        · exact hbf _ p3
        · exact absurd hl (apart_l p3 hd).1
      refine ⟨hSi, I.vals j' i' o' hi' ho' hSi ?_⟩
      by_cases hjc : j' < c
      · exact .inl hjc
      · rcases hcase with hE | hE
        · cases hA : isA o' with
          | false => exact .inr (.inl rfl)
          | true => exact absurd hl (p4 hA hE x hd)
        · omega
    · intro k hk hSk hd
      obtain ⟨q, hq, hkq⟩ := List.getElem_of_mem hk
      have hq' : perm[j + q]? = some k := by rw [← List.getElem?_drop, List.getElem?_eq_getElem hq, hkq]
      cases q with
      | zero => rw [Nat.add_zero, hj] at hq'; cases hq'; rw [hS] at hSk; cases hSk
      | succ q =>
        obtain ⟨ok, q1, q2, q3⟩ := R.spec (j + (q + 1)) k hq'
        obtain ⟨o3, p1, p2, p3, p4⟩ := q3 j i (by omega) hj
        rw [ho] at p1; cases p1
        rw [dstOf_eq q1] at hd
        rcases p3 with p3 | ⟨_, _, p3⟩
        · have : S i = true := before_done (S := fun x => S x = true) (fun x ox hSx hox => I.closed x ox hSx hox) k i (fun ox hox => I.closed k ox hSk hox) p3
          rw [hS] at this; cases this
        · exact (apart_l p3 hd).1 hl
  · exact .undef _
end
end Go.Gm
