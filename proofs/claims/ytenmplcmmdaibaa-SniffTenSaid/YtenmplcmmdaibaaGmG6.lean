/- Regions that draw their order: every order. -/
import Derived.Test.YtenmplcmmdaibaaGmG5
namespace Go.Gm
set_option linter.unusedVariables false
set_option linter.unusedSimpArgs false
section
variable {C : Cfg} {ops : Array Oper} {perm : List Nat} {t : Tr} {M : Nat} {E0 : Env} {H0 : AHeap} {w0 : World}
theorem stab_at {bf : Nat → Bool} {f : AHeap → Option AVal} {v : AVal} : ∀ (hist : List (Nat × AHeap)) (q : Nat) (e : Nat) (h : AHeap), stab bf f v hist → hist[q]? = some (e, h) → (∀ (r : Nat) (e' : Nat) (h' : AHeap), r ≤ q → hist[r]? = some (e', h') → bf e' = false) → f h = some v
  | [], q, e, h, _, hq, _ => by simp at hq
  | (e1, h1) :: r, q, e, h, hst, hq, hb => by
    have h0 := hb 0 e1 h1 (by omega) rfl
    simp only [stab, h0, Bool.false_eq_true, if_false] at hst
    cases q with
    | zero => simp at hq; obtain ⟨rfl, rfl⟩ := hq; exact hst.1
    | succ q => exact stab_at r q e h hst.2 (by simpa using hq) (fun r' e' h' hr' => hb (r' + 1) e' h' (by omega))
theorem allocA_push {cells : Option (List AVal)} {H H' : AHeap} {z : AVal} (h : allocA cells H = some (z, H')) : ∃ blk, H' = H ++ [blk] := by
  cases cells with
  | none => cases h
  | some cs =>
    simp only [allocA, Option.bind_some] at h
    split at h
    · simp only [Option.some.injEq, Prod.mk.injEq] at h; exact ⟨_, h.2.symm⟩
    · cases h
theorem makeA_push {sz bytes : Nat} {z0 : Option (List AVal)} {l c : AVal} {H H' : AHeap} {z : AVal} (h : makeA sz bytes z0 l c H = some (z, H')) : ∃ blk, H' = H ++ [blk] := by
  cases z0 with
  | none => cases h
  | some cs =>
    simp only [makeA, Option.bind_some] at h
    split at h
    · split at h
      · simp only [Option.some.injEq, Prod.mk.injEq] at h; exact ⟨_, h.2.symm⟩
      · cases h
    · cases h
theorem makeMapA_push {H H' : AHeap} {z : AVal} (h : makeMapA H = some (z, H')) : ∃ blk, H' = H ++ [blk] := by
  simp only [makeMapA, Option.some.injEq, Prod.mk.injEq] at h; exact ⟨_, h.2.symm⟩
theorem stepA_push {op : Op} {r : Operand → AVal} {H H' : AHeap} {z : AVal} (h : stepA C op r H = some (z, H')) : ∃ blk, H' = H ++ [blk] := by
  unfold stepA at h
  split at h
  · split at h
    · cases h
    · exact allocA_push h
  · split at h
    · split at h
      · cases h
      · exact allocA_push h
    · cases h
  · split at h
    · split at h
      · cases h
      · exact makeA_push h
    · cases h
  · split at h
    · exact makeMapA_push h
    · split at h
      · exact makeMapA_push h
      · cases h
    · cases h
  · cases h
/-- The heap in which an operation reads that is done ahead of its turn is one of those that were looked at. -/
theorem Road.hists (R : Road C ops perm t M) (hh0 : t.hist 0 = []) (hc0 : t.cur 0 = t.hE 0) : ∀ j, j ≤ M →
    (∃ p, t.cur j = t.hE j ++ p) ∧ ∀ c, c ≤ j → t.hE c = t.hE j ∨ ∃ (q e : Nat) (b : Nat) (o : Oper), (t.hist j)[q]? = some (e, t.hE c) ∧ c ≤ b ∧ b < j ∧ perm[b]? = some e ∧ ops[e]? = some o ∧ isE o = true ∧
      ∀ (r e' : Nat) (h' : AHeap), r ≤ q → (t.hist j)[r]? = some (e', h') → ∃ (b' : Nat) (o' : Oper), c ≤ b' ∧ b' < j ∧ perm[b']? = some e' ∧ ops[e']? = some o' ∧ isE o' = true
  | 0, _ => ⟨⟨[], by rw [hc0]; simp⟩, fun c hc => .inl (by rw [Nat.le_zero.1 hc])⟩
  | j + 1, hj => by
    obtain ⟨⟨p, hp⟩, ih⟩ := R.hists hh0 hc0 j (by omega)
    obtain ⟨i, o, h1, h2, _, _, hst⟩ := R.step j (by omega)
    have lift : t.hE (j + 1) = t.hE j → t.hist (j + 1) = t.hist j → ∀ c, c ≤ j + 1 → t.hE c = t.hE (j + 1) ∨ ∃ (q e : Nat) (b : Nat) (o : Oper), (t.hist (j + 1))[q]? = some (e, t.hE c) ∧ c ≤ b ∧ b < j + 1 ∧ perm[b]? = some e ∧ ops[e]? = some o ∧ isE o = true ∧
        ∀ (r e' : Nat) (h' : AHeap), r ≤ q → (t.hist (j + 1))[r]? = some (e', h') → ∃ (b' : Nat) (o' : Oper), c ≤ b' ∧ b' < j + 1 ∧ perm[b']? = some e' ∧ ops[e']? = some o' ∧ isE o' = true := by
      intro e1 e2 c hc
      by_cases hcj : c = j + 1
      · exact .inl (by rw [hcj])
      · rcases ih c (by omega) with h | ⟨q, e, b, ob, g1, g2, g3, g4, g5, g6, g7⟩
        · exact .inl (by rw [h, e1])
        · refine .inr ⟨q, e, b, ob, by rw [e2]; exact g1, g2, by omega, g4, g5, g6, fun r e' h' hr hh => ?_⟩
          rw [e2] at hh
          obtain ⟨b', o', x1, x2, x3⟩ := g7 r e' h' hr hh
          exact ⟨b', o', x1, by omega, x3⟩
    rcases hst with ⟨hcl, _, _, e1, e2, e3⟩ | ⟨hcl, hg, e1, e3⟩ | ⟨hcl, hg, e1, e3⟩
    · exact ⟨⟨p, by rw [e2, e1]; exact hp⟩, lift e1 e3⟩
    · refine ⟨?_, lift e1 e3⟩
      cases hB : t.B j with
      | false => rw [hB] at hg; simp only [gA, Bool.false_eq_true, if_false, Option.some.injEq, Prod.mk.injEq] at hg; exact ⟨p, by rw [← hg.2, e1]; exact hp⟩
      | true =>
        rw [hB] at hg
        simp only [gA, if_true] at hg
        have hpush := stepA_push hg
        obtain ⟨blk, hb⟩ := hpush
        exact ⟨p ++ [blk], by rw [hb, e1, hp, List.append_assoc]⟩
    · refine ⟨⟨[], by rw [e1]; simp⟩, fun c hc => ?_⟩
      by_cases hcj : c = j + 1
      · exact .inl (by rw [hcj])
      · have hEo : isE o = true := isE_iff.2 hcl
        rcases ih c (by omega) with h | ⟨q, e, b, ob, g1, g2, g3, g4, g5, g6, g7⟩
        · refine .inr ⟨0, i, j, o, by rw [e3, h]; rfl, by omega, by omega, h1, h2, hEo, fun r e' h' hr hh => ?_⟩
          have : r = 0 := by omega
          subst this
          rw [e3] at hh
          simp at hh
          exact ⟨j, o, by omega, by omega, by rw [← hh.1]; exact h1, by rw [← hh.1]; exact h2, hEo⟩
        · refine .inr ⟨q + 1, e, b, ob, by rw [e3]; simpa using g1, g2, by omega, g4, g5, g6, fun r e' h' hr hh => ?_⟩
          rw [e3] at hh
          cases r with
          | zero => simp at hh; exact ⟨j, o, by omega, by omega, by rw [← hh.1]; exact h1, by rw [← hh.1]; exact h2, hEo⟩
          | succ r =>
            obtain ⟨b', o', x1, x2, x3⟩ := g7 r e' h' (by omega) (by simpa using hh)
            exact ⟨b', o', x1, by omega, x3⟩
theorem allocA_free {cells : Option (List AVal)} {H : AHeap} (h : allocA cells H ≠ none) (H2 : AHeap) : allocA cells H2 ≠ none := by
  cases cells with
  | none => exact h
  | some cs => simp only [allocA, Option.bind_some] at h ⊢; split <;> simp_all
theorem makeA_free {sz bytes : Nat} {z0 : Option (List AVal)} {l c : AVal} {H : AHeap} (h : makeA sz bytes z0 l c H ≠ none) (H2 : AHeap) : makeA sz bytes z0 l c H2 ≠ none := by
  cases z0 with
  | none => exact h
  | some cs =>
    simp only [makeA, Option.bind_some] at h ⊢
    split at h
    · split at h
      · rename_i hc; rw [if_pos hc]; simp
      · exact absurd rfl h
    · exact absurd rfl h
theorem stepA_free {op : Op} {r : Operand → AVal} {H : AHeap} (h : stepA C op r H ≠ none) (H2 : AHeap) : stepA C op r H2 ≠ none := by
  cases op with
  | alloc t =>
    simp only [stepA] at h ⊢
    split
    · rename_i hk; rw [if_pos hk] at h; exact h
    · rename_i hk; rw [if_neg hk] at h; exact allocA_free h H2
  | box t x =>
    simp only [stepA] at h ⊢
    cases hcs : (r x).acells with
    | none => rw [hcs] at h; exact h
    | some cs =>
      rw [hcs] at h
      simp only [] at h ⊢
      split
      · rename_i hk; rw [if_pos hk] at h; exact h
      · rename_i hk; rw [if_neg hk] at h; exact allocA_free h H2
  | makeSlice t l c =>
    simp only [stepA] at h ⊢
    cases hu : C.P.underlying t with
    | none => rw [hu] at h; exact h
    | some d =>
      rw [hu] at h
      cases d <;> first | exact h | skip
      simp only [] at h ⊢
      split
      · rename_i hk; rw [if_pos hk] at h; exact h
      · rename_i hk; rw [if_neg hk] at h; exact makeA_free h H2
  | makeMap t x =>
    cases x with
    | none => simp [stepA, makeMapA]
    | some y =>
      simp only [stepA] at h ⊢
      cases hu : C.P.underlying t with
      | none => rw [hu] at h; exact h
      | some d =>
        rw [hu] at h
        cases d <;> first | exact h | skip
        simp only [] at h ⊢
        cases hy : r y <;> rw [hy] at h <;> first | exact h | simp [makeMapA]
  | _ => exact h
/-- Every order. -/
theorem draw_any (hC : CfgOk C) {n : Nat} {out : Res × AHeap} {k : List AVal → AHeap → Out} {kp : AVal → List AVal → AHeap → Out} {Q : Exit → Act → World → Prop} (hk : KOk C n E0 H0 w0 out k (Q .normal)) (hkp : KPOk C n E0 H0 w0 out kp Q)
    (R : Road C ops perm t M) (hh0 : t.hist 0 = []) (hc0 : t.cur 0 = t.hE 0) (hfin : (M = perm.length ∧ k (t.T M) (t.cur M) = some out) ∨ PanicAt C ops perm kp out t M) {a0 : Act} (hn : (t.T 0).length = n) (hd0 : a0.defers = []) :
    ∀ (fuel : Nat) (listed : Array Bool) (a : Act) (w : World) (c : Nat) (S : Nat → Bool) (cv : Nat → Value) (bo : Nat → Nat) (E : Env), listed.size = ops.size → (∀ i, S i = listed.getD i false) → ((List.range ops.size).filter fun i => !listed.getD i true).length ≤ fuel →
      Inv C ops perm t M E0 H0 w0 c S cv bo E w → VRels E (t.T 0) a0.tmps.toList → a = foldP ops S cv perm a0 → wpAny C.P .any ops Q fuel listed a w := by
  -- when nothing is ready all is done
  have done : ∀ (listed : Array Bool) (a : Act) (w : World) (c : Nat) (S : Nat → Bool) (cv : Nat → Value) (bo : Nat → Nat) (E : Env), listed.size = ops.size → (∀ i, S i = listed.getD i false) → Inv C ops perm t M E0 H0 w0 c S cv bo E w → VRels E (t.T 0) a0.tmps.toList → a = foldP ops S cv perm a0 →
      Region.ready .any ops listed = [] → Q .normal a w := by
    intro listed a w c S cv bo E hsz hS I h0 ha hr
    have all : ∀ (j i : Nat), perm[j]? = some i → S i = true := by
      intro j
      induction j using Nat.strongRecOn with
      | _ j ih =>
        intro i hj
        obtain ⟨o, h1, h2, _⟩ := R.spec j i hj
        cases hSi : S i with
        | true => rfl
        | false =>
          exfalso
          have hi : i < ops.size := (Array.getElem?_eq_some_iff.1 h1).1
          have hm : i ∈ Region.ready .any ops listed := by
            rw [mem_ready]
            refine ⟨?_, o, h1, fun e he hb => ?_⟩
            · have := hS i
              rw [hSi] at this
              rw [Array.getD_eq_getD_getElem?, Array.getElem?_eq_getElem (by omega)] at this ⊢
              simpa using this.symm
            · obtain ⟨b, hb1, hb2⟩ := h2 e he hb
              rw [← hS]; exact ih b hb1 e.on hb2
          rw [hr] at hm; simp at hm
    rcases hfin with ⟨hM, hout⟩ | ⟨hM, i, o, x, H', h1, h2, h3, _⟩
    · obtain ⟨E', I', hle⟩ := Inv.absorbTo R M (Nat.le_refl _) (fun j i _ hj => all j i hj) (M - c) c E w (by have := I.le; omega) I
      have h0' : VRels E' (t.T 0) a0.tmps.toList := h0.mono hle
      subst ha
      refine hk E' _ _ _ w I'.glob I'.step ⟨?_, R.tlen hn M (Nat.le_refl _), by rw [foldP_defers]; exact hd0, I'.sim⟩ hout
      have e : (foldP ops S cv perm a0).tmps.toList.length = a0.tmps.toList.length := by simp [foldP_size]
      refine ⟨by rw [e, ← h0.1]; exact R.tlen rfl M (Nat.le_refl _), fun x y v hx hv => ?_⟩
      have hr' := R.read (S := S) (cv := cv) h0' x M (Nat.le_refl _) fun j i o hj hi ho _ => ⟨all j i hi, I'.vals j i o hi ho (all j i hi) (.inl hj)⟩
      rw [hM, List.take_length, ← hM] at hr'
      rw [List.getD_eq_getElem?_getD, hx, Array.getD_eq_getD_getElem?] at hr'
      rw [Array.getElem?_toList] at hv
      rw [hv] at hr'
      exact hr'
    · have := (I.noE M i o I.le h1 h2 (all M i h1)).1
      rw [isE_iff.2 h3] at this; cases this
  intro fuel
  induction fuel with
  | zero =>
    intro listed a w c S cv bo E hsz hS hcnt I h0 ha
    have hr : Region.ready .any ops listed = [] := by
      cases hr : Region.ready .any ops listed with
      | nil => rfl
      | cons x l =>
        exfalso
        have hm : x ∈ Region.ready .any ops listed := by rw [hr]; simp
        obtain ⟨h1, o, h2, _⟩ := mem_ready.1 hm
        have hx : x < ops.size := (Array.getElem?_eq_some_iff.1 h2).1
        have : x ∈ (List.range ops.size).filter fun i => !listed.getD i true := by
          rw [List.mem_filter, List.mem_range]; exact ⟨hx, by rw [h1]; rfl⟩
        have := List.length_pos_of_mem this
        omega
    exact ⟨hr, done listed a w c S cv bo E hsz hS I h0 ha hr⟩
  | succ fuel ih =>
    intro listed a w c S cv bo E hsz hS hcnt I h0 ha
    refine ⟨done listed a w c S cv bo E hsz hS I h0 ha, fun i hi => ?_⟩
    obtain ⟨h1, o, ho, hedge'⟩ := mem_ready.1 hi
    have hedge : ∀ e ∈ o.after, Region.binds .any e = true → S e.on = true := fun e he hb => by rw [hS]; exact hedge' e he hb
    have hisz : i < ops.size := (Array.getElem?_eq_some_iff.1 ho).1
    have hSi : S i = false := by
      rw [hS]
      rw [Array.getD_eq_getD_getElem?, Array.getElem?_eq_getElem (by omega)] at h1 ⊢
      simpa using h1
    have hbf : ∀ x, ((Region.before ops).getD i 0).testBit x = true → S x = true := fun x hx =>
      before_done (S := fun x => S x = true) (fun x ox hSx hox => I.closed x ox hSx hox) i x (fun ox hox => by rw [ho] at hox; cases hox; exact hedge) hx
    obtain ⟨j, hj⟩ := R.pos hisz
    have hcj : c ≤ j := by
      rcases Nat.lt_or_ge j c with h | h
      · rw [I.pre j i h hj] at hSi; cases hSi
      · exact h
    have hjl : j < perm.length := (List.getElem?_eq_some_iff.1 hj).1
    have hjM : j ≤ M := by rcases hfin with ⟨h, _⟩ | ⟨h, _⟩ <;> omega
    -- what is to be shown of the rest
    have hS' : ∀ x, (if x = i then true else S x) = (listed.setIfInBounds i true).getD x false := by
      intro x
      rw [Array.getD_eq_getD_getElem?]
      by_cases hx : x = i
      · subst hx
        rw [Array.getElem?_setIfInBounds_self_of_lt (by omega)]; simp
      · rw [Array.getElem?_setIfInBounds_ne (fun h => hx h.symm), if_neg hx, hS, Array.getD_eq_getD_getElem?]
    have hcnt' : ((List.range ops.size).filter fun x => !(listed.setIfInBounds i true).getD x true).length ≤ fuel := by
      have := (filter_lt (p := fun x => !listed.getD x true) (q := fun x => !(listed.setIfInBounds i true).getD x true) (i := i) (by rw [h1]; rfl) (by rw [Array.getD_eq_getD_getElem?, Array.getElem?_setIfInBounds_self_of_lt (by omega)]; rfl) (fun x hx => by
        by_cases hxi : x = i
        · subst hxi; rw [h1]; rfl
        · rw [Array.getD_eq_getD_getElem?, Array.getElem?_setIfInBounds_ne (fun h => hxi h.symm), ← Array.getD_eq_getD_getElem?] at hx; exact hx) (List.range ops.size)).2 (List.mem_range.2 hisz)
      omega
    have hput : ∀ v, a.put o.dst v = foldP ops (fun x => if x = i then true else S x) (fun x => if x = i then v else cv x) perm a0 := by
      intro v
      rw [foldP_add (v := v) hSi perm a0 j hj (fun q r x h1 h2 => R.inj h1 h2) (fun q x hq hx hSx d hd => ?_), ← ha, dstOf_eq ho]
      obtain ⟨ok, q1, _, q3⟩ := R.spec q x hx
      obtain ⟨o3, p1, _, p3, _⟩ := q3 j i hq hj
      rw [ho] at p1; cases p1
      rw [dstOf_eq ho] at hd
      rw [dstOf_eq q1]
      rcases p3 with p3 | ⟨_, p3, _⟩
      · have : S i = true := before_done (S := fun x => S x = true) (fun x ox hSx hox => I.closed x ox hSx hox) x i (fun ox hox => I.closed x ox hSx hox) p3
        rw [hSi] at this; cases this
      · exact (apart_l p3 hd).2
    have hsz' : (listed.setIfInBounds i true).size = ops.size := by simp [hsz]
    have next : ∀ (w' : World) (c' : Nat) (v : Value) (bo' : Nat → Nat) (E' : Env), E.le E' → Inv C ops perm t M E0 H0 w0 c' (fun x => if x = i then true else S x) (fun x => if x = i then v else cv x) bo' E' w' → wpAny C.P .any ops Q fuel (listed.setIfInBounds i true) (a.put o.dst v) w' :=
      fun w' c' v bo' E' hle I' => ih _ _ w' c' _ _ bo' E' hsz' hS' hcnt' I' (h0.mono hle) (hput v)
    cases hE : isE o with
    | true =>
      have hprev : ∀ (b x : Nat), b < j → perm[b]? = some x → S x = true := fun b x hb hx => by
        obtain ⟨oj, q1, _, q3⟩ := R.spec j i hj
        rw [ho] at q1; cases q1
        obtain ⟨_, _, _, p3, _⟩ := q3 b x hb hx
        rcases p3 with p3 | ⟨p3, _⟩
        · exact hbf x p3
        · rw [hE] at p3; cases p3
      obtain ⟨E1, I1, hle⟩ := Inv.absorbTo R j hjM hprev (j - c) c E w (by omega) I
      have h01 := h0.mono hle
      have hl := I1.looks R h01 hn hj ho hjM hSi hbf (.inr rfl)
      rw [← ha] at hl
      have hTn := R.tlen hn j hjM
      have hrr := rho_rel (C := C) I1.glob hl
      unfold wpOp
      simp only [ho]
      rcases Nat.lt_or_ge j M with hlt | hge
      · obtain ⟨i', o', g1, g2, hwant, _, hst⟩ := R.step j hlt
        rw [hj] at g1; cases g1
        rw [ho] at g2; cases g2
        have hw := want_rel (b := t.B j) hl ((looked_want hTn).trans hwant)
        rw [hw]
        rcases hst with ⟨hcl, _⟩ | ⟨hcl, _⟩ | ⟨hcl, hg, _⟩
        · rw [isE_iff] at hE; rw [hE] at hcl; cases hcl
        · rw [isE_iff] at hE; rw [hE] at hcl; cases hcl
        · cases hB : t.B j with
          | false =>
            rw [hB] at hg
            simp only [gE, Bool.false_eq_true, if_false, Option.some.injEq, Prod.mk.injEq, Res.ret.injEq] at hg
            simp only [Bool.false_eq_true, if_false]
            exact next w (j + 1) undef bo E1 hle (I1.addE R hj ho hlt hE hedge (by rw [← hg.2]; exact I1.sim) (by rw [← hg.2]; exact .refl _ _ _) undef (by rw [← hg.1]; exact .undef _))
          | true =>
            rw [hB] at hg
            simp only [gE, if_true] at hg
            simp only [if_true]
            refine .inl ?_
            rw [← stepE_congr (r := rho C.G (looked n ops o (t.T j))) (fun x hx => looked_rho hTn hx)] at hg
            refine stepE_wp hC I1.glob I1.sim hrr hg (fun E' w' v x hres hv q1 q2 => ?_) (fun E' w' v x hres => by cases hres)
            cases hres
            exact next w' (j + 1) v bo E' (hle.trans q2.le) (I1.addE R hj ho hlt hE hedge q1 q2 v hv)
      · have hjM' : j = M := by omega
        rcases hfin with ⟨h, _⟩ | ⟨hM, i', o', x, H', g1, g2, g3, hwant, hg, hout⟩
        · omega
        · rw [← hjM'] at g1 hwant hg hout
          rw [hj] at g1; cases g1
          rw [ho] at g2; cases g2
          have hw := want_rel hl ((looked_want hTn).trans hwant)
          rw [hw]
          simp only [if_true]
          refine .inl ?_
          rw [← stepE_congr (r := rho C.G (looked n ops o (t.T j))) (fun x hx => looked_rho hTn hx)] at hg
          refine stepE_wp hC I1.glob I1.sim hrr hg (fun E' w' v x hres => by cases hres) (fun E' w' v x hres hv q1 q2 => ?_)
          cases hres
          refine hkp E' _ H' a w' _ v (I1.glob.mono q2.le) (I1.step.trans q2) ⟨⟨?_, fun x' y u hy hu => ?_⟩, by simp [hTn], by rw [ha, foldP_defers]; exact hd0, q1⟩ hv hout
          · have := hl.1
            simp only [List.length_map]
            rw [hTn, ← this]; simp [looked]
          · rw [List.getElem?_map] at hy
            cases hq : (t.T j)[x']? with
            | none => simp [hq] at hy
            | some q => simp [hq] at hy; subst hy; exact .undef _
    | false =>
      have hlt : j < M := by
        rcases Nat.lt_or_ge j M with h | h
        · exact h
        · exfalso
          have hjM' : j = M := by omega
          rcases hfin with ⟨h, _⟩ | ⟨hM, i', o', x, H', g1, g2, g3, _⟩
          · omega
          · rw [← hjM', hj] at g1; cases g1
            rw [ho] at g2; cases g2
            rw [isE_iff.2 g3] at hE; cases hE
      have hl := I.looks R h0 hn hj ho hjM hSi hbf (.inl hE)
      rw [← ha] at hl
      have hTn := R.tlen hn j hjM
      have hrr := rho_rel (C := C) I.glob hl
      unfold wpOp
      simp only [ho]
      obtain ⟨i', o', g1, g2, hwant, _, hst⟩ := R.step j hlt
      rw [hj] at g1; cases g1
      rw [ho] at g2; cases g2
      have hw := want_rel (b := t.B j) hl ((looked_want hTn).trans hwant)
      rw [hw]
      rcases hst with ⟨hcl, hg, hstab, _⟩ | ⟨hcl, hg, _⟩ | ⟨hcl, _⟩
      · have hnA : ¬ isA o = true := fun h => by rw [isA_iff.1 h] at hcl; cases hcl
        cases hB : t.B j with
        | false =>
          rw [hB] at hg
          simp only [gR, Bool.false_eq_true, if_false, Option.some.injEq] at hg
          simp only [Bool.false_eq_true, if_false]
          exact next w c undef _ E (.refl E) (I.add R hj ho hcj hlt hE hedge I.sim (.refl _ _ _) undef 0 (fun _ => by rw [← hg]; exact .undef _) (fun h => absurd h hnA))
        | true =>
          rw [hB] at hg
          simp only [gR, if_true] at hg
          simp only [if_true]
          refine .inl ?_
          obtain ⟨⟨p, hp⟩, _⟩ := R.hists hh0 hc0 c (by omega)
          obtain ⟨_, hhist⟩ := R.hists hh0 hc0 j hjM
          have hE' : stepR C o.op (rho C.G (t.T j)) (t.hE c) = some (t.V j) := by
            cases hrd : readsH o.op with
            | false => rw [stepR_blind hrd (t.hE j)]; exact hg
            | true =>
              rcases hhist c hcj with e | ⟨q, e, b, ob, q1, q2, q3, q4, q5, q6, q7⟩
              · rw [e]; exact hg
              · have hst := hstab hrd
                rw [hB] at hst
                have := stab_at (t.hist j) q e (t.hE c) hst q1 (fun r e' h' hr hh => by
                  obtain ⟨b', o', x1, x2, x3, x4, x5⟩ := q7 r e' h' hr hh
                  cases hbit : ((Region.before ops).getD i 0).testBit e' with
                  | false => exact hbit
                  | true =>
                    have := (I.noE b' e' o' x1 x3 x4 (hbf e' hbit)).1
                    rw [x5] at this; cases this)
                simpa [gR] using this
          have hst := stepR_mono p hE'
          rw [← hp, ← stepR_congr (r := rho C.G (looked n ops o (t.T j))) (fun x hx => looked_rho hTn hx)] at hst
          obtain ⟨v, w', E', z1, z2, z3, z4⟩ := stepR_ok hC.eq hC.map I.sim hrr hst
          unfold Oper.wp
          rw [z1, Oper.upon_value]
          exact next w' c v _ E' z4.le (I.add R hj ho hcj hlt hE hedge z3 z4 v 0 (fun _ => z2) (fun h => absurd h hnA))
      · have hA : isA o = true := isA_iff.2 hcl
        cases hB : t.B j with
        | false =>
          rw [hB] at hg
          simp only [gA, Bool.false_eq_true, if_false, Option.some.injEq, Prod.mk.injEq] at hg
          simp only [Bool.false_eq_true, if_false]
          exact next w c undef _ E (.refl E) (I.add R hj ho hcj hlt hE hedge I.sim (.refl _ _ _) undef 0 (fun _ => by rw [← hg.1]; exact .undef _) (fun _ h => by rw [hB] at h; cases h))
        | true =>
          rw [hB] at hg
          simp only [gA, if_true] at hg
          simp only [if_true]
          refine .inl ?_
          rw [← stepA_congr (r := rho C.G (looked n ops o (t.T j))) (fun x hx => looked_rho hTn hx)] at hg
          have hfree := stepA_free (H2 := t.cur c) (by rw [hg]; simp)
          cases hst : stepA C o.op (rho C.G (looked n ops o (t.T j))) (t.cur c) with
          | none => exact absurd hst hfree
          | some pz =>
            obtain ⟨z, H'⟩ := pz
            obtain ⟨B, v, ob, f, rfl, hz, hall, z1, z2, z3⟩ := (stepA_ok I.sim hrr hst).ex
            rw [hall] at hg
            simp only [Option.some.injEq, Prod.mk.injEq] at hg
            obtain ⟨l1, l2⟩ := I.sim.laid ob
            unfold Oper.wp
            rw [z1, Oper.upon_value]
            refine next _ c v _ E (.refl E) (I.add R hj ho hcj hlt hE hedge l1 l2 v w.heap.size (fun h => ?_) (fun _ _ => ⟨rfl, B, f, I.step.size, z2, hg.2.symm, hg.1.symm, z3⟩))
            rcases h with h | h
            · rw [hA] at h; cases h
            · rw [hB] at h; cases h
      · rw [isE_iff.2 hcl] at hE; cases hE
end
theorem draw_ok {C : Cfg} (hC : CfgOk C) (hm : C.P.follows .mixedOrders = true) : DrawOk C := by
  intro n E0 H0 w0 out ops perm k kp Q id E tm H a w hk hkp hok hG st hf h
  refine wp_region_any hm ?_
  obtain ⟨t, M, q1, q2, q3, q4, q5, q6, q7⟩ := trace_ex perm [] H H tm h
  simp only [okDraw, Bool.and_eq_true, beq_iff_eq] at hok
  obtain ⟨⟨hl, hmem⟩, hfrom⟩ := hok
  have R : Road C ops perm t M := by
    refine ⟨hl, fun i hi => ?_, q5, fun x j hx => ?_, q6⟩
    · have := List.all_eq_true.1 hmem i (List.mem_range.2 hi)
      simpa using this
    · obtain ⟨oj, y1, y2, y3⟩ := okFrom_spec perm [] hfrom x j hx
      refine ⟨oj, y1, fun e he hb => ?_, fun b i hb hi => y3 i (.inr ⟨b, hb, hi⟩)⟩
      rcases y2 e he hb with h | h
      · simp at h
      · exact h
  obtain ⟨d1, d2⟩ := hf.sim.drew (w.drawn + 1)
  refine draw_any (E0 := E0) (H0 := H0) (w0 := w0) hC hk hkp R q4 (by rw [q2, q3]) q7 (a0 := a) (by rw [q1]; exact hf.len) hf.defers ops.size _ a _ 0 (fun _ => false) (fun _ => undef) (fun _ => 0) E (by simp) (fun i => ?_) ?_ ?_ (by rw [q1]; exact hf.rel) ?_
  · rw [Array.getD_eq_getD_getElem?, Array.getElem?_replicate]; split <;> rfl
  · exact Nat.le_trans (List.length_filter_le _ _) (by simp)
  · refine ⟨Nat.zero_le _, fun j i h => by omega, fun j i o _ _ _ h => (by cases h), fun j o h => (by cases h), hG, by rw [q3]; exact st.trans d2, by rw [q3]; exact d1, fun j i o _ _ h => (by cases h), fun j i o _ _ _ h => (by cases h), fun j i j' i' o o' _ _ _ _ _ _ h => (by cases h)⟩
  · have : ∀ l : List Nat, foldP ops (fun _ => false) (fun _ => undef) l a = a := by
      intro l
      induction l with
      | nil => rfl
      | cons x l ih => rw [foldP_cons]; simpa using ih
    exact (this perm).symm
end Go.Gm
