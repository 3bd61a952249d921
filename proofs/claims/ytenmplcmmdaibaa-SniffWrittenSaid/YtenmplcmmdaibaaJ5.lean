/- Texts of this proof, joined. -/
import Derived.Test.YtenmplcmmdaibaaJ3
import Derived.Test.YtenmplcmmdaibaaJ4
/- Chapter 7 of the document: the quad of cells. -/
namespace Go.Gm
set_option linter.unusedVariables false
set_option linter.unusedSimpArgs false
/-- A loop that asks the same of each number, and goes on where all answered. -/
theorem loop_all2 {G : LK → LK} (N : Nat) (p : Nat → Bool) (st : Nat → List AVal) (H : AHeap) (yes no : Out) (hN : N < 1152921504606846976)
    (turn : ∀ (rec : LK) (i : Nat), i < N → G rec (st i) H = if p i then rec (st (i + 1)) H else no) (last : (List.range N).all p = true → ∀ rec : LK, G rec (st N) H = yes) : loopGen G FUEL (st 0) H = if (List.range N).all p then yes else no := by
  refine loop_fun (σ := Nat) (fun i => i ≤ N ∧ ∀ j, j < i → p j = true) st (fun _ => H) (fun i => N - i) (fun _ => if (List.range N).all p then yes else no) (fun i rec hi hrec => ?_) 0 ⟨Nat.zero_le _, fun j hj => by omega⟩ (by omega)
  by_cases h : i < N
  · rw [turn rec i h]
    cases hp : p i with
    | true => exact hrec (i + 1) ⟨h, fun j hj => by
        by_cases e : j = i
        · rw [e]; exact hp
        · exact hi.2 j (by omega)⟩ (by omega)
    | false =>
      have : (List.range N).all p = false := by rw [List.all_eq_false]; exact ⟨i, by simpa using h, by simp [hp]⟩
      simp [this]
  · have e : i = N := by omega
    subst e
    have : (List.range i).all p = true := by rw [List.all_eq_true]; intro j hj; exact hi.2 j (by simpa using hj)
    rw [last this, this]; rfl
/-- The quad of cells of unlike places. -/
def of07S (S : List Cl) : List Nd × Int :=
  if levelOf S > 1329 then ([], 4)
  else if ofOk (placeF (levelOf S) [] (-(2 ^ (levelOf S - 1))) (-(2 ^ (levelOf S - 1))) S).1 ((placeF (levelOf S) [] (-(2 ^ (levelOf S - 1))) (-(2 ^ (levelOf S - 1))) S).2 : Int)
  then (canonL (placeF (levelOf S) [] (-(2 ^ (levelOf S - 1))) (-(2 ^ (levelOf S - 1))) S).1 (placeF (levelOf S) [] (-(2 ^ (levelOf S - 1))) (-(2 ^ (levelOf S - 1))) S).2, 0)
  else ([], 1)
theorem of07_eq (l : List Cl) : of07 l = of07S (lastL l) := rfl
theorem level_run (H B : AHeap) (rec2 : LK) (p : AVal) (l : List Cl) (tk : Tok) (i : Nat) (hi : i < l.length) (hll : l.length < 2147483648) (hc : l[i].ok) : ∀ (f v n : Nat), f + v = 1330 → 1 ≤ v → f < n →
    loopGen (fun rec3 vs H1 => Sh.gliderref07_Of_l3 H rec2 rec3 (ag vs 0) (ag vs 1) (ag vs 2) (ag vs 3) H1) n [p, .sl (enL cCl l) tk, .int .i64 (v : Int), .int .i64 (i : Int)] B = rec2 [p, .sl (enL cCl l) tk, .int .i64 (lvUp f v l[i] : Int), .int .i64 ((i + 1 : Nat) : Int)] B := by
  intro f
  induction f with
  | zero =>
    intro v n h1 h2 h3
    obtain ⟨n, rfl⟩ : ∃ m, n = m + 1 := ⟨n - 1, by omega⟩
    have hv : ¬ (v : Int) ≤ 1329 := by omega
    have hws := wrap_succ (show i < 9223372036854775807 by omega)
    rw [loop_succ]
    unfold Sh.gliderref07_Of_l3
    simp only [GMb, joinPt, decide_true, decide_false, if_true, if_false, ag_succ, hv, hws]
    rfl
  | succ f ih =>
    intro v n h1 h2 h3
    obtain ⟨n, rfl⟩ : ∃ m, n = m + 1 := ⟨n - 1, by omega⟩
    have hv : (v : Int) ≤ 1329 := by omega
    have hws := wrap_succ (show i < 9223372036854775807 by omega)
    have hwv := wrap_succ (show v < 9223372036854775807 by omega)
    have hw := fun H => q07_within l[i] v H hc h2 (by omega)
    rw [loop_succ]
    unfold Sh.gliderref07_Of_l3 lvUp
    simp only [GMb, joinPt, decide_true, decide_false, if_true, if_false, ag_succ, hv, idx_enL hi, load_cl, hw]
    cases withinB v l[i] with
    | true => simp only [GMb, joinPt, decide_true, decide_false, if_true, if_false, hws]
    | false =>
      simp only [GMb, joinPt, decide_true, decide_false, if_true, if_false, hwv]
      exact ih (v + 1) n (by omega) (by omega) (by omega)
theorem quad_bad {H : AHeap} {e : Int} : ((buildA (some [(.sl [] .tight)]) []).bind fun x57 => bP H (retH (storeA 1 (.ptr H.length 0 0) x57 (H ++ [.cel 0 [.sl [] .tight]]))) fun _ H59 => (resM [loadA true 1 (.ptr H.length 0 0) H59, some (.int .i64 e)]).bind fun x60 => rPN H x60 H59) = some (.ret (.tup [quad [], .int .i64 e]), H) := by
  rw [show buildA (some [(.sl [] .tight)]) [] = some (.agg [.sl (enL cNd []) .tight]) from rfl]
  rw [obind]
  exact quad_tail (by simp) fun i hi => by rw [List.getElem?_append_left hi]
theorem q07_of (l : List RC) (tk : Tok) (H : AHeap) (hl : l.length < 2147483648) (hf : ∀ r ∈ l, r.fits) (hs : ∀ r ∈ l, r.right = true → r.cl.ok) :
    Sh.gliderref07_Of (.sl (enL cRC l) tk) H = some (.ret (if l.all RC.right then .tup [quad (of07 (l.map RC.cl)).1, .int .i64 (of07 (l.map RC.cl)).2] else .tup [quad [], .int .i64 1]), H) := by
  unfold Sh.gliderref07_Of
  rw [alloc_eq (cs := [.sl [] .tight]) rfl]
  simp only [GMb, joinPt, decide_true, decide_false, if_true, if_false]
  have hall : l.all RC.right = (List.range l.length).all fun i => match l[i]? with | some r => r.right | none => true := by
    rw [Bool.eq_iff_iff, List.all_eq_true, List.all_eq_true]
    constructor
    · intro h i hi
      have hi' : i < l.length := by simpa using hi
      rw [List.getElem?_eq_getElem hi']; exact h _ (List.getElem_mem hi')
    · intro h r hr
      obtain ⟨i, hi, rfl⟩ := List.getElem_of_mem hr
      have := h i (by simpa using hi)
      rwa [List.getElem?_eq_getElem hi] at this
  have key := loop_all2 (G := fun rec1 vs H1 => Sh.gliderref07_Of_l1 H rec1 (ag vs 0) (ag vs 1) (ag vs 2) H1) l.length (fun i => match l[i]? with | some r => r.right | none => true) (fun i => [.sl (enL cRC l) tk, .ptr H.length 0 0, .int .i64 (i : Int)]) (H ++ [.cel 0 [.sl [] .tight]])
    (some (.ret (.tup [quad (of07 (l.map RC.cl)).1, .int .i64 (of07 (l.map RC.cl)).2]), H)) (some (.ret (.tup [quad [], .int .i64 1]), H)) (by omega) (fun rec i hi => ?_) (fun hr rec => ?_)
  · refine key.trans ?_
    rw [hall]
    cases (List.range l.length).all fun i => match l[i]? with | some r => r.right | none => true <;> rfl
  · have hi' : (i : Int) < (l.length : Int) := by omega
    have hws := wrap_succ (show i < 9223372036854775807 by omega)
    have hfi := hf _ (List.getElem_mem hi)
    have g1 : ∀ H, loadA true 2 (.cptr (cRC l[i]) 0) H = some (.agg [.bool l[i].n1, .sl (enL cU l[i].l1) .no]) := fun H => rfl
    have g2 : ∀ H, loadA true 2 (.cptr (cRC l[i]) 2) H = some (.agg [.bool l[i].n2, .sl (enL cU l[i].l2) .no]) := fun H => rfl
    have r1 := fun H => q02_right l[i].n1 l[i].l1 .no H hfi.2.2.1
    have r2 := fun H => q02_right l[i].n2 l[i].l2 .no H hfi.2.2.2
    unfold Sh.gliderref07_Of_l1
    simp only [GMb, joinPt, decide_true, decide_false, if_true, if_false, len_enL, hi', idx_enL hi, fieldAddr_cptr, Nat.zero_add, g1, r1, List.getElem?_eq_getElem hi, RC.right]
    cases bigOkB l[i].n1 l[i].l1 with
    | false => simp only [GMb, joinPt, decide_true, decide_false, if_true, if_false, quad_bad]
    | true =>
      simp only [GMb, joinPt, decide_true, decide_false, if_true, if_false, idx_enL hi, fieldAddr_cptr, Nat.zero_add, g2, r2]
      cases bigOkB l[i].n2 l[i].l2 with
      | false => simp only [GMb, joinPt, decide_true, decide_false, if_true, if_false, quad_bad]
      | true => simp only [GMb, joinPt, decide_true, decide_false, if_true, if_false, hws]
  · rw [← hall] at hr
    have hrr : ∀ r ∈ l, r.right = true := List.all_eq_true.1 hr
    have hcl : ∀ c ∈ l.map RC.cl, c.ok := fun c hc => by
      obtain ⟨r, h1, rfl⟩ := List.mem_map.1 hc
      exact hs r h1 (hrr r h1)
    unfold Sh.gliderref07_Of_l1
    simp only [GMb, joinPt, decide_true, decide_false, if_true, if_false, len_enL, Int.lt_irrefl]
    rw [enL_RC hrr hf]
    generalize hL : l.map RC.cl = L at hcl
    have hLl : L.length < 2147483648 := by rw [← hL]; simpa using hl
    simp only [GMb, joinPt, decide_true, decide_false, if_true, if_false, q07_last L tk _ (by omega) hcl, of07_eq]
    have hsm : ∀ c ∈ lastL L, c.ok := fun c hc => hcl c (lastL_mem hc)
    have hsl := lastL_len L
    generalize lastL L = S at hsm hsl
    refine loop_up (G := fun rec2 vs H1 => Sh.gliderref07_Of_l2 H rec2 (ag vs 0) (ag vs 1) (ag vs 2) (ag vs 3) H1) S.length (fun i => [.ptr H.length 0 0, .sl (enL cCl S) .no, .int .i64 (levelOf (S.take i) : Int), .int .i64 (i : Int)]) (fun _ => H ++ [.cel 0 [.sl [] .tight]])
      (some (.ret (.tup [quad (of07S S).1, .int .i64 (of07S S).2]), H)) (by omega) (fun rec2 i hi => ?_) (fun rec2 => ?_)
    · have hi' : (i : Int) < (S.length : Int) := by omega
      obtain ⟨v1, v2⟩ := levelOf_le (S.take i)
      have hrun := level_run H (H ++ [.cel 0 [.sl [] .tight]]) rec2 (.ptr H.length 0 0) S .no i hi (by omega) (hsm _ (List.getElem_mem hi)) (1330 - levelOf (S.take i)) (levelOf (S.take i)) FUEL (by omega) v1 (by rw [fuel_val]; omega)
      have hlv : levelOf (S.take (i + 1)) = lvUp (1330 - levelOf (S.take i)) (levelOf (S.take i)) S[i] := by
        unfold levelOf
        rw [List.take_succ_eq_append_getElem hi, List.foldl_append]; rfl
      unfold Sh.gliderref07_Of_l2
      simp only [GMb, joinPt, decide_true, decide_false, if_true, if_false, ag_succ, len_enL, hi']
      rw [hlv]
      exact hrun
    · obtain ⟨v1, v2⟩ := levelOf_le S
      unfold Sh.gliderref07_Of_l2 of07S
      rw [List.take_of_length_le (Nat.le_refl _)]
      generalize levelOf S = v at v1 v2
      simp only [GMb, joinPt, decide_true, decide_false, if_true, if_false, ag_succ, len_enL, Int.lt_irrefl]
      by_cases hv : v > 1329
      · have hv' : (v : Int) > 1329 := by omega
        simp only [GMb, joinPt, decide_true, decide_false, if_true, if_false, hv', if_pos hv, quad_bad]
      · have hv' : ¬ (v : Int) > 1329 := by omega
        obtain ⟨n, rfl⟩ : ∃ n, v = n + 1 := ⟨v - 1, by omega⟩
        have hwn : IntKind.i64.wrap (((n + 1 : Nat) : Int) - 1) = (n : Int) := by rw [wrap_i64] <;> omega
        have hp : SB 44 (2 ^ n) := sb_half (by omega)
        have hpow := fun H => q02_pow n H (by omega)
        have hmin := fun H => q02_minusZ (2 ^ n) H (hp.lb (by decide))
        have hcorn := cn_corner (v := n + 1) (by omega) (by omega)
        rw [Nat.add_sub_cancel] at hcorn
        rw [if_neg hv]
        have s1 : ∀ B : AHeap, storeA 2 (.ptr B.length 0 0) (big (-(2 ^ n))) (B ++ [.cel 0 [.bool false, .sl [] .tight]]) = some (B ++ [.cel 0 (bigC (-(2 ^ n)))]) := fun B => by rw [store_bigP (last_cel (B := B)) rfl, last_set]
        have hmul : S.length * (n + 1) ≤ 2147483648 * 1329 := Nat.mul_le_mul (by omega) (by omega)
        have hlen : ([] : List Nd).length + S.length * (n + 1) < 3518437208883 := by
          simp only [List.length_nil]; omega
        obtain ⟨Hq, w', p1, p2, p3⟩ := q07_place (H ++ [Blk.cel 0 [.sl [] .tight]]).length n FUEL (by omega) (by rw [fuel_val]; omega) [] (.sl [] .tight) (-(2 ^ n)) (-(2 ^ n)) S .no (H ++ [.cel 0 [.sl [] .tight]] ++ [.cel 0 (bigC (-(2 ^ n)))]) (.inl ⟨rfl, rfl⟩) (by simp) hsm hcorn hcorn (by omega) hlen
        obtain ⟨tk2, rfl⟩ := p2.sl
        have hpl := Nat.le_trans (place_len (n + 1) [] (-(2 ^ n)) (-(2 ^ n)) S) (Nat.add_le_add_left hmul _)
        simp only [List.length_nil] at hpl
        simp only [GMb, joinPt, decide_true, decide_false, if_true, if_false, hv', hwn, hpow, hmin, allocBig, s1, load_bigP last_cel, p1, extract_0, extract_1, Nat.add_sub_cancel]
        generalize placeF (n + 1) [] (-(2 ^ n)) (-(2 ^ n)) S = P at p1 p2 hpl
        obtain ⟨Q, r⟩ := P
        dsimp only at p1 p2 hpl ⊢
        have hqo := fun H => q06_of Q tk2 (r : Int) H (by omega)
        have hc' : Hq[H.length]? = some (.cel 0 [.sl [] .tight]) := p3.cel _ _ (by simp)
        have hold : ∀ i, i < H.length → Hq[i]? = H[i]? := fun i hi => by
          rw [p3.old i (by simp; omega), List.append_assoc, List.getElem?_append_left hi]
        simp only [GMb, joinPt, decide_true, decide_false, if_true, if_false, hqo]
        cases ofOk Q (r : Int) with
        | false =>
          simp only [GMb, joinPt, decide_true, decide_false, if_true, if_false, extract_0, extract_1, quad, quadC]
          exact quad_tail hc' hold
        | true =>
          simp only [GMb, joinPt, decide_true, decide_false, if_true, if_false, extract_0, extract_1, quad, quadC, Int.toNat_natCast]
          exact quad_tail hc' hold
end Go.Gm
/- Chapter 4 of the document: rules. -/
namespace Go.Gm
set_option linter.unusedVariables false
set_option linter.unusedSimpArgs false
def signB (c : UInt8) : Bool := decide (33 ≤ c.toNat ∧ c.toNat ≤ 126)
theorem q04_sign (c : UInt8) (H : AHeap) : Sh.gliderref04_Sign (.int .u8 (c.toNat : Int)) H = some (.ret (.bool (signB c)), H) := by
  unfold Sh.gliderref04_Sign signB
  by_cases h : (33 : Int) ≤ c.toNat
  · have : 33 ≤ c.toNat := by omega
    simp [h, this]; omega
  · have : ¬ 33 ≤ c.toNat := by omega
    simp [h, this]
def ruleB (s : List UInt8) : Bool := s.all signB && decide (1 ≤ s.length ∧ s.length ≤ 40)
theorem q04_rule (s : List UInt8) (H : AHeap) (hs : s.length < 1152921504606846976) : Sh.gliderref04_Rule (.str s) H = some (.ret (.bool (ruleB s)), H) := by
  unfold Sh.gliderref04_Rule
  refine loop_fun (σ := Nat) (fun i => i ≤ s.length ∧ (s.take i).all signB = true) (fun i => [.str s, .int .i64 (i : Int)]) (fun _ => H) (fun i => s.length - i) (fun _ => some (.ret (.bool (ruleB s)), H)) (fun i rec hi hrec => ?_) 0 ⟨by omega, by simp⟩ (by omega)
  obtain ⟨hi, hall⟩ := hi
  unfold Sh.gliderref04_Rule_l1
  by_cases h : i < s.length
  · have hx : (i : Int) < (s.length : Int) := by omega
    simp only [ag_zero, ag_1, len_str, Option.bind_some, bin_lss, hx, decide_true, condA_true, idx_str h, q04_sign, bK_ret, un_not]
    cases hc : signB s[i] with
    | false =>
      have : ruleB s = false := by
        simp only [ruleB, Bool.and_eq_false_iff]; left
        rw [List.all_eq_false]; exact ⟨s[i], List.getElem_mem h, by simp [hc]⟩
      simp [this]
    | true =>
      have := hrec (i + 1) ⟨h, by rw [List.take_succ_eq_append_getElem h, List.all_append]; simp [hall, hc]⟩ (by omega)
      simp (disch := omega) [wrap_i64]
      simpa using this
  · have hx : ¬ (i : Int) < (s.length : Int) := by omega
    have he : s.take i = s := List.take_of_length_le (by omega)
    rw [he] at hall
    by_cases h1 : (1 : Int) ≤ s.length
    · simp [hx, h1, ruleB, hall]
      by_cases h2 : s.length ≤ 40
      · have : (s.length : Int) ≤ 40 := by omega
        simp [this, h2]; omega
      · have : ¬ (s.length : Int) ≤ 40 := by omega
        simp [this, h2]
    · have : s = [] := List.eq_nil_of_length_eq_zero (by omega)
      subst this
      have hz : i = 0 := by simpa using hi
      subst hz; simp [ruleB]
end Go.Gm
/- Chapters 7 and 11 of the document: quads and patterns of cells. -/
namespace Go.Gm
set_option linter.unusedVariables false
set_option linter.unusedSimpArgs false
def quad07 (most : Int) (l : List RC) : List Nd × Bool :=
  if greatB most l then ([], false)
  else if l.all RC.right then ((of07 (l.map RC.cl)).1, decide ((of07 (l.map RC.cl)).2 = 0)) else ([], false)
def RC.lim (r : RC) : Prop := Lim r.l1 ∧ Lim r.l2
theorem great_no {most : Int} {l : List RC} (h : greatB most l = false) (hl : ∀ r ∈ l, r.lim) : (l.length : Int) ≤ most ∧ (∀ r ∈ l, r.fits) ∧ ∀ r ∈ l, r.cl.ok := by
  simp only [greatB, Bool.or_eq_false_iff, decide_eq_false_iff_not, Bool.not_eq_false', List.all_eq_true] at h
  obtain ⟨h1, h2⟩ := h
  have hs : ∀ r ∈ l, r.l1.length ≤ 50 ∧ r.l2.length ≤ 50 := fun r hr => by
    obtain ⟨i, hi, rfl⟩ := List.getElem_of_mem hr
    have := h2 i (by simpa using hi)
    rw [List.getElem?_eq_getElem hi] at this
    simpa using this
  refine ⟨by omega, fun r hr => ⟨(hl r hr).1, (hl r hr).2, by have := (hs r hr).1; omega, by have := (hs r hr).2; omega⟩, fun r hr => ⟨?_, ?_⟩⟩
  · have h3 := val_lt r.l1 (hl r hr).1
    have h4 := pow_le32 (show r.l1.length ≤ 100 by have := (hs r hr).1; omega)
    show (bigI r.n1 r.l1).natAbs < _
    rw [bigI_abs]; exact Nat.lt_of_lt_of_le h3 h4
  · have h3 := val_lt r.l2 (hl r hr).2
    have h4 := pow_le32 (show r.l2.length ≤ 100 by have := (hs r hr).2; omega)
    show (bigI r.n2 r.l2).natAbs < _
    rw [bigI_abs]; exact Nat.lt_of_lt_of_le h3 h4
theorem q07_quad (l : List RC) (tk : Tok) (most : Int) (H : AHeap) (hm : most < 2147483648) (hll : l.length < 1152921504606846976) (hl : ∀ r ∈ l, r.lim) :
    Sh.gliderref07_Quad (.sl (enL cRC l) tk) (.int .i64 most) H = some (.ret (.tup [quad (quad07 most l).1, .bool (quad07 most l).2]), H) := by
  unfold Sh.gliderref07_Quad quad07
  rw [alloc_eq (cs := [.sl [] .tight]) rfl]
  simp only [GMb, joinPt, decide_true, decide_false, if_true, if_false, q07_great l tk most _ hll]
  have tail : ∀ (Q : List Nd) (q : Bool) (Hq : AHeap) (tk : Tok), Hq[H.length]? = some (.cel 0 [.sl [] .tight]) → (∀ i, i < H.length → Hq[i]? = H[i]?) →
      (bP H (retH (storeA 1 (.ptr H.length 0 0) (.agg [.sl (enL cNd Q) tk]) Hq)) fun _ H37 => (resM [loadA true 1 (.ptr H.length 0 0) H37, some (.bool q)]).bind fun x38 => rPN H x38 H37) = some (.ret (.tup [quad Q, .bool q]), H) := by
    intro Q q Hq tk hc hold
    have hcl := (List.getElem?_eq_some_iff.1 hc).1
    have hst : storeA 1 (.ptr H.length 0 0) (.agg [.sl (enL cNd Q) tk]) Hq = some (Hq.set H.length (.cel 0 [.sl (enL cNd Q) tk])) := by
      simp only [storeA, get_cel hc, Option.bind_some, setC_cel hc]; rfl
    have hld : loadA true 1 (.ptr H.length 0 0) (Hq.set H.length (.cel 0 [.sl (enL cNd Q) tk])) = some (.agg [.sl (enL cNd Q) tk]) := by
      have : (Hq.set H.length (.cel 0 [.sl (enL cNd Q) tk]))[H.length]? = some (.cel 0 [.sl (enL cNd Q) tk]) := by rw [List.getElem?_set_self hcl]
      simp only [loadA, get_cel this, Option.bind_some]; rfl
    have htake : (Hq.set H.length (.cel 0 [.sl (enL cNd Q) tk])).take H.length = H := take_of_old fun i hi => by
      rw [List.getElem?_set_ne (by omega), hold i hi]
    simp only [GMb, joinPt, decide_true, decide_false, if_true, if_false, hst, hld, resM_eq, seqO_cons, seqO_nil, Option.map_some, rPN_eq htake, fall_tup, fparts_cons, fparts_nil, fpart_agg, fcells_cons, fcells_nil, fcell_sl, fpart_bool]
    rfl
  cases hg : greatB most l with
  | true =>
    simp only [GMb, joinPt, decide_true, decide_false, if_true, if_false]
    rw [show buildA (some [(.sl [] .tight)]) [] = some (.agg [.sl (enL cNd []) .tight]) from rfl, obind]
    exact tail [] false _ _ (by simp) fun i hi => by rw [List.getElem?_append_left hi]
  | false =>
    obtain ⟨g1, g2, g3⟩ := great_no hg hl
    simp only [GMb, joinPt, decide_true, decide_false, if_true, if_false, q07_of l tk _ (by omega) g2 (fun r hr _ => g3 r hr)]
    have mid : ∀ (Q : List Nd) (e : Int), ((extractA 0 (.tup [quad Q, .int .i64 e])).bind fun x13 => (extractA 1 (.tup [quad Q, .int .i64 e])).bind fun x14 =>
        afterA (allocA (some [(.sl [] .tight)]) (H ++ [Blk.cel 0 [.sl [] .tight]])) fun q_15 H16 => bP H (retH (storeA 1 q_15 x13 H16)) fun _ H18 => (loadA true 1 q_15 H18).bind fun x19 =>
        (binA .none .eql x14 (.int .i64 0)).bind fun x20 => bP H (retH (storeA 1 (.ptr H.length 0 0) x19 H18)) fun _ H22 => (resM [loadA true 1 (.ptr H.length 0 0) H22, some x20]).bind fun x23 => rPN H x23 H22) = some (.ret (.tup [quad Q, .bool (decide (e = 0))]), H) := by
      intro Q e
      rw [alloc_eq (cs := [.sl [] .tight]) rfl]
      have hB : ∀ B : AHeap, storeA 1 (.ptr B.length 0 0) (.agg [.sl (enL cNd Q) .no]) (B ++ [.cel 0 [.sl [] .tight]]) = some (B ++ [.cel 0 [.sl (enL cNd Q) .no]]) := fun B => by
        simp only [storeA, get_cel (last_cel (B := B) (cs := [.sl [] .tight])), Option.bind_some, setC_cel (last_cel (B := B) (cs := [.sl [] .tight])), last_set]; rfl
      have hL : ∀ B : AHeap, loadA true 1 (.ptr B.length 0 0) (B ++ [.cel 0 [.sl (enL cNd Q) .no]]) = some (.agg [.sl (enL cNd Q) .no]) := fun B => by
        simp only [loadA, get_cel (last_cel (B := B)), Option.bind_some]; rfl
      simp only [extract_0, extract_1, GMb, joinPt, decide_true, decide_false, if_true, if_false, quad, quadC, hB, hL]
      exact tail Q _ _ _ (by simp) fun i hi => by rw [List.append_assoc, List.getElem?_append_left hi]
    cases hr : l.all RC.right with
    | true => simp only [GMb, joinPt, decide_true, decide_false, if_true, if_false]; exact mid _ _
    | false => simp only [GMb, joinPt, decide_true, decide_false, if_true, if_false]; exact mid [] 1
/-- A pattern as the program has it. -/
def patC (rule : List UInt8) (L : List Nd) : List AVal := [.str rule, .sl (enL cNd L) .no]
def pat (rule : List UInt8) (L : List Nd) : AVal := .agg (patC rule L)
theorem boxPat (rule : List UInt8) (L : List Nd) (H : AHeap) : boxA true 2 (pat rule L) H = some (.ptr H.length 0 0, H ++ [.cel 0 (patC rule L)]) := box_agg rfl rfl
section
variable {H : AHeap} {p : Nat} {rule : List UInt8} {L : List Nd}
theorem load_ruleP (hg : H[p]? = some (.cel 0 (patC rule L))) : loadA false 1 (.ptr p 0 0) H = some (.str rule) := by
  simp only [loadA, get_cel hg, Option.bind_some]; rfl
theorem load_quadP (hg : H[p]? = some (.cel 0 (patC rule L))) : loadA true 1 (.ptr p 0 1) H = some (quad L) := by
  simp only [loadA, get_cel hg, Option.bind_some]; rfl
theorem load_patP (hg : H[p]? = some (.cel 0 (patC rule L))) : loadA true 2 (.ptr p 0 0) H = some (pat rule L) := by
  simp only [loadA, get_cel hg, Option.bind_some]; rfl
end
theorem q11_right (rule : List UInt8) (L : List Nd) (H : AHeap) (hr : rule.length < 1152921504606846976) (hL : L.length < 17592186044415) : Sh.gliderref11_Right (pat rule L) H = some (.ret (.bool (ruleB rule && qrightB L)), H) := by
  unfold Sh.gliderref11_Right
  have e1 : (H ++ [Blk.cel 0 (patC rule L)])[H.length]? = some (.cel 0 (patC rule L)) := last_cel
  simp only [GMb, joinPt, decide_true, decide_false, if_true, if_false, boxPat, fieldAddr_ptr, Nat.zero_add, Nat.add_zero, load_ruleP e1, q04_rule rule _ hr]
  cases ruleB rule with
  | false => simp only [GMb, joinPt, decide_true, decide_false, if_true, if_false, rP_bool]
  | true => simp only [GMb, joinPt, decide_true, decide_false, if_true, if_false, fieldAddr_ptr, Nat.zero_add, load_quadP e1, quad, quadC, q05_right L .no _ hL, rP_bool]
theorem q11_of (rule : List UInt8) (l : List RC) (tk : Tok) (most : Int) (H : AHeap) (hr : rule.length < 1152921504606846976) (hm : most < 2147483648) (hll : l.length < 1152921504606846976) (hl : ∀ r ∈ l, r.lim) :
    Sh.gliderref11_Of (.str rule) (.sl (enL cRC l) tk) (.int .i64 most) H = some (.ret (.tup [pat rule (quad07 most l).1, .bool ((quad07 most l).2 && ruleB rule)]), H) := by
  unfold Sh.gliderref11_Of
  rw [alloc_eq (cs := [.str [], .sl [] .tight]) rfl]
  simp only [GMb, joinPt, decide_true, decide_false, if_true, if_false, q07_quad l tk most _ hm hll hl, extract_0, extract_1, alloc_eq (cs := [AVal.sl [] .tight]) rfl]
  generalize quad07 most l = Q
  obtain ⟨Q, ok⟩ := Q
  dsimp only
  have hB : ∀ B : AHeap, storeA 1 (.ptr B.length 0 0) (quad Q) (B ++ [.cel 0 [.sl [] .tight]]) = some (B ++ [.cel 0 (quadC Q)]) := fun B => by
    unfold quad quadC
    simp only [storeA, get_cel (last_cel (B := B) (cs := [.sl [] .tight])), Option.bind_some, setC_cel (last_cel (B := B) (cs := [.sl [] .tight])), last_set]; rfl
  have hL : ∀ B : AHeap, loadA true 1 (.ptr B.length 0 0) (B ++ [.cel 0 (quadC Q)]) = some (quad Q) := fun B => by
    unfold quad quadC
    simp only [loadA, get_cel (last_cel (B := B)), Option.bind_some]; rfl
  have hb : buildA (some [.str [], .sl [] .tight]) [(0, 1, .str rule), (1, 1, quad Q)] = some (pat rule Q) := by
    unfold quad quadC pat patC
    simp [buildA, fillA, putN, AVal.acells]
  have hst : storeA 2 (.ptr H.length 0 0) (pat rule Q) (H ++ [Blk.cel 0 [.str [], .sl [] .tight]] ++ [.cel 0 (quadC Q)]) = some (H ++ [Blk.cel 0 (patC rule Q)] ++ [.cel 0 (quadC Q)]) := by
    have hc : (H ++ [Blk.cel 0 [.str [], .sl [] .tight]] ++ [.cel 0 (quadC Q)])[H.length]? = some (.cel 0 [.str [], .sl [] .tight]) := by simp
    unfold pat patC
    simp only [storeA, get_cel hc, Option.bind_some, setC_cel hc, acells_agg (cs := [AVal.str rule, .sl (enL cNd Q) .no]) rfl, putN_all (cs := [AVal.str [], .sl [] .tight]) (sz := 2) rfl]
    simp
  have hld : loadA true 2 (.ptr H.length 0 0) (H ++ [Blk.cel 0 (patC rule Q)] ++ [.cel 0 (quadC Q)]) = some (pat rule Q) := load_patP (by simp)
  have fin : ∀ q : Bool, ((resM [loadA true 2 (.ptr H.length 0 0) (H ++ [Blk.cel 0 (patC rule Q)] ++ [.cel 0 (quadC Q)]), some (.bool q)]).bind fun x22 => rPN H x22 (H ++ [Blk.cel 0 (patC rule Q)] ++ [.cel 0 (quadC Q)])) = some (.ret (.tup [pat rule Q, .bool q]), H) := fun q => by
    rw [hld, List.append_assoc]
    unfold pat patC
    simp only [resM_eq, seqO_cons, seqO_nil, Option.map_some, obind, rPN_app, fall_tup, fparts_cons, fparts_nil, fpart_agg, fcells_cons, fcells_nil, fcell_sl, fcell_str, fpart_bool]
  simp only [hB, GMb, joinPt, decide_true, decide_false, if_true, if_false]
  cases ok with
  | false => simp only [GMb, joinPt, decide_true, decide_false, if_true, if_false, hL, and_true, eq_self, hb, hst, fin]
  | true => simp only [GMb, joinPt, decide_true, decide_false, if_true, if_false, q04_rule rule _ hr, hL, and_true, eq_self, hb, hst, fin]
def fineB (a b : Int) : Bool := decide (0 ≤ a) && decide (a ≤ 1000) && decide (0 ≤ b) && decide (b ≤ 100000)
theorem q11_fine (a b : Int) (H : AHeap) : Sh.gliderref11_Fine (.agg [.int .i64 a, .int .i64 b]) H = some (.ret (.bool (fineB a b)), H) := by
  unfold Sh.gliderref11_Fine fineB
  have e1 : (H ++ [Blk.cel 0 [.int .i64 a, .int .i64 b]])[H.length]? = some (.cel 0 [.int .i64 a, .int .i64 b]) := last_cel
  have g1 : loadA false 1 (.ptr H.length 0 0) (H ++ [Blk.cel 0 [.int .i64 a, .int .i64 b]]) = some (.int .i64 a) := by simp only [loadA, get_cel e1, Option.bind_some]; rfl
  have g2 : loadA false 1 (.ptr H.length 0 1) (H ++ [Blk.cel 0 [.int .i64 a, .int .i64 b]]) = some (.int .i64 b) := by simp only [loadA, get_cel e1, Option.bind_some]; rfl
  simp only [GMb, joinPt, decide_true, decide_false, if_true, if_false, box_agg (sz := 2) (cs := [AVal.int .i64 a, .int .i64 b]) rfl rfl, fieldAddr_ptr, Nat.zero_add, Nat.add_zero, g1, ge_iff_le]
  cases decide (0 ≤ a) with
  | false => simp only [GMb, joinPt, decide_true, decide_false, if_true, if_false, rP_bool]
  | true =>
    simp only [GMb, joinPt, decide_true, decide_false, if_true, if_false, fieldAddr_ptr, Nat.zero_add, Nat.add_zero, g1]
    cases decide (a ≤ 1000) with
    | false => simp only [GMb, joinPt, decide_true, decide_false, if_true, if_false, rP_bool]
    | true =>
      simp only [GMb, joinPt, decide_true, decide_false, if_true, if_false, fieldAddr_ptr, Nat.zero_add, g2, ge_iff_le]
      cases decide (0 ≤ b) with
      | false => simp only [GMb, joinPt, decide_true, decide_false, if_true, if_false, rP_bool]
      | true => simp only [GMb, joinPt, decide_true, decide_false, if_true, if_false, fieldAddr_ptr, Nat.zero_add, g2, rP_bool]
theorem q11_format (n : Int) (H : AHeap) : Sh.gliderref11_Format (.int .i64 n) H = some (.ret (.bool (decide (1 ≤ n) && decide (n ≤ 5))), H) := by
  unfold Sh.gliderref11_Format
  simp only [GMb, joinPt, decide_true, decide_false, if_true, if_false, ge_iff_le]
  cases decide (1 ≤ n) <;> simp only [GMb, joinPt, decide_true, decide_false, if_true, if_false]
end Go.Gm
/- Trees: what nodes stand for. -/
namespace Go.Gm
set_option linter.unusedVariables false
set_option linter.unusedSimpArgs false
inductive QT where
  | nil
  | leaf (a b c d : Int)
  | node (a b c d : QT)
deriving DecidableEq
/-- The tree of a node of a level. -/
def semF (L : List Nd) (E : List Bool) : Nat → Nat → QT
  | 0, _ => .nil
  | v + 1, n =>
    if E.getD n true then .nil
    else if 1 < (ndAt L n).lv then .node (semF L E v (ndAt L n).k0.toNat) (semF L E v (ndAt L n).k1.toNat) (semF L E v (ndAt L n).k2.toNat) (semF L E v (ndAt L n).k3.toNat)
    else .leaf (ndAt L n).k0 (ndAt L n).k1 (ndAt L n).k2 (ndAt L n).k3
abbrev sem (L : List Nd) (v n : Nat) : QT := semF L (empL L) v n
def St (a : Int) : Prop := 0 ≤ a ∧ a ≤ 255
/-- A tree of a level. -/
def Good : Nat → QT → Prop
  | _, .nil => True
  | v, .leaf a b c d => v = 1 ∧ (St a ∧ St b ∧ St c ∧ St d) ∧ ¬ (a = 0 ∧ b = 0 ∧ c = 0 ∧ d = 0)
  | v, .node a b c d => 2 ≤ v ∧ v ≤ 1329 ∧ (Good (v - 1) a ∧ Good (v - 1) b ∧ Good (v - 1) c ∧ Good (v - 1) d) ∧ ¬ (a = .nil ∧ b = .nil ∧ c = .nil ∧ d = .nil)
def insT : Nat → QT → List Nd → List Nd × Nat
  | _, .nil, out => (out, 0)
  | _, .leaf a b c d, out => putN' out ⟨1, a, b, c, d⟩
  | v, .node a b c d, out =>
    putN' (insT (v - 1) d (insT (v - 1) c (insT (v - 1) b (insT (v - 1) a out).1).1).1).1
      ⟨v, (insT (v - 1) a out).2, (insT (v - 1) b (insT (v - 1) a out).1).2, (insT (v - 1) c (insT (v - 1) b (insT (v - 1) a out).1).1).2, (insT (v - 1) d (insT (v - 1) c (insT (v - 1) b (insT (v - 1) a out).1).1).1).2⟩
theorem insK_4 (rec : Nat → List Nd → List Nd × Nat) (x : Nd) (out : List Nd) : insK rec x 4 out =
    ((rec x.k3.toNat (rec x.k2.toNat (rec x.k1.toNat (rec x.k0.toNat out).1).1).1).1,
      ⟨x.lv, (rec x.k0.toNat out).2, (rec x.k1.toNat (rec x.k0.toNat out).1).2, (rec x.k2.toNat (rec x.k1.toNat (rec x.k0.toNat out).1).1).2, (rec x.k3.toNat (rec x.k2.toNat (rec x.k1.toNat (rec x.k0.toNat out).1).1).1).2⟩) := rfl
/-- Of a number among loose nodes: it is 0, or its node's level is so much. -/
def Lv (L : List Nd) (v n : Nat) : Prop := n ≤ L.length ∧ (n = 0 ∨ (ndAt L n).lv.toNat = v)
theorem Lv.kid {L : List Nd} (hl : looseB L = true) {v n k : Nat} (h0 : 0 < n) (h : Lv L (v + 1) n) (h1 : 1 < (ndAt L n).lv) (hk : k < 4) : Lv L v ((ndAt L n).kid k).toNat ∧ ((ndAt L n).kid k).toNat < n ∧ 0 ≤ (ndAt L n).kid k := by
  obtain ⟨m, rfl⟩ : ∃ m, n = m + 1 := ⟨n - 1, by omega⟩
  have hm : m < L.length := h.1
  obtain ⟨l1, l2, l3⟩ := loose_get hl hm
  have hx : ndAt L ((m + 1 : Nat) : Int) = L[m] := ndAt_nat hm
  have hv := h.2
  rw [hx] at h1 hv ⊢
  obtain ⟨q1, q2, q3⟩ := l3 k hk
  by_cases hc : 0 < L[m].kid k
  · obtain ⟨r1, r2⟩ := q3 h1 hc
    obtain ⟨c, hcc⟩ : ∃ c : Nat, L[m].kid k = ((c + 1 : Nat) : Int) := ⟨(L[m].kid k - 1).toNat, by omega⟩
    have hcl : c < L.length := by omega
    have := r2 L[c] (by rw [show (L[m].kid k - 1).toNat = c from by omega]; exact List.getElem?_eq_getElem hcl)
    rw [hcc, show (((c + 1 : Nat) : Int)).toNat = c + 1 from by omega]
    refine ⟨⟨by omega, .inr ?_⟩, by omega, by omega⟩
    rw [ndAt_nat hcl]; omega
  · rw [show (L[m].kid k).toNat = 0 from by omega]
    exact ⟨⟨Nat.zero_le _, .inl rfl⟩, by omega, q1⟩
theorem insF_sem {L : List Nd} (hl : looseB L = true) : ∀ v n out, Lv L v n → insF L (empL L) v n out = insT v (sem L v n) out
  | 0, n, out, h => rfl
  | v + 1, n, out, h => by
    unfold sem
    simp only [insF, semF]
    split
    · rfl
    · rename_i he
      have h0 : 0 < n := emp_pos (by simpa using he)
      have hlv : (ndAt L (n : Int)).lv.toNat = v + 1 := by rcases h.2 with h | h <;> omega
      split
      · rename_i h1
        rw [insK_4]
        have e : ∀ k, k < 4 → ∀ o, insF L (empL L) v ((ndAt L n).kid k).toNat o = insT v (sem L v ((ndAt L n).kid k).toNat) o := fun k hk o => insF_sem hl v _ o (Lv.kid hl h0 h h1 hk).1
        have e0 := e 0 (by omega)
        have e1 := e 1 (by omega)
        have e2 := e 2 (by omega)
        have e3 := e 3 (by omega)
        simp only [Nd.kid] at e0 e1 e2 e3
        simp only [insT, Nat.add_sub_cancel, e0, e1, e2, e3]
        have : (ndAt L (n : Int)).lv = ((v + 1 : Nat) : Int) := by omega
        rw [this]
      · rename_i h1
        have : (ndAt L (n : Int)).lv = 1 := by omega
        simp only [insT]
        congr 1
        cases hx : ndAt L (n : Int) with
        | mk a b c d e => rw [hx] at this; simp only at this; rw [this]
/-- Empty, or not: told by the node alone, if one knows it of its kids. -/
theorem emp_iff {L : List Nd} (hl : looseB L = true) {n : Nat} (h0 : 0 < n) (hn : n ≤ L.length) : (empL L).getD n true = (List.range 4).all fun k => decide ((ndAt L n).kid k = 0) || (decide (1 < (ndAt L n).lv) && (empL L).getD ((ndAt L n).kid k).toNat true) := by
  obtain ⟨m, rfl⟩ : ∃ m, n = m + 1 := ⟨n - 1, by omega⟩
  have hm : m < L.length := hn
  have hpre : ∀ (r l : List Nd), ∃ s, empL (l ++ r) = empL l ++ s := by
    intro r
    induction r with
    | nil => intro l; exact ⟨[], by simp⟩
    | cons x r ih =>
      intro l
      obtain ⟨s, hs⟩ := ih (l ++ [x])
      exact ⟨[empS (empL l) x] ++ s, by rw [show l ++ x :: r = l ++ [x] ++ r from by simp, hs, empL_snoc]; simp⟩
  have hL : L = L.take m ++ [L[m]] ++ L.drop (m + 1) := by
    rw [← List.take_succ_eq_append_getElem hm, List.take_append_drop]
  obtain ⟨s, hs⟩ := hpre (L.drop (m + 1)) (L.take m ++ [L[m]])
  rw [← hL, empL_snoc] at hs
  have hlen : (empL (L.take m)).length = m + 1 := by rw [empL_len]; simp; omega
  have hat : (empL L).getD (m + 1) true = empS (empL (L.take m)) L[m] := by
    rw [hs, List.getD_eq_getElem?_getD, List.getElem?_append_left (by simp [hlen]), List.getElem?_append_right (by omega), hlen]; simp
  rw [hat, ndAt_nat hm]
  obtain ⟨l1, l2, l3⟩ := loose_get hl hm
  unfold empS
  have hk : ∀ k, k < 4 → (decide (1 < L[m].lv) && (empL (L.take m)).getD (L[m].kid k).toNat true) = (decide (1 < L[m].lv) && (empL L).getD (L[m].kid k).toNat true) := by
    intro k hk
    obtain ⟨q1, q2, q3⟩ := l3 k hk
    by_cases h1 : 1 < L[m].lv
    · have hlt : (L[m].kid k).toNat < m + 1 := by
        by_cases hc : 0 < L[m].kid k
        · have := (q3 h1 hc).1; omega
        · omega
      congr 1
      rw [hs, List.append_assoc, List.getD_eq_getElem?_getD, List.getD_eq_getElem?_getD, List.getElem?_append_left (by omega)]
    · simp [h1]
  rw [range4, range4, hk 0 (by omega), hk 1 (by omega), hk 2 (by omega), hk 3 (by omega)]
theorem sem_zero (L : List Nd) (v : Nat) : sem L v 0 = .nil := by
  unfold sem
  cases v with
  | zero => rfl
  | succ v => simp only [semF, emp_zero, if_true]
theorem sem_nil {L : List Nd} (hl : looseB L = true) {v n : Nat} (h : Lv L v n) : sem L v n = .nil ↔ (empL L).getD n true = true := by
  unfold sem
  cases v with
  | zero =>
    refine ⟨fun _ => ?_, fun _ => rfl⟩
    rcases h.2 with h0 | h0
    · rw [h0]; exact emp_zero L
    · by_cases hn : 0 < n
      · obtain ⟨m, rfl⟩ : ∃ m, n = m + 1 := ⟨n - 1, by omega⟩
        have hm : m < L.length := h.1
        rw [ndAt_nat hm] at h0
        have := (loose_get hl hm).1; omega
      · obtain rfl : n = 0 := by omega
        exact emp_zero L
  | succ v =>
    simp only [semF]
    split
    · rename_i he; exact ⟨fun _ => he, fun _ => rfl⟩
    · rename_i he
      split
      · exact ⟨fun h => by (cases h), fun h => absurd h he⟩
      · exact ⟨fun h => by (cases h), fun h => absurd h he⟩
theorem sem_good {L : List Nd} (hl : looseB L = true) : ∀ v n, Lv L v n → Good v (sem L v n)
  | 0, n, h => trivial
  | v + 1, n, h => by
    unfold sem
    simp only [semF]
    split
    · trivial
    · rename_i he
      have he' : (empL L).getD n true = false := by simpa using he
      have h0 : 0 < n := emp_pos he'
      have hlv : (ndAt L (n : Int)).lv.toNat = v + 1 := by rcases h.2 with h | h <;> omega
      have hle := lv_le hl h0 h.1
      have hem := emp_iff hl h0 h.1
      rw [he', range4] at hem
      split
      · rename_i h1
        have e : ∀ k, k < 4 → Good v (sem L v ((ndAt L n).kid k).toNat) := fun k hk => sem_good hl v _ (Lv.kid hl h0 h h1 hk).1
        have e0 := e 0 (by omega)
        have e1 := e 1 (by omega)
        have e2 := e 2 (by omega)
        have e3 := e 3 (by omega)
        have f : ∀ k, k < 4 → sem L v ((ndAt L n).kid k).toNat = .nil → (decide ((ndAt L n).kid k = 0) || (decide (1 < (ndAt L n).lv) && (empL L).getD ((ndAt L n).kid k).toNat true)) = true := fun k hk hs => by
          rw [sem_nil hl (Lv.kid hl h0 h h1 hk).1] at hs; rw [hs]; simp [h1]
        refine ⟨by omega, by omega, ⟨e0, e1, e2, e3⟩, fun ⟨n0, n1, n2, n3⟩ => ?_⟩
        rw [f 0 (by omega) n0, f 1 (by omega) n1, f 2 (by omega) n2, f 3 (by omega) n3] at hem
        cases hem
      · rename_i h1
        have hlv1 : (ndAt L (n : Int)).lv = 1 := by omega
        obtain ⟨m, rfl⟩ : ∃ m, n = m + 1 := ⟨n - 1, by omega⟩
        have hm : m < L.length := h.1
        obtain ⟨l1, l2, l3⟩ := loose_get hl hm
        have hx : ndAt L ((m + 1 : Nat) : Int) = L[m] := ndAt_nat hm
        rw [hx] at hlv1 hem h1 ⊢
        have s : ∀ k, k < 4 → St (L[m].kid k) := fun k hk => ⟨(l3 k hk).1, (l3 k hk).2.1 hlv1⟩
        refine ⟨by rw [hx] at hlv; omega, ⟨s 0 (by omega), s 1 (by omega), s 2 (by omega), s 3 (by omega)⟩, fun ⟨n0, n1, n2, n3⟩ => ?_⟩
        simp only [Nd.kid, n0, n1, n2, n3, decide_true, Bool.true_or, Bool.and_self] at hem
        cases hem
end Go.Gm
/- Trees laid as nodes: each is what it was. -/
namespace Go.Gm
set_option linter.unusedVariables false
set_option linter.unusedSimpArgs false
structure Clean (out : List Nd) : Prop where
  lo : looseB out = true
  nd : out.Nodup
  ne : ∀ n, 0 < n → n ≤ out.length → (empL out).getD n true = false
theorem Clean.nil : Clean [] := ⟨rfl, List.nodup_nil, fun n h1 h2 => by simp at h2; omega⟩
theorem empL_pre : ∀ (r l : List Nd), ∃ s, empL (l ++ r) = empL l ++ s := by
  intro r
  induction r with
  | nil => intro l; exact ⟨[], by simp⟩
  | cons x r ih =>
    intro l
    obtain ⟨s, hs⟩ := ih (l ++ [x])
    exact ⟨[empS (empL l) x] ++ s, by rw [show l ++ x :: r = l ++ [x] ++ r from by simp, hs, empL_snoc]; simp⟩
theorem empL_old {l r : List Nd} {n : Nat} (h : n ≤ l.length) : (empL (l ++ r)).getD n true = (empL l).getD n true := by
  obtain ⟨s, hs⟩ := empL_pre r l
  rw [hs, List.getD_eq_getElem?_getD, List.getD_eq_getElem?_getD, List.getElem?_append_left (by rw [empL_len]; omega)]
theorem ndAt_old {l r : List Nd} {n : Nat} (h0 : 0 < n) (h : n ≤ l.length) : ndAt (l ++ r) (n : Int) = ndAt l (n : Int) := by
  obtain ⟨m, rfl⟩ : ∃ m, n = m + 1 := ⟨n - 1, by omega⟩
  rw [ndAt_nat (show m < (l ++ r).length by simp; omega), ndAt_nat (show m < l.length by omega), List.getElem_append_left (by omega)]
theorem sem_old {l r : List Nd} (hl : looseB l = true) : ∀ v n, Lv l v n → sem (l ++ r) v n = sem l v n
  | 0, n, h => rfl
  | v + 1, n, h => by
    unfold sem
    simp only [semF, empL_old h.1]
    split
    · rfl
    · rename_i he
      have h0 : 0 < n := emp_pos (by simpa using he)
      rw [ndAt_old h0 h.1]
      split
      · rename_i h1
        have e : ∀ k, k < 4 → sem (l ++ r) v ((ndAt l n).kid k).toNat = sem l v ((ndAt l n).kid k).toNat := fun k hk => sem_old hl v _ (Lv.kid hl h0 h h1 hk).1
        have e0 := e 0 (by omega)
        have e1 := e 1 (by omega)
        have e2 := e 2 (by omega)
        have e3 := e 3 (by omega)
        simp only [Nd.kid, sem] at e0 e1 e2 e3
        rw [e0, e1, e2, e3]
      · rfl
theorem Lv.old {l r : List Nd} {v n : Nat} (h : Lv l v n) : Lv (l ++ r) v n := by
  refine ⟨by have := h.1; simp; omega, ?_⟩
  rcases h.2 with h0 | h0
  · exact .inl h0
  · by_cases hn : 0 < n
    · exact .inr (by rw [ndAt_old hn h.1]; exact h0)
    · exact .inl (by omega)
/-- A node that may be put behind others: what it stands for. -/
structure Fit (o : List Nd) (x : Nd) (v : Nat) (t : QT) : Prop where
  lv : x.lv = (v : Int)
  v1 : 1 ≤ v ∧ v ≤ 1329
  kid : (1 < v ∧ t = .node (sem o (v - 1) x.k0.toNat) (sem o (v - 1) x.k1.toNat) (sem o (v - 1) x.k2.toNat) (sem o (v - 1) x.k3.toNat) ∧ ∀ k, k < 4 → 0 ≤ x.kid k ∧ Lv o (v - 1) (x.kid k).toNat) ∨ (v = 1 ∧ t = .leaf x.k0 x.k1 x.k2 x.k3 ∧ ∀ k, k < 4 → St (x.kid k))
  ne : ∃ k, k < 4 ∧ x.kid k ≠ 0
structure Ins (v : Nat) (t : QT) (out o' : List Nd) (i : Nat) : Prop where
  pre : ∃ r, o' = out ++ r ∧ ∀ x ∈ r, x.lv ≤ (v : Int)
  cl : Clean o'
  lv : Lv o' v i
  sm : sem o' v i = t
  old : i ≤ out.length → o' = out
  new : out.length < i → i = o'.length
theorem fit_loose {o : List Nd} (hc : Clean o) {x : Nd} {v : Nat} {t : QT} (h : Fit o x v t) : looseB (o ++ [x]) = true := by
  refine loose_snoc hc.lo (loose_ndOk (by rw [h.lv]; have := h.v1; omega) (by rw [h.lv]; have := h.v1; omega) fun k hk => ?_)
  rcases h.kid with ⟨h1, _, h2⟩ | ⟨h1, _, h2⟩
  · obtain ⟨q1, q2⟩ := h2 k hk
    refine ⟨q1, fun e => by rw [h.lv] at e; omega, fun _ hp => ?_⟩
    have hn := q2.1
    refine ⟨by omega, ?_⟩
    rcases q2.2 with q | q
    · omega
    · have e : x.kid k = (((x.kid k).toNat : Nat) : Int) := by omega
      obtain ⟨m, hm⟩ : ∃ m, (x.kid k).toNat = m + 1 := ⟨(x.kid k).toNat - 1, by omega⟩
      rw [e, hm] 
      rw [hm] at q
      have hml : m < o.length := by omega
      rw [ndAt_nat hml] at q ⊢
      have := (loose_get hc.lo hml).1
      rw [h.lv]; omega
  · obtain ⟨q1, q2⟩ := h2 k hk
    exact ⟨q1, fun _ => q2, fun e => by rw [h.lv] at e; omega⟩
theorem fit_ne {o : List Nd} (hc : Clean o) {x : Nd} {v : Nat} {t : QT} (h : Fit o x v t) : empS (empL o) x = false := by
  obtain ⟨k, hk, hkn⟩ := h.ne
  unfold empS
  rw [List.all_eq_false]
  refine ⟨k, by simpa using hk, ?_⟩
  rcases h.kid with ⟨h1, _, h2⟩ | ⟨h1, _, h2⟩
  · obtain ⟨q1, q2⟩ := h2 k hk
    rw [hc.ne (x.kid k).toNat (by omega) q2.1]
    simp [hkn]
  · have : ¬ 1 < x.lv := by rw [h.lv]; omega
    simp [hkn, this]
theorem fit_sem {o : List Nd} (hc : Clean o) {x : Nd} {v : Nat} {t : QT} (h : Fit o x v t) {i : Nat} (hi : o[i]? = some x) : sem o v (i + 1) = t := by
  have hlt : i < o.length := (List.getElem?_eq_some_iff.1 hi).1
  have hx : ndAt o ((i + 1 : Nat) : Int) = x := by rw [ndAt_nat hlt]; rw [List.getElem?_eq_getElem hlt] at hi; injection hi
  obtain ⟨w, rfl⟩ : ∃ w, v = w + 1 := ⟨v - 1, by have := h.v1; omega⟩
  unfold sem
  simp only [semF, hc.ne (i + 1) (by omega) (by omega), hx, h.lv, Bool.false_eq_true, if_false]
  rcases h.kid with ⟨h1, h3, h2⟩ | ⟨h1, h3, h2⟩
  · rw [if_pos (by omega), h3]; rfl
  · rw [if_neg (by omega), h3]
theorem Fit.old {o r : List Nd} (hc : Clean o) {x : Nd} {v : Nat} {t : QT} (h : Fit o x v t) : Fit (o ++ r) x v t := by
  refine ⟨h.lv, h.v1, ?_, h.ne⟩
  rcases h.kid with ⟨h1, h3, h2⟩ | ⟨h1, h3, h2⟩
  · left
    refine ⟨h1, ?_, fun k hk => ⟨(h2 k hk).1, (h2 k hk).2.old⟩⟩
    have e0 := sem_old (r := r) hc.lo _ _ (h2 0 (by omega)).2
    have e1 := sem_old (r := r) hc.lo _ _ (h2 1 (by omega)).2
    have e2 := sem_old (r := r) hc.lo _ _ (h2 2 (by omega)).2
    have e3 := sem_old (r := r) hc.lo _ _ (h2 3 (by omega)).2
    simp only [Nd.kid] at e0 e1 e2 e3
    rw [e0, e1, e2, e3]; exact h3
  · exact .inr ⟨h1, h3, h2⟩
theorem fit_clean {o : List Nd} (hc : Clean o) {x : Nd} {v : Nat} {t : QT} (h : Fit o x v t) (hn : x ∉ o) : Clean (o ++ [x]) := by
  refine ⟨fit_loose hc h, ?_, fun n h0 hle => ?_⟩
  · rw [List.nodup_append]
    exact ⟨hc.nd, by simp, fun a ha b hb e => by simp at hb; subst hb; subst e; exact hn ha⟩
  · by_cases hno : n ≤ o.length
    · rw [empL_old hno]; exact hc.ne n h0 hno
    · have e : n = o.length + 1 := by simp at hle; omega
      rw [e, empL_snoc, List.getD_eq_getElem?_getD, List.getElem?_append_right (by rw [empL_len]; omega), empL_len]
      simp [fit_ne hc h]
theorem put_ins {o : List Nd} (hc : Clean o) {x : Nd} {v : Nat} {t : QT} (h : Fit o x v t) : (∃ r, (putN' o x).1 = o ++ r ∧ ∀ y ∈ r, y = x) ∧ Clean (putN' o x).1 ∧ Lv (putN' o x).1 v (putN' o x).2 ∧ sem (putN' o x).1 v (putN' o x).2 = t ∧ ((putN' o x).1[(putN' o x).2 - 1]? = some x ∧ 0 < (putN' o x).2) ∧ (((putN' o x).1 = o ∧ (putN' o x).2 ≤ o.length) ∨ ((putN' o x).2 = o.length + 1 ∧ (putN' o x).2 = (putN' o x).1.length)) := by
  have hlv : x.lv.toNat = v := by rw [h.lv]; omega
  cases hf : findN o x with
  | zero =>
    have hp : putN' o x = (o ++ [x], o.length + 1) := by simp [putN', hf]
    have hn := findN_zero.1 hf
    have hg : (o ++ [x])[o.length]? = some x := by simp
    rw [hp]
    have hc' := fit_clean hc h hn
    refine ⟨⟨[x], rfl, by simp⟩, hc', ⟨by simp, .inr ?_⟩, fit_sem hc' (h.old hc) hg, ⟨by simp, by simp⟩, .inr ⟨rfl, by simp⟩⟩
    rw [ndAt_nat (by simp)]; simp [hlv]
  | succ i =>
    have hp : putN' o x = (o, i + 1) := by simp [putN', hf]
    rw [findN_some] at hf
    have hlt : i < o.length := (List.getElem?_eq_some_iff.1 hf.1).1
    rw [hp]
    refine ⟨⟨[], by simp, by simp⟩, hc, ⟨hlt, .inr ?_⟩, fit_sem hc h hf.1, ⟨by simpa using hf.1, by simp⟩, .inl ⟨rfl, hlt⟩⟩
    rw [ndAt_nat hlt]
    have := hf.1
    rw [List.getElem?_eq_getElem hlt] at this
    injection this with this
    rw [this, hlv]
theorem insT_ins : ∀ (t : QT) (v : Nat) (out : List Nd), Good v t → Clean out → Ins v t out (insT v t out).1 (insT v t out).2
  | .nil, v, out, hg, hc => ⟨⟨[], by simp [insT], by simp⟩, hc, ⟨Nat.zero_le _, .inl rfl⟩, sem_zero _ _, fun _ => rfl, fun h => by simp [insT] at h⟩
  | .leaf a b c d, v, out, hg, hc => by
    obtain ⟨rfl, ⟨ha, hb, hcc, hd⟩, hne⟩ := hg
    have hfit : Fit out ⟨1, a, b, c, d⟩ 1 (.leaf a b c d) := by
      refine ⟨rfl, ⟨by omega, by omega⟩, .inr ⟨rfl, rfl, fun k hk => ?_⟩, ?_⟩
      · match k, hk with
        | 0, _ => exact ha
        | 1, _ => exact hb
        | 2, _ => exact hcc
        | 3, _ => exact hd
      · by_cases h0 : a = 0
        · by_cases h1 : b = 0
          · by_cases h2 : c = 0
            · exact ⟨3, by omega, fun h3 => hne ⟨h0, h1, h2, h3⟩⟩
            · exact ⟨2, by omega, h2⟩
          · exact ⟨1, by omega, h1⟩
        · exact ⟨0, by omega, h0⟩
    obtain ⟨⟨r, p1, p2⟩, p3, p4, p5, p6, p7⟩ := put_ins hc hfit
    refine ⟨⟨r, p1, fun x hx => by rw [p2 x hx]; simp⟩, p3, p4, p5, fun hi => ?_, fun hi => ?_⟩
    · rcases p7 with ⟨q, _⟩ | ⟨q, _⟩
      · exact q
      · have : (insT 1 (.leaf a b c d) out).2 = out.length + 1 := q
        omega
    · rcases p7 with ⟨_, q⟩ | ⟨_, q⟩
      · have : (insT 1 (.leaf a b c d) out).2 ≤ out.length := q
        omega
      · exact q
  | .node a b c d, v, out, hg, hc => by
    obtain ⟨h2, hv, ⟨ga, gb, gc, gd⟩, hne⟩ := hg
    have ia := insT_ins a (v - 1) out ga hc
    have ib := insT_ins b (v - 1) _ gb ia.cl
    have ic := insT_ins c (v - 1) _ gc ib.cl
    have id := insT_ins d (v - 1) _ gd ic.cl
    simp only [insT]
    generalize insT (v - 1) a out = A at ia ib ic id ⊢
    obtain ⟨o1, n0⟩ := A
    dsimp only at ia ib ic id ⊢
    generalize insT (v - 1) b o1 = B at ib ic id ⊢
    obtain ⟨o2, n1⟩ := B
    dsimp only at ib ic id ⊢
    generalize insT (v - 1) c o2 = C at ic id ⊢
    obtain ⟨o3, n2⟩ := C
    dsimp only at ic id ⊢
    generalize insT (v - 1) d o3 = D at id ⊢
    obtain ⟨o4, n3⟩ := D
    dsimp only at id ⊢
    obtain ⟨r1, e1, w1⟩ := ia.pre
    obtain ⟨r2, e2, w2⟩ := ib.pre
    obtain ⟨r3, e3, w3⟩ := ic.pre
    obtain ⟨r4, e4, w4⟩ := id.pre
    have la : Lv o4 (v - 1) n0 ∧ sem o4 (v - 1) n0 = a := by
      have : o4 = o1 ++ (r2 ++ r3 ++ r4) := by rw [e4, e3, e2]; simp
      rw [this]; exact ⟨ia.lv.old, (sem_old ia.cl.lo _ _ ia.lv).trans ia.sm⟩
    have lb : Lv o4 (v - 1) n1 ∧ sem o4 (v - 1) n1 = b := by
      have : o4 = o2 ++ (r3 ++ r4) := by rw [e4, e3]; simp
      rw [this]; exact ⟨ib.lv.old, (sem_old ib.cl.lo _ _ ib.lv).trans ib.sm⟩
    have lc : Lv o4 (v - 1) n2 ∧ sem o4 (v - 1) n2 = c := by
      rw [e4]; exact ⟨ic.lv.old, (sem_old ic.cl.lo _ _ ic.lv).trans ic.sm⟩
    have ld : Lv o4 (v - 1) n3 ∧ sem o4 (v - 1) n3 = d := ⟨id.lv, id.sm⟩
    have nz : ∀ {n : Nat} {t : QT}, sem o4 (v - 1) n = t → t ≠ .nil → n ≠ 0 := fun h ht h0 => ht (by rw [← h, h0, sem_zero])
    have hfit : Fit o4 ⟨v, n0, n1, n2, n3⟩ v (.node a b c d) := by
      refine ⟨rfl, ⟨by omega, hv⟩, .inl ⟨by omega, ?_, fun k hk => ?_⟩, ?_⟩
      · simp only [Int.toNat_natCast, la.2, lb.2, lc.2, ld.2]
      · match k, hk with
        | 0, _ => exact ⟨Int.natCast_nonneg _, by simpa [Nd.kid] using la.1⟩
        | 1, _ => exact ⟨Int.natCast_nonneg _, by simpa [Nd.kid] using lb.1⟩
        | 2, _ => exact ⟨Int.natCast_nonneg _, by simpa [Nd.kid] using lc.1⟩
        | 3, _ => exact ⟨Int.natCast_nonneg _, by simpa [Nd.kid] using ld.1⟩
      · by_cases h0 : a = .nil
        · by_cases h1 : b = .nil
          · by_cases h2 : c = .nil
            · exact ⟨3, by omega, by have := nz ld.2 (fun h3 => hne ⟨h0, h1, h2, h3⟩); simp [Nd.kid]; omega⟩
            · exact ⟨2, by omega, by have := nz lc.2 h2; simp [Nd.kid]; omega⟩
          · exact ⟨1, by omega, by have := nz lb.2 h1; simp [Nd.kid]; omega⟩
        · exact ⟨0, by omega, by have := nz la.2 h0; simp [Nd.kid]; omega⟩
    obtain ⟨⟨r, p1, p2⟩, p3, p4, p5, ⟨p6, p6'⟩, p7⟩ := put_ins id.cl hfit
    have hout : o4 = out ++ (r1 ++ r2 ++ r3 ++ r4) := by rw [e4, e3, e2, e1]; simp
    have hlen : out.length ≤ o4.length := by rw [hout]; simp
    generalize hP : putN' o4 ⟨v, n0, n1, n2, n3⟩ = P at p1 p3 p4 p5 p6 p6' p7 ⊢
    obtain ⟨o', i⟩ := P
    dsimp only at p1 p3 p4 p5 p6 p6' p7 ⊢
    have lvs : ∀ x ∈ r1 ++ r2 ++ r3 ++ r4, x.lv ≤ ((v - 1 : Nat) : Int) := by
      intro x hx
      simp only [List.mem_append] at hx
      rcases hx with ((hx | hx) | hx) | hx
      · exact w1 x hx
      · exact w2 x hx
      · exact w3 x hx
      · exact w4 x hx
    refine ⟨⟨r1 ++ r2 ++ r3 ++ r4 ++ r, by rw [p1, hout]; simp, fun x hx => ?_⟩, p3, p4, p5, fun hi => ?_, fun hi => ?_⟩
    · rw [List.mem_append] at hx
      rcases hx with hx | hx
      · have := lvs x hx; omega
      · rw [p2 x hx]; exact Int.le_refl _
    · rcases p7 with ⟨q, _⟩ | ⟨q, _⟩
      · -- found among the old ones: its kids are old, too
        rw [q] at p6
        have hlt : i - 1 < out.length := by omega
        have hx : out[i - 1] = ⟨v, n0, n1, n2, n3⟩ := by
          rw [hout, List.getElem?_append_left hlt, List.getElem?_eq_getElem hlt] at p6
          injection p6
        obtain ⟨l1, l2, l3⟩ := loose_get hc.lo hlt
        have hk : ∀ k, k < 4 → out[i - 1].kid k ≤ out.length := fun k hk => by
          obtain ⟨q1, q2, q3⟩ := l3 k hk
          by_cases hp : 0 < out[i - 1].kid k
          · have := (q3 (by rw [hx]; show (1 : Int) < (v : Int); omega) hp).1; omega
          · omega
        rw [hx] at hk
        have k0 : (n0 : Int) ≤ out.length := hk 0 (by omega)
        have k1 : (n1 : Int) ≤ out.length := hk 1 (by omega)
        have k2 : (n2 : Int) ≤ out.length := hk 2 (by omega)
        have k3 : (n3 : Int) ≤ out.length := hk 3 (by omega)
        have f1 := ia.old (by omega)
        have f2 := ib.old (by rw [f1]; omega)
        have f3 := ic.old (by rw [f2, f1]; omega)
        have f4 := id.old (by rw [f3, f2, f1]; omega)
        rw [q, f4, f3, f2, f1]
      · omega
    · rcases p7 with ⟨q, q'⟩ | ⟨_, q⟩
      · exfalso
        rw [q] at p6
        have hin : (⟨v, n0, n1, n2, n3⟩ : Nd) ∈ r1 ++ r2 ++ r3 ++ r4 := by
          rw [hout, List.getElem?_append_right (by omega)] at p6
          exact List.mem_of_getElem? p6
        have := lvs _ hin
        have h3 : (v : Int) ≤ ((v - 1 : Nat) : Int) := this
        omega
      · exact q
end Go.Gm
/- Trees: hollow ones, and what is in their middle. -/
namespace Go.Gm
set_option linter.unusedVariables false
set_option linter.unusedSimpArgs false
def QT.q : QT → Nat → QT
  | .node a b c d, k => match k with | 0 => a | 1 => b | 2 => c | _ => d
  | _, _ => .nil
def QT.s : QT → Nat → Int
  | .leaf a b c d, k => match k with | 0 => a | 1 => b | 2 => c | _ => d
  | _, _ => 0
def QT.isNode : QT → Bool
  | .node _ _ _ _ => true
  | _ => false
def holT (t : QT) : Bool := t.isNode && (List.range 4).all fun k => (List.range 4).all fun j => decide (j = 3 - k) || (decide ((t.q k).q j = .nil) && decide ((t.q k).s j = 0))
def innerT (v : Nat) (t : QT) : QT :=
  if v = 2 then .leaf ((t.q 0).s 3) ((t.q 1).s 2) ((t.q 2).s 1) ((t.q 3).s 0) else .node ((t.q 0).q 3) ((t.q 1).q 2) ((t.q 2).q 1) ((t.q 3).q 0)
def shrT : Nat → QT → Nat × QT
  | 0, t => (0, t)
  | v + 1, t => if holT t then shrT v (innerT (v + 1) t) else (v + 1, t)
theorem Good.q {v : Nat} {t : QT} (h : Good v t) (k : Nat) : Good (v - 1) (t.q k) := by
  cases t with
  | nil => trivial
  | leaf a b c d => trivial
  | node a b c d =>
    obtain ⟨h1, h2, ⟨ga, gb, gc, gd⟩, _⟩ := h
    unfold QT.q
    dsimp only
    split <;> assumption
theorem Good.st {v : Nat} {t : QT} (h : Good v t) (k : Nat) : St (t.s k) := by
  cases t with
  | nil => exact ⟨Int.le_refl _, by show (0 : Int) ≤ 255; decide⟩
  | node a b c d => exact ⟨Int.le_refl _, by show (0 : Int) ≤ 255; decide⟩
  | leaf a b c d =>
    obtain ⟨h1, ⟨ga, gb, gc, gd⟩, _⟩ := h
    unfold QT.s
    dsimp only
    split <;> assumption
/-- A tree's quarters at a level. -/
theorem Good.kind {v : Nat} {t : QT} (h : Good v t) : t = .nil ∨ (v = 1 ∧ t.isNode = false ∧ ∃ a b c d, t = .leaf a b c d) ∨ (2 ≤ v ∧ v ≤ 1329 ∧ t.isNode = true) := by
  cases t with
  | nil => exact .inl rfl
  | leaf a b c d => exact .inr (.inl ⟨h.1, rfl, a, b, c, d, rfl⟩)
  | node a b c d => exact .inr (.inr ⟨h.1, h.2.1, rfl⟩)
theorem QT.eta {t : QT} (h : t.isNode = true) : t = .node (t.q 0) (t.q 1) (t.q 2) (t.q 3) := by
  cases t with
  | nil => cases h
  | leaf a b c d => cases h
  | node a b c d => rfl
/-- Something that is not empty has a quarter that is not. -/
theorem Good.some {v : Nat} {t : QT} (h : Good v t) (hn : t ≠ .nil) : ∃ j, j < 4 ∧ ((v = 1 ∧ t.s j ≠ 0) ∨ (1 < v ∧ t.q j ≠ .nil)) := by
  cases t with
  | nil => exact absurd rfl hn
  | leaf a b c d =>
    obtain ⟨h1, _, h2⟩ := h
    by_cases h0 : a = 0
    · by_cases h3 : b = 0
      · by_cases h4 : c = 0
        · exact ⟨3, by omega, .inl ⟨h1, fun h5 => h2 ⟨h0, h3, h4, h5⟩⟩⟩
        · exact ⟨2, by omega, .inl ⟨h1, h4⟩⟩
      · exact ⟨1, by omega, .inl ⟨h1, h3⟩⟩
    · exact ⟨0, by omega, .inl ⟨h1, h0⟩⟩
  | node a b c d =>
    obtain ⟨h1, _, _, h2⟩ := h
    by_cases h0 : a = .nil
    · by_cases h3 : b = .nil
      · by_cases h4 : c = .nil
        · exact ⟨3, by omega, .inr ⟨by omega, fun h5 => h2 ⟨h0, h3, h4, h5⟩⟩⟩
        · exact ⟨2, by omega, .inr ⟨by omega, h4⟩⟩
      · exact ⟨1, by omega, .inr ⟨by omega, h3⟩⟩
    · exact ⟨0, by omega, .inr ⟨by omega, h0⟩⟩
theorem holT_at {t : QT} (h : holT t = true) {k j : Nat} (hk : k < 4) (hj : j < 4) (hne : j ≠ 3 - k) : (t.q k).q j = .nil ∧ (t.q k).s j = 0 := by
  simp only [holT, Bool.and_eq_true, List.all_eq_true] at h
  have := h.2 k (by simpa using hk) j (by simpa using hj)
  simpa [hne] using this
/-- The middle of what is hollow is not empty. -/
theorem innerT_good {v : Nat} {t : QT} (h : Good (v + 1) t) (hh : holT t = true) : Good v (innerT (v + 1) t) ∧ innerT (v + 1) t ≠ .nil := by
  have hnode : t.isNode = true := by simp only [holT, Bool.and_eq_true] at hh; exact hh.1
  have hnn : t ≠ .nil := fun e => by subst e; cases hnode
  obtain ⟨k, hk, hkk⟩ := h.some hnn
  rcases h.kind with rfl | ⟨h1, h2, _⟩ | ⟨h1, h2, _⟩
  · exact absurd rfl hnn
  · rw [h2] at hnode; cases hnode
  have hq : t.q k ≠ .nil := by rcases hkk with ⟨e, _⟩ | ⟨_, e⟩; omega; exact e
  obtain ⟨j, hj, hjj⟩ := (h.q k).some hq
  simp only [Nat.add_sub_cancel] at hjj
  have hj3 : j = 3 - k := by
    by_cases e : j = 3 - k
    · exact e
    · exfalso
      obtain ⟨e1, e2⟩ := holT_at hh hk hj e
      rcases hjj with ⟨_, e3⟩ | ⟨_, e3⟩
      · exact e3 e2
      · exact e3 e1
  unfold innerT
  by_cases hv : v + 1 = 2
  · rw [if_pos hv]
    refine ⟨⟨by omega, ⟨(h.q 0).st 3, (h.q 1).st 2, (h.q 2).st 1, (h.q 3).st 0⟩, fun ⟨e0, e1, e2, e3⟩ => ?_⟩, by simp⟩
    rcases hjj with ⟨_, e⟩ | ⟨e, _⟩
    · rw [hj3] at e
      match k, hk with
      | 0, _ => exact e e0
      | 1, _ => exact e e1
      | 2, _ => exact e e2
      | 3, _ => exact e e3
    · omega
  · rw [if_neg hv]
    refine ⟨⟨by omega, by omega, ⟨(h.q 0).q 3, (h.q 1).q 2, (h.q 2).q 1, (h.q 3).q 0⟩, fun ⟨e0, e1, e2, e3⟩ => ?_⟩, by simp⟩
    rcases hjj with ⟨e, _⟩ | ⟨_, e⟩
    · omega
    · rw [hj3] at e
      match k, hk with
      | 0, _ => exact e e0
      | 1, _ => exact e e1
      | 2, _ => exact e e2
      | 3, _ => exact e e3
theorem shrT_ok : ∀ (v : Nat) (t : QT), Good v t → t ≠ .nil → Good (shrT v t).1 (shrT v t).2 ∧ (shrT v t).2 ≠ .nil ∧ holT (shrT v t).2 = false
  | 0, t, hg, hn => by
    rcases hg.kind with h | ⟨h, _⟩ | ⟨h, _⟩
    · exact absurd h hn
    · omega
    · omega
  | v + 1, t, hg, hn => by
    unfold shrT
    cases hh : holT t with
    | true =>
      obtain ⟨r1, r2⟩ := innerT_good hg hh
      simp only [if_true]
      exact shrT_ok v _ r1 r2
    | false => simp only [Bool.false_eq_true, if_false]; exact ⟨hg, hn, hh⟩
section
variable {L : List Nd}
/-- What a number's node has, told by its tree. -/
theorem sem_q (hl : looseB L = true) {v n k : Nat} (h0 : 0 < n) (h : Lv L (v + 1) n) (h1 : 1 < (ndAt L n).lv) (hk : k < 4) : (sem L (v + 1) n).q k = sem L v ((ndAt L n).kid k).toNat := by
  unfold sem
  simp only [semF, if_pos h1]
  split
  · rename_i he
    have hem := emp_iff hl h0 h.1
    rw [he] at hem
    have := List.all_eq_true.1 hem.symm k (by simpa using hk)
    simp only [Bool.or_eq_true, decide_eq_true_eq, Bool.and_eq_true] at this
    show QT.nil = _
    rcases this with e | ⟨_, e⟩
    · rw [e]; exact (sem_zero L v).symm
    · exact ((sem_nil hl (Lv.kid hl h0 h h1 hk).1).2 e).symm
  · match k, hk with
    | 0, _ => rfl
    | 1, _ => rfl
    | 2, _ => rfl
    | 3, _ => rfl
theorem sem_s1 (hl : looseB L = true) {v n k : Nat} (h0 : 0 < n) (h : Lv L (v + 1) n) (h1 : ¬ 1 < (ndAt L n).lv) (hk : k < 4) : (sem L (v + 1) n).s k = (ndAt L n).kid k := by
  unfold sem
  simp only [semF, if_neg h1]
  split
  · rename_i he
    have hem := emp_iff hl h0 h.1
    rw [he] at hem
    have := List.all_eq_true.1 hem.symm k (by simpa using hk)
    simp only [Bool.or_eq_true, decide_eq_true_eq, Bool.and_eq_true] at this
    rcases this with e | ⟨e, _⟩
    · rw [e]; rfl
    · exact absurd e h1
  · match k, hk with
    | 0, _ => rfl
    | 1, _ => rfl
    | 2, _ => rfl
    | 3, _ => rfl
theorem hol_sem (hl : looseB L = true) {v n : Nat} (h0 : 0 < n) (h : Lv L v n) (he : (empL L).getD n true = false) : hollowB L n = holT (sem L v n) := by
  have hv0 : (ndAt L (n : Int)).lv.toNat = v := by rcases h.2 with h | h <;> omega
  have hv1 : 1 ≤ (ndAt L (n : Int)).lv := by
    obtain ⟨m, rfl⟩ : ∃ m, n = m + 1 := ⟨n - 1, by omega⟩
    rw [ndAt_nat h.1]; exact (loose_get hl h.1).1
  obtain ⟨w, rfl⟩ : ∃ w, v = w + 1 := ⟨v - 1, by omega⟩
  unfold hollowB holT
  by_cases h1 : 1 < (ndAt L (n : Int)).lv
  · have hnode : (sem L (w + 1) n).isNode = true := by
      unfold sem
      simp only [semF, he, Bool.false_eq_true, if_false, if_pos h1]; rfl
    have e2 : (2 : Int) ≤ (ndAt L (n : Int)).lv := by omega
    rw [hnode, decide_eq_true (show n ≠ 0 by omega), decide_eq_true e2, Bool.true_and, Bool.true_and, Bool.true_and]
    unfold hol
    have hk : ∀ k, k < 4 → (decide ((ndAt L n).kid k = 0) || (List.range 4).all (holK L (empL L) (ndAt L n) k)) = (List.range 4).all fun j => decide (j = 3 - k) || (decide (((sem L (w + 1) n).q k).q j = .nil) && decide (((sem L (w + 1) n).q k).s j = 0)) := by
      intro k hk
      rw [sem_q hl h0 h h1 hk]
      obtain ⟨g1, g2, g3⟩ := Lv.kid hl h0 h h1 hk
      by_cases hc : (ndAt L n).kid k = 0
      · rw [hc]
        have : (List.range 4).all (fun j => decide (j = 3 - k) || (decide ((sem L w ((0 : Int)).toNat).q j = .nil) && decide ((sem L w ((0 : Int)).toNat).s j = 0))) = true := by
          rw [show ((0 : Int)).toNat = 0 from rfl, sem_zero, List.all_eq_true]
          intro j _
          simp [QT.q, QT.s]
        rw [this]; rfl
      · rw [decide_eq_false hc, Bool.false_or]
        have hc0 : 0 < ((ndAt L n).kid k).toNat := by omega
        have ec : (((ndAt L n).kid k).toNat : Int) = (ndAt L n).kid k := by omega
        have hcv : (ndAt L (((ndAt L n).kid k).toNat : Int)).lv.toNat = w := by rcases g1.2 with g | g <;> omega
        have hc1 : 1 ≤ (ndAt L (((ndAt L n).kid k).toNat : Int)).lv := by
          obtain ⟨m, hm⟩ : ∃ m, ((ndAt L n).kid k).toNat = m + 1 := ⟨((ndAt L n).kid k).toNat - 1, by omega⟩
          rw [hm]
          have hml : m < L.length := by have := g1.1; omega
          rw [ndAt_nat hml]; exact (loose_get hl hml).1
        obtain ⟨u, rfl⟩ : ∃ u, w = u + 1 := ⟨w - 1, by omega⟩
        have pt : ∀ j, j < 4 → holK L (empL L) (ndAt L n) k j = (decide (j = 3 - k) || (decide ((sem L (u + 1) ((ndAt L n).kid k).toNat).q j = .nil) && decide ((sem L (u + 1) ((ndAt L n).kid k).toNat).s j = 0))) := by
          intro j hj
          unfold holK
          congr 1
          by_cases h2 : (ndAt L n).lv = 2
          · rw [if_pos h2]
            have hn1 : ¬ 1 < (ndAt L (((ndAt L n).kid k).toNat : Int)).lv := by omega
            rw [sem_s1 hl hc0 g1 hn1 hj, ec]
            have hq : (sem L (u + 1) ((ndAt L n).kid k).toNat).q j = .nil := by
              unfold sem
              simp only [semF, if_neg hn1]
              split <;> rfl
            rw [hq]; simp
          · rw [if_neg h2]
            have hn1 : 1 < (ndAt L (((ndAt L n).kid k).toNat : Int)).lv := by omega
            obtain ⟨f1, f2, f3⟩ := Lv.kid hl hc0 g1 hn1 hj
            rw [sem_q hl hc0 g1 hn1 hj, ec]
            rw [ec] at f1
            have hs : (sem L (u + 1) ((ndAt L n).kid k).toNat).s j = 0 := by
              unfold sem
              simp only [semF, if_pos hn1]
              split <;> rfl
            rw [hs]
            have := sem_nil hl f1
            rw [Bool.eq_iff_iff]
            simp only [decide_true, Bool.and_true, decide_eq_true_eq]
            exact this.symm
        rw [range4, range4, pt 0 (by omega), pt 1 (by omega), pt 2 (by omega), pt 3 (by omega)]
    rw [range4, range4 (fun k => (List.range 4).all fun j => decide (j = 3 - k) || (decide (((sem L (w + 1) n).q k).q j = .nil) && decide (((sem L (w + 1) n).q k).s j = 0))), hk 0 (by omega), hk 1 (by omega), hk 2 (by omega), hk 3 (by omega)]
  · have hnode : (sem L (w + 1) n).isNode = false := by
      unfold sem
      simp only [semF, he, Bool.false_eq_true, if_false, if_neg h1]; rfl
    have e2 : ¬ (2 : Int) ≤ (ndAt L (n : Int)).lv := by omega
    rw [hnode, decide_eq_false e2]; simp
end
end Go.Gm
/- Trees: quads that may be, and no others. -/
namespace Go.Gm
set_option linter.unusedVariables false
set_option linter.unusedSimpArgs false
theorem Lv.num {L : List Nd} {v n : Nat} (h : Lv L v n) (h0 : 0 < n) (hl : looseB L = true) : (ndAt L (n : Int)).lv = (v : Int) ∧ 1 ≤ v := by
  have hv : (ndAt L (n : Int)).lv.toNat = v := by rcases h.2 with h | h <;> omega
  obtain ⟨m, rfl⟩ : ∃ m, n = m + 1 := ⟨n - 1, by omega⟩
  rw [ndAt_nat h.1] at hv ⊢
  have := (loose_get hl h.1).1
  omega
theorem inn_sem {L : List Nd} (hl : looseB L = true) {w n : Nat} (h0 : 0 < n) (h : Lv L (w + 1) n) (he : (empL L).getD n true = false) (hh : hollowB L n = true) :
    looseB (L ++ [innNd L n]) = true ∧ Lv (L ++ [innNd L n]) w (L.length + 1) ∧ sem (L ++ [innNd L n]) w (L.length + 1) = innerT (w + 1) (sem L (w + 1) n) ∧ (empL (L ++ [innNd L n])).getD (L.length + 1) true = false := by
  obtain ⟨hn1, hn2⟩ := hollow_lv hh
  obtain ⟨hlv, _⟩ := h.num h0 hl
  obtain ⟨u, rfl⟩ : ∃ u, w = u + 1 := ⟨w - 1, by omega⟩
  have h1 : 1 < (ndAt L (n : Int)).lv := by omega
  have hl' : looseB (L ++ [innNd L n]) = true := by
    obtain ⟨m, rfl⟩ : ∃ m, n = m + 1 := ⟨n - 1, by omega⟩
    exact inn_loose hl h.1 (by rw [ndAt_nat h.1] at hn2; exact hn2)
  have hx : ndAt (L ++ [innNd L n]) ((L.length + 1 : Nat) : Int) = innNd L n := by rw [ndAt_nat (by simp)]; simp
  have hxl : (innNd L n).lv = (u + 1 : Nat) := by show (ndAt L (n : Int)).lv - 1 = _; omega
  have hLv : Lv (L ++ [innNd L n]) (u + 1) (L.length + 1) := ⟨by simp, .inr (by rw [hx, hxl]; omega)⟩
  rw [hol_sem hl h0 h he] at hh
  obtain ⟨ig, inn⟩ := innerT_good (sem_good hl _ _ h) hh
  have hkid : ∀ k, k < 4 → (innNd L n).kid k = innK L (ndAt L n) k := fun k hk => innNd_kid L n hk
  have hne : sem (L ++ [innNd L n]) (u + 1) (L.length + 1) = innerT (u + 1 + 1) (sem L (u + 1 + 1) n) := by
    by_cases hu : u = 0
    · subst hu
      have hx1 : ¬ 1 < (ndAt (L ++ [innNd L n]) ((L.length + 1 : Nat) : Int)).lv := by rw [hx, hxl]; decide
      have hs : ∀ k, k < 4 → (sem (L ++ [innNd L n]) 1 (L.length + 1)).s k = ((sem L 2 n).q k).s (3 - k) := by
        intro k hk
        rw [sem_s1 hl' (by omega) hLv hx1 hk, hx, hkid k hk, sem_q hl h0 h h1 hk]
        unfold innK
        obtain ⟨g1, g2, g3⟩ := Lv.kid hl h0 h h1 hk
        by_cases hc : (ndAt L n).kid k = 0
        · rw [if_pos hc, hc, show ((0 : Int)).toNat = 0 from rfl, sem_zero]; rfl
        · rw [if_neg hc]
          have hc0 : 0 < ((ndAt L n).kid k).toNat := by omega
          obtain ⟨cl, _⟩ := g1.num hc0 hl
          rw [sem_s1 hl hc0 g1 (by omega) (by omega)]
          rw [show (((ndAt L n).kid k).toNat : Int) = (ndAt L n).kid k from by omega]
      have e : innerT 2 (sem L 2 n) = .leaf ((sem (L ++ [innNd L n]) 1 (L.length + 1)).s 0) ((sem (L ++ [innNd L n]) 1 (L.length + 1)).s 1) ((sem (L ++ [innNd L n]) 1 (L.length + 1)).s 2) ((sem (L ++ [innNd L n]) 1 (L.length + 1)).s 3) := by
        rw [hs 0 (by omega), hs 1 (by omega), hs 2 (by omega), hs 3 (by omega)]; rfl
      have hg := sem_good hl' 1 _ hLv
      rcases hg.kind with hk | ⟨_, _, a, b, c, d, hk⟩ | ⟨hk, _⟩
      · exfalso
        rw [hk] at e
        rw [e] at ig
        exact ig.2.2 ⟨rfl, rfl, rfl, rfl⟩
      · show sem (L ++ [innNd L n]) 1 (L.length + 1) = innerT 2 (sem L 2 n)
        rw [e, hk]; rfl
      · omega
    · have hx1 : 1 < (ndAt (L ++ [innNd L n]) ((L.length + 1 : Nat) : Int)).lv := by rw [hx, hxl]; omega
      have hs : ∀ k, k < 4 → (sem (L ++ [innNd L n]) (u + 1) (L.length + 1)).q k = ((sem L (u + 1 + 1) n).q k).q (3 - k) := by
        intro k hk
        rw [sem_q hl' (by omega) hLv hx1 hk, hx, hkid k hk, sem_q hl h0 h h1 hk]
        unfold innK
        obtain ⟨g1, g2, g3⟩ := Lv.kid hl h0 h h1 hk
        by_cases hc : (ndAt L n).kid k = 0
        · rw [if_pos hc, hc, show ((0 : Int)).toNat = 0 from rfl, sem_zero, sem_zero]; rfl
        · rw [if_neg hc]
          have hc0 : 0 < ((ndAt L n).kid k).toNat := by omega
          obtain ⟨cl, _⟩ := g1.num hc0 hl
          have c1 : 1 < (ndAt L (((ndAt L n).kid k).toNat : Int)).lv := by omega
          have hk3 := (Lv.kid hl hc0 g1 c1 (show 3 - k < 4 by omega)).1
          rw [sem_q hl hc0 g1 c1 (by omega)]
          rw [show (((ndAt L n).kid k).toNat : Int) = (ndAt L n).kid k from by omega] at hk3 ⊢
          exact sem_old hl _ _ hk3
      have e : innerT (u + 1 + 1) (sem L (u + 1 + 1) n) = .node ((sem (L ++ [innNd L n]) (u + 1) (L.length + 1)).q 0) ((sem (L ++ [innNd L n]) (u + 1) (L.length + 1)).q 1) ((sem (L ++ [innNd L n]) (u + 1) (L.length + 1)).q 2) ((sem (L ++ [innNd L n]) (u + 1) (L.length + 1)).q 3) := by
        rw [hs 0 (by omega), hs 1 (by omega), hs 2 (by omega), hs 3 (by omega)]
        unfold innerT
        rw [if_neg (by omega)]
      have hg := sem_good hl' (u + 1) _ hLv
      rcases hg.kind with hk | ⟨hk, _⟩ | ⟨_, _, hk⟩
      · exfalso
        rw [hk] at e
        rw [e] at ig
        exact ig.2.2.2 ⟨rfl, rfl, rfl, rfl⟩
      · omega
      · rw [e]; exact QT.eta hk
  refine ⟨hl', hLv, hne, ?_⟩
  cases hq : (empL (L ++ [innNd L n])).getD (L.length + 1) true with
  | false => rfl
  | true =>
    have := (sem_nil hl' hLv).2 hq
    rw [hne] at this
    exact absurd this inn
theorem shrinkF_sem : ∀ (v : Nat) (L : List Nd) (n : Nat), looseB L = true → 0 < n → Lv L v n → (empL L).getD n true = false →
    looseB (shrinkF v L n).1 = true ∧ Lv (shrinkF v L n).1 (shrT v (sem L v n)).1 (shrinkF v L n).2 ∧ 0 < (shrinkF v L n).2 ∧ sem (shrinkF v L n).1 (shrT v (sem L v n)).1 (shrinkF v L n).2 = (shrT v (sem L v n)).2
  | 0, L, n, hl, h0, hLv, he => by have := (hLv.num h0 hl).2; omega
  | v + 1, L, n, hl, h0, hLv, he => by
    have hs := hol_sem hl h0 hLv he
    unfold shrinkF shrT
    cases hh : hollowB L n with
    | false =>
      rw [hh] at hs
      rw [← hs]
      exact ⟨hl, hLv, h0, rfl⟩
    | true =>
      rw [hh] at hs
      rw [← hs]
      obtain ⟨r1, r2, r3, r4⟩ := inn_sem hl h0 hLv he hh
      simp only [if_true]
      rw [← r3]
      exact shrinkF_sem v _ _ r1 (by omega) r2 r4
/-- The quad of a tree. -/
def canonT (v : Nat) (t : QT) : List Nd := if t = .nil then [] else (insT (shrT v t).1 (shrT v t).2 []).1
theorem canon_sem {L : List Nd} (hl : looseB L = true) {v n : Nat} (h : Lv L v n) : canonL L n = canonT v (sem L v n) := by
  unfold canonL canonT shrink
  cases he : (empL L).getD n true with
  | true =>
    rw [(sem_nil hl h).2 he]
    simp only [if_true]
    cases (ndAt L ((0 : Nat) : Int)).lv.toNat with
    | zero => rfl
    | succ w => simp only [insF, emp_zero, if_true]
  | false =>
    have h0 := emp_pos he
    have hn : sem L v n ≠ .nil := fun e => by rw [(sem_nil hl h).1 e] at he; cases he
    obtain ⟨hlv, hv1⟩ := h.num h0 hl
    obtain ⟨r1, r2, r3, r4⟩ := shrinkF_sem v L n hl h0 h he
    rw [if_neg hn]
    have hv : (ndAt L (n : Int)).lv.toNat = v := by omega
    simp only [Bool.false_eq_true, if_false, hv]
    have hlv2 := (r2.num r3 r1).1
    rw [show (ndAt (shrinkF v L n).1 ((shrinkF v L n).2 : Int)).lv.toNat = (shrT v (sem L v n)).1 from by omega, insF_sem r1 _ _ _ r2, r4]
theorem nodup_dup {L : List Nd} (h : Clean L) : dupB L = true := by
  unfold dupB
  rw [List.all_eq_true]
  intro i hi
  have hi' : i < L.length := by simpa using hi
  rw [h.ne (i + 1) (by omega) (by omega)]
  simp only [Bool.not_false, Bool.true_and, List.all_eq_true, decide_eq_true_eq]
  intro k hk
  have hk' : k < i := by simpa using hk
  simp only [List.getD_eq_getElem?_getD, List.getElem?_eq_getElem hi', List.getElem?_eq_getElem (show k < L.length by omega), Option.getD_some]
  intro e
  exact (List.pairwise_iff_getElem.1 h.nd) k i (by omega) hi' hk' e.symm
def upTo (n : Nat) : List Nat := (List.range n).map (· + 1)
theorem upTo_succ (n : Nat) : upTo (n + 1) = upTo n ++ [n + 1] := by simp [upTo, List.range_succ]
theorem mem_upTo {n i : Nat} : i ∈ upTo n ↔ 1 ≤ i ∧ i ≤ n := by
  simp only [upTo, List.mem_map, List.mem_range]
  constructor
  · rintro ⟨j, h1, h2⟩; omega
  · intro h; exact ⟨i - 1, by omega, by omega⟩
theorem endK_4 (rec : Nat → List Nat → List Nat) (x : Nd) (out : List Nat) : endK rec x 4 out =
    (if 1 < x.lv ∧ 0 < x.k3 then rec x.k3.toNat (if 1 < x.lv ∧ 0 < x.k2 then rec x.k2.toNat (if 1 < x.lv ∧ 0 < x.k1 then rec x.k1.toNat (if 1 < x.lv ∧ 0 < x.k0 then rec x.k0.toNat out else out) else (if 1 < x.lv ∧ 0 < x.k0 then rec x.k0.toNat out else out)) else (if 1 < x.lv ∧ 0 < x.k1 then rec x.k1.toNat (if 1 < x.lv ∧ 0 < x.k0 then rec x.k0.toNat out else out) else (if 1 < x.lv ∧ 0 < x.k0 then rec x.k0.toNat out else out))) else (if 1 < x.lv ∧ 0 < x.k2 then rec x.k2.toNat (if 1 < x.lv ∧ 0 < x.k1 then rec x.k1.toNat (if 1 < x.lv ∧ 0 < x.k0 then rec x.k0.toNat out else out) else (if 1 < x.lv ∧ 0 < x.k0 then rec x.k0.toNat out else out)) else (if 1 < x.lv ∧ 0 < x.k1 then rec x.k1.toNat (if 1 < x.lv ∧ 0 < x.k0 then rec x.k0.toNat out else out) else (if 1 < x.lv ∧ 0 < x.k0 then rec x.k0.toNat out else out)))) := by
  simp only [endK_succ, Nd.kid, show endK rec x 0 out = out from rfl]
theorem insT_pos {v : Nat} {t : QT} {out : List Nd} (h : t ≠ .nil) : 0 < (insT v t out).2 := by
  cases t with
  | nil => exact absurd rfl h
  | leaf a b c d => exact putN_pos _ _
  | node a b c d => exact putN_pos _ _
theorem end_ins : ∀ (t : QT) (v : Nat) (out s L : List Nd), Good v t → t ≠ .nil → Clean out → L = (insT v t out).1 ++ s → endF L v (insT v t out).2 (upTo out.length) = upTo (insT v t out).1.length
  | .nil, v, out, s, L, hg, hn, hc, hL => absurd rfl hn
  | .leaf a b c d, v, out, s, L, hg, hn, hc, hL => by
    have hi := insT_ins (.leaf a b c d) v out hg hc
    have hp := insT_pos (v := v) (out := out) hn
    obtain ⟨rfl, _, _⟩ := hg
    by_cases hle : (insT 1 (.leaf a b c d) out).2 ≤ out.length
    · have := hi.old hle
      simp only [endF]
      rw [if_pos (mem_upTo.2 ⟨hp, hle⟩), this]
    · have hnew := hi.new (by omega)
      have hform : (insT 1 (.leaf a b c d) out).1.length = out.length + 1 := by
        have h1 : insT 1 (.leaf a b c d) out = putN' out ⟨1, a, b, c, d⟩ := rfl
        rw [h1] at hle ⊢
        unfold putN' at hle ⊢
        split
        · simp
        · rename_i hf; rw [if_neg hf] at hle; exact absurd (findN_le _ _) hle
      have hx : ¬ 1 < (ndAt L ((insT 1 (.leaf a b c d) out).2 : Int)).lv := by
        rw [hL, ndAt_old hp (by omega)]
        intro h
        have := hi.lv.num hp hi.cl.lo
        omega
      simp only [endF]
      rw [if_neg (fun h => by have := mem_upTo.1 h; omega), endK_4]
      simp only [hx, false_and, if_false]
      rw [hform, upTo_succ, hnew, hform]
  | .node a b c d, v, out, s, L, hg, hn, hc, hL => by
    have hi := insT_ins (.node a b c d) v out hg hc
    have hp := insT_pos (v := v) (out := out) hn
    obtain ⟨h2, hv, ⟨ga, gb, gc, gd⟩, hne⟩ := hg
    obtain ⟨w, rfl⟩ : ∃ w, v = w + 1 := ⟨v - 1, by omega⟩
    by_cases hle : (insT (w + 1) (.node a b c d) out).2 ≤ out.length
    · have := hi.old hle
      simp only [endF]
      rw [if_pos (mem_upTo.2 ⟨hp, hle⟩), this]
    · have hnew := hi.new (by omega)
      have ga : Good w a := ga
      have gb : Good w b := gb
      have gc : Good w c := gc
      have gd : Good w d := gd
      have ia := insT_ins a w out ga hc
      have ib := insT_ins b w _ gb ia.cl
      have ic := insT_ins c w _ gc ib.cl
      have id := insT_ins d w _ gd ic.cl
      have hform : insT (w + 1) (.node a b c d) out = putN' (insT w d (insT w c (insT w b (insT w a out).1).1).1).1 ⟨(w + 1 : Nat), (insT w a out).2, (insT w b (insT w a out).1).2, (insT w c (insT w b (insT w a out).1).1).2, (insT w d (insT w c (insT w b (insT w a out).1).1).1).2⟩ := rfl
      obtain ⟨ra, ea, _⟩ := ia.pre
      obtain ⟨rb, eb, _⟩ := ib.pre
      obtain ⟨rc, ec, _⟩ := ic.pre
      obtain ⟨rd, ed, _⟩ := id.pre
      have hput : (insT (w + 1) (.node a b c d) out).1 = (insT w d (insT w c (insT w b (insT w a out).1).1).1).1 ++ [⟨(w + 1 : Nat), (insT w a out).2, (insT w b (insT w a out).1).2, (insT w c (insT w b (insT w a out).1).1).2, (insT w d (insT w c (insT w b (insT w a out).1).1).1).2⟩] := by
        rw [hform] at hle hnew ⊢
        unfold putN' at hle hnew ⊢
        split
        · rfl
        · rename_i hf
          exfalso
          rw [if_neg hf] at hle hnew
          -- it was found, and is the last one: but that one's level is less
          dsimp only at hle hnew
          cases hfn : findN (insT w d (insT w c (insT w b (insT w a out).1).1).1).1 ⟨(w + 1 : Nat), (insT w a out).2, (insT w b (insT w a out).1).2, (insT w c (insT w b (insT w a out).1).1).2, (insT w d (insT w c (insT w b (insT w a out).1).1).1).2⟩ with
          | zero => exact hf hfn
          | succ i =>
            rw [hfn] at hle
            have h3 := (findN_some.1 hfn).1
            obtain ⟨r1, e1, w1⟩ := ia.pre
            obtain ⟨r2, e2, w2⟩ := ib.pre
            obtain ⟨r3, e3, w3⟩ := ic.pre
            obtain ⟨r4, e4, w4⟩ := id.pre
            have hout : (insT w d (insT w c (insT w b (insT w a out).1).1).1).1 = out ++ (r1 ++ r2 ++ r3 ++ r4) := by
              conv => lhs; rw [e4]
              conv => lhs; arg 1; rw [e3]
              conv => lhs; arg 1; arg 1; rw [e2]
              conv => lhs; arg 1; arg 1; arg 1; rw [e1]
              simp
            rw [hout, List.getElem?_append_right (by omega)] at h3
            have hm := List.mem_of_getElem? h3
            have : ((w + 1 : Nat) : Int) ≤ (w : Int) := by
              simp only [List.mem_append] at hm
              rcases hm with ((hm | hm) | hm) | hm
              · exact w1 _ hm
              · exact w2 _ hm
              · exact w3 _ hm
              · exact w4 _ hm
            omega
      have hlast : ndAt L ((insT (w + 1) (.node a b c d) out).2 : Int) = ⟨(w + 1 : Nat), (insT w a out).2, (insT w b (insT w a out).1).2, (insT w c (insT w b (insT w a out).1).1).2, (insT w d (insT w c (insT w b (insT w a out).1).1).1).2⟩ := by
        rw [hL, ndAt_old hp (by omega), hnew, hput]
        simp only [List.length_append, List.length_singleton]
        rw [ndAt_nat (by simp)]; simp
      have step : ∀ (t : QT) (o : List Nd) (s' : List Nd), Good w t → Clean o → L = (insT w t o).1 ++ s' → (∀ (out s L : List Nd), Good w t → t ≠ .nil → Clean out → L = (insT w t out).1 ++ s → endF L w (insT w t out).2 (upTo out.length) = upTo (insT w t out).1.length) →
          (if 1 < ((w + 1 : Nat) : Int) ∧ 0 < ((insT w t o).2 : Int) then endF L w ((insT w t o).2 : Int).toNat (upTo o.length) else upTo o.length) = upTo (insT w t o).1.length := by
        intro t o s' gt hco hLo ih
        by_cases ht : t = .nil
        · subst ht; simp [insT]
        · have hp' := insT_pos (v := w) (out := o) ht
          rw [if_pos ⟨by omega, by omega⟩, Int.toNat_natCast]
          exact ih o s' L gt ht hco hLo
      have hLd : L = (insT w d (insT w c (insT w b (insT w a out).1).1).1).1 ++ ([⟨(w + 1 : Nat), (insT w a out).2, (insT w b (insT w a out).1).2, (insT w c (insT w b (insT w a out).1).1).2, (insT w d (insT w c (insT w b (insT w a out).1).1).1).2⟩] ++ s) := by rw [hL, hput]; simp
      have hLc := hLd
      conv at hLc => rhs; arg 1; rw [ed]
      rw [List.append_assoc] at hLc
      have hLb := hLc
      conv at hLb => rhs; arg 1; rw [ec]
      rw [List.append_assoc] at hLb
      have hLa := hLb
      conv at hLa => rhs; arg 1; rw [eb]
      rw [List.append_assoc] at hLa
      have sa := step a out _ ga hc hLa (fun o s L => end_ins a w o s L)
      have sb := step b _ _ gb ia.cl hLb (fun o s L => end_ins b w o s L)
      have sc := step c _ _ gc ib.cl hLc (fun o s L => end_ins c w o s L)
      have sd := step d _ _ gd ic.cl hLd (fun o s L => end_ins d w o s L)
      simp only [endF]
      rw [if_neg (fun h => by have := mem_upTo.1 h; omega), hlast, endK_4]
      dsimp only
      rw [sa, sb, sc, sd, hnew, hput]
      simp only [List.length_append, List.length_singleton, upTo_succ]
theorem canonT_right {v : Nat} {t : QT} (hg : Good v t) : qrightB (canonT v t) = true ∧ (t ≠ .nil → Clean (canonT v t) ∧ 0 < (canonT v t).length ∧ Lv (canonT v t) (shrT v t).1 (canonT v t).length ∧ sem (canonT v t) (shrT v t).1 (canonT v t).length = (shrT v t).2) := by
  by_cases hn : t = .nil
  · subst hn; exact ⟨by simp [canonT, qrightB], fun h => absurd rfl h⟩
  · obtain ⟨s1, s2, s3⟩ := shrT_ok v t hg hn
    have e : canonT v t = (insT (shrT v t).1 (shrT v t).2 []).1 := by unfold canonT; rw [if_neg hn]
    rw [e]
    generalize shrT v t = vt at s1 s2 s3
    obtain ⟨w, u⟩ := vt
    dsimp only at s1 s2 s3 ⊢
    have hi := insT_ins u w [] s1 Clean.nil
    have hp := insT_pos (v := w) (out := []) s2
    have hnew := hi.new (by simpa using hp)
    have hend := end_ins u w [] [] _ s1 s2 Clean.nil (List.append_nil _).symm
    have hlv := hi.lv
    have hsm := hi.sm
    rw [hnew] at hlv hsm hp hend
    generalize (insT w u []).1 = Q at *
    have hcl := hi.cl
    obtain ⟨q1, q2⟩ := hlv.num hp hcl.lo
    refine ⟨?_, fun _ => ⟨hcl, hp, hlv, hsm⟩⟩
    have hne : Q ≠ [] := fun h => by rw [h] at hp; simp at hp
    have htop : (topLv Q).toNat = w := by unfold topLv; omega
    have hord : orderL Q = upTo Q.length := by unfold orderL; rw [htop]; exact hend
    unfold qrightB
    rw [hcl.lo, hol_sem hcl.lo hp hlv (hcl.ne _ hp (Nat.le_refl _)), hsm, s3, nodup_dup hcl]
    have : orderB Q = true := by
      unfold orderB
      rw [hord]
      have hlen : (upTo Q.length).length = Q.length := by simp [upTo]
      simp only [hlen, decide_true, Bool.and_true, List.all_eq_true, decide_eq_true_eq]
      intro i hi
      have hi' : i < Q.length := by simpa using hi
      simp [upTo, List.getD_eq_getElem?_getD, hi']
    rw [this]; simp [hne]
end Go.Gm
/- Trees of cells. -/
namespace Go.Gm
set_option linter.unusedVariables false
set_option linter.unusedSimpArgs false
def treeC : Nat → Int → Int → List Cl → QT
  | 0, _, _, _ => .nil
  | v + 1, x, y, l =>
    if l = [] then .nil
    else if v = 0 then .leaf (headS (quartL 1 x y 0 l)) (headS (quartL 1 x y 1 l)) (headS (quartL 1 x y 2 l)) (headS (quartL 1 x y 3 l))
    else .node (treeC v (qa (v + 1) x 0) (qb (v + 1) y 0) (quartL (v + 1) x y 0 l)) (treeC v (qa (v + 1) x 1) (qb (v + 1) y 1) (quartL (v + 1) x y 1 l)) (treeC v (qa (v + 1) x 2) (qb (v + 1) y 2) (quartL (v + 1) x y 2 l)) (treeC v (qa (v + 1) x 3) (qb (v + 1) y 3) (quartL (v + 1) x y 3 l))
/-- A cell in a square. -/
def InSq (v : Nat) (x y : Int) (c : Cl) : Prop := x ≤ c.x ∧ c.x < x + 2 ^ v ∧ y ≤ c.y ∧ c.y < y + 2 ^ v
theorem inQ_sq {v : Nat} {a b : Int} {c : Cl} : inQ (v + 1) a b c = true ↔ InSq v a b c := by
  unfold inQ InSq
  simp only [Bool.and_eq_true, decide_eq_true_eq, Nat.add_sub_cancel]
  constructor
  · rintro ⟨⟨⟨h1, h2⟩, h3⟩, h4⟩; exact ⟨h1, h2, h3, h4⟩
  · rintro ⟨h1, h2, h3, h4⟩; exact ⟨⟨⟨h1, h2⟩, h3⟩, h4⟩
theorem inSq_quarter {v : Nat} {x y : Int} {c : Cl} (h : InSq (v + 1) x y c) : ∃ k, k < 4 ∧ InSq v (qa (v + 1) x k) (qb (v + 1) y k) c := by
  obtain ⟨h1, h2, h3, h4⟩ := h
  have e : (2 : Int) ^ (v + 1) = 2 ^ v * 2 := Int.pow_succ _ _
  unfold InSq qa qb
  simp only [Nat.add_sub_cancel]
  have hp : (0 : Int) < 2 ^ v := Int.pow_pos (by omega)
  rw [e] at h2 h4
  generalize (2 : Int) ^ v = p at *
  by_cases hx : c.x < x + p
  · by_cases hy : c.y < y + p
    · exact ⟨0, by omega, by simp; omega⟩
    · exact ⟨2, by omega, by simp; omega⟩
  · by_cases hy : c.y < y + p
    · exact ⟨1, by omega, by simp; omega⟩
    · exact ⟨3, by omega, by simp; omega⟩
theorem quart_in {v : Nat} {x y : Int} {k : Nat} {l : List Cl} {c : Cl} (h : c ∈ quartL (v + 1) x y k l) : InSq v (qa (v + 1) x k) (qb (v + 1) y k) c := inQ_sq.1 (List.mem_filter.1 h).2
/-- The last node of a list: what it stands for. -/
theorem last_sem {o : List Nd} {x : Nd} {v : Nat} (hl : looseB o = true) (hl' : looseB (o ++ [x]) = true) (hv : x.lv = (v : Int)) (hne : (1 < v ∧ ∃ k, k < 4 ∧ sem o (v - 1) (x.kid k).toNat ≠ .nil) ∨ (v = 1 ∧ ∃ k, k < 4 ∧ x.kid k ≠ 0)) :
    Lv (o ++ [x]) v (o.length + 1) ∧ sem (o ++ [x]) v (o.length + 1) = (if 1 < v then .node (sem o (v - 1) x.k0.toNat) (sem o (v - 1) x.k1.toNat) (sem o (v - 1) x.k2.toNat) (sem o (v - 1) x.k3.toNat) else .leaf x.k0 x.k1 x.k2 x.k3) := by
  have hx : ndAt (o ++ [x]) ((o.length + 1 : Nat) : Int) = x := by rw [ndAt_nat (by simp)]; simp
  have hLv : Lv (o ++ [x]) v (o.length + 1) := ⟨by simp, .inr (by rw [hx, hv]; omega)⟩
  have hv1 : 1 ≤ v := by rcases hne with ⟨h, _⟩ | ⟨h, _⟩ <;> omega
  obtain ⟨w, rfl⟩ : ∃ w, v = w + 1 := ⟨v - 1, by omega⟩
  have hk : 1 < (ndAt (o ++ [x]) ((o.length + 1 : Nat) : Int)).lv → ∀ k, k < 4 → Lv o w (x.kid k).toNat := by
    intro h1 k hk
    obtain ⟨q1, q2, q3⟩ := Lv.kid hl' (by omega) hLv h1 hk
    rw [hx] at q1 q2 q3
    refine ⟨by omega, ?_⟩
    rcases q1.2 with h | h
    · exact .inl h
    · by_cases h0 : 0 < (x.kid k).toNat
      · right
        rw [← h, ndAt_old h0 (by omega)]
      · exact .inl (by omega)
  have hE : (empL (o ++ [x])).getD (o.length + 1) true = false := by
    rw [emp_iff hl' (by omega) (by simp), hx, List.all_eq_false]
    rcases hne with ⟨h1, k, hk4, hs⟩ | ⟨h1, k, hk4, hs⟩
    · have h1' : 1 < (ndAt (o ++ [x]) ((o.length + 1 : Nat) : Int)).lv := by rw [hx, hv]; omega
      have hkk := hk h1' k hk4
      refine ⟨k, by simpa using hk4, ?_⟩
      have hn : (empL o).getD (x.kid k).toNat true = false := by
        cases hq : (empL o).getD (x.kid k).toNat true with
        | false => rfl
        | true => exact absurd ((sem_nil hl hkk).2 hq) hs
      rw [empL_old hkk.1, hn]
      have : x.kid k ≠ 0 := fun e => by rw [e] at hn; rw [show ((0 : Int)).toNat = 0 from rfl, emp_zero] at hn; cases hn
      simp [this]
    · refine ⟨k, by simpa using hk4, ?_⟩
      have : ¬ 1 < x.lv := by rw [hv]; omega
      simp [hs, this]
  refine ⟨hLv, ?_⟩
  unfold sem
  simp only [semF, hE, Bool.false_eq_true, if_false, hx]
  by_cases h1 : 1 < w + 1
  · have h1' : 1 < (ndAt (o ++ [x]) ((o.length + 1 : Nat) : Int)).lv := by rw [hx, hv]; omega
    rw [if_pos (by rw [hv]; omega), if_pos h1]
    have e := fun k hk4 => sem_old (r := [x]) hl _ _ (hk h1' k hk4)
    have e0 := e 0 (by omega)
    have e1 := e 1 (by omega)
    have e2 := e 2 (by omega)
    have e3 := e 3 (by omega)
    simp only [Nd.kid, sem] at e0 e1 e2 e3
    simp only [Nat.add_sub_cancel, e0, e1, e2, e3]
  · rw [if_neg (by rw [hv]; omega), if_neg h1]
structure Plc (v : Nat) (t : QT) (out o' : List Nd) (i : Nat) : Prop where
  pre : ∃ r, o' = out ++ r
  lo : looseB o' = true
  lv : Lv o' v i
  sm : sem o' v i = t
theorem plK_0 (v : Nat) (x y : Int) (l : List Cl) (out : List Nd) : plK (placeF 0) 1 x y l 4 out = (out, ⟨((1 : Nat) : Int), headS (quartL 1 x y 0 l), headS (quartL 1 x y 1 l), headS (quartL 1 x y 2 l), headS (quartL 1 x y 3 l)⟩) := rfl
theorem headS_st (l : List Cl) : St (headS l) := by
  cases l with
  | nil => exact ⟨Int.le_refl _, by show (0 : Int) ≤ 255; decide⟩
  | cons c l =>
    have := c.s.toNat_lt
    exact ⟨Int.natCast_nonneg _, by show (c.s.toNat : Int) ≤ 255; omega⟩
theorem headS_ne {l : List Cl} (h : l ≠ []) (hs : ∀ c ∈ l, c.s ≠ 0) : headS l ≠ 0 := by
  cases l with
  | nil => exact absurd rfl h
  | cons c l =>
    intro e
    have h1 : (c.s.toNat : Int) = 0 := e
    exact hs c (by simp) (UInt8.toNat_inj.1 (by simpa using h1))
theorem treeC_nil {v : Nat} {x y : Int} : treeC v x y [] = .nil := by cases v <;> simp [treeC]
theorem treeC_ne {v : Nat} {x y : Int} {l : List Cl} (h : l ≠ []) : treeC (v + 1) x y l ≠ .nil := by
  unfold treeC
  rw [if_neg h]
  split <;> simp
theorem place_sem : ∀ (v : Nat) (out : List Nd) (x y : Int) (l : List Cl), v ≤ 1329 → looseB out = true → (∀ c ∈ l, InSq v x y c) → (∀ c ∈ l, c.s ≠ 0) → (l ≠ [] → 1 ≤ v) → Plc v (treeC v x y l) out (placeF v out x y l).1 (placeF v out x y l).2
  | 0, out, x, y, l, hv, ho, hl, hs, h1 => ⟨⟨[], by simp [placeF]⟩, ho, ⟨Nat.zero_le _, .inl rfl⟩, sem_zero _ _⟩
  | v + 1, out, x, y, l, hv, ho, hl, hs, h1 => by
    unfold placeF treeC
    by_cases h0 : l = []
    · rw [if_pos h0, if_pos h0]
      exact ⟨⟨[], by simp⟩, ho, ⟨Nat.zero_le _, .inl rfl⟩, sem_zero _ _⟩
    · rw [if_neg h0, if_neg h0]
      obtain ⟨c, hc⟩ := List.exists_mem_of_ne_nil l h0
      obtain ⟨k0, hk0, hck⟩ := inSq_quarter (hl c hc)
      have hq0 : quartL (v + 1) x y k0 l ≠ [] := fun e => by
        have : c ∈ quartL (v + 1) x y k0 l := List.mem_filter.2 ⟨hc, inQ_sq.2 hck⟩
        rw [e] at this; cases this
      have hqs : ∀ k, ∀ c ∈ quartL (v + 1) x y k l, c.s ≠ 0 := fun k c hc => hs c (List.mem_filter.1 hc).1
      by_cases hv0 : v = 0
      · subst hv0
        rw [if_pos rfl, plK_0 0]
        dsimp only
        generalize hX : (⟨((1 : Nat) : Int), headS (quartL 1 x y 0 l), headS (quartL 1 x y 1 l), headS (quartL 1 x y 2 l), headS (quartL 1 x y 3 l)⟩ : Nd) = X
        have hkid : ∀ k, k < 4 → X.kid k = headS (quartL 1 x y k l) := by
          intro k hk
          subst hX
          match k, hk with
          | 0, _ => rfl
          | 1, _ => rfl
          | 2, _ => rfl
          | 3, _ => rfl
        have hXl : X.lv = ((1 : Nat) : Int) := by subst hX; rfl
        have hlo : looseB (out ++ [X]) = true := loose_snoc ho (loose_ndOk (by rw [hXl]; decide) (by rw [hXl]; decide) fun k hk => by
          rw [hkid k hk]; have := headS_st (quartL 1 x y k l); exact ⟨this.1, fun _ => this.2, fun e => by rw [hXl] at e; exact absurd e (by decide)⟩)
        obtain ⟨q1, q2⟩ := last_sem ho hlo hXl (.inr ⟨rfl, k0, hk0, by rw [hkid k0 hk0]; exact headS_ne hq0 (hqs k0)⟩)
        refine ⟨⟨[X], rfl⟩, hlo, q1, ?_⟩
        rw [q2, if_neg (by omega)]
        subst hX; rfl
      · rw [if_neg hv0]
        have step : ∀ k, k ≤ 4 → looseB (plK (placeF v) (v + 1) x y l k out).1 = true ∧ (∃ r, (plK (placeF v) (v + 1) x y l k out).1 = out ++ r) ∧ (plK (placeF v) (v + 1) x y l k out).2.lv = ((v + 1 : Nat) : Int) ∧
            ∀ j, j < k → 0 ≤ (plK (placeF v) (v + 1) x y l k out).2.kid j ∧ Lv (plK (placeF v) (v + 1) x y l k out).1 v ((plK (placeF v) (v + 1) x y l k out).2.kid j).toNat ∧ sem (plK (placeF v) (v + 1) x y l k out).1 v ((plK (placeF v) (v + 1) x y l k out).2.kid j).toNat = treeC v (qa (v + 1) x j) (qb (v + 1) y j) (quartL (v + 1) x y j l) := by
          intro k
          induction k with
          | zero => intro _; exact ⟨ho, ⟨[], by simp [plK]⟩, rfl, fun j hj => by omega⟩
          | succ k ih =>
            intro hk
            obtain ⟨i1, ⟨r, i2⟩, i3, i4⟩ := ih (by omega)
            have hp := place_sem v (plK (placeF v) (v + 1) x y l k out).1 (qa (v + 1) x k) (qb (v + 1) y k) (quartL (v + 1) x y k l) (by omega) i1 (fun c hc => quart_in hc) (hqs k) (fun _ => by omega)
            have e : plK (placeF v) (v + 1) x y l (k + 1) out = ((placeF v (plK (placeF v) (v + 1) x y l k out).1 (qa (v + 1) x k) (qb (v + 1) y k) (quartL (v + 1) x y k l)).1, (plK (placeF v) (v + 1) x y l k out).2.setKid k ((placeF v (plK (placeF v) (v + 1) x y l k out).1 (qa (v + 1) x k) (qb (v + 1) y k) (quartL (v + 1) x y k l)).2 : Int)) := by
              conv => lhs; unfold plK
              rw [if_neg (by omega)]
            rw [e]
            generalize plK (placeF v) (v + 1) x y l k out = P at *
            generalize placeF v P.1 (qa (v + 1) x k) (qb (v + 1) y k) (quartL (v + 1) x y k l) = Q at *
            obtain ⟨s, hs'⟩ := hp.pre
            dsimp only
            refine ⟨hp.lo, ⟨r ++ s, by rw [hs', i2]; simp⟩, by rw [setKid_lv]; exact i3, fun j hj => ?_⟩
            by_cases hjk : j = k
            · subst hjk
              rw [setKid_same _ _ (by omega), Int.toNat_natCast]
              exact ⟨Int.natCast_nonneg _, hp.lv, hp.sm⟩
            · rw [setKid_other _ _ (by omega) (by omega) hjk]
              obtain ⟨j1, j2, j3⟩ := i4 j (by omega)
              rw [hs']
              exact ⟨j1, j2.old, (sem_old i1 _ _ j2).trans j3⟩
        obtain ⟨t1, ⟨r, t2⟩, t3, t4⟩ := step 4 (by omega)
        generalize plK (placeF v) (v + 1) x y l 4 out = P at t1 t2 t3 t4
        obtain ⟨o, X⟩ := P
        dsimp only at t1 t2 t3 t4 ⊢
        have hlo : looseB (o ++ [X]) = true := loose_snoc t1 (loose_ndOk (by rw [t3]; omega) (by rw [t3]; omega) fun k hk => by
          obtain ⟨j1, j2, j3⟩ := t4 k hk
          refine ⟨j1, fun e => by rw [t3] at e; omega, fun _ hpos => ?_⟩
          have := j2.1
          refine ⟨by omega, ?_⟩
          have hnum := (j2.num (by omega) t1).1
          rw [show ((X.kid k).toNat : Int) = X.kid k from by omega] at hnum
          rw [hnum, t3]; omega)
        obtain ⟨q1, q2⟩ := last_sem t1 hlo t3 (.inl ⟨by omega, k0, hk0, by
          rw [Nat.add_sub_cancel, (t4 k0 hk0).2.2]
          obtain ⟨w, rfl⟩ : ∃ w, v = w + 1 := ⟨v - 1, by omega⟩
          exact treeC_ne hq0⟩)
        refine ⟨⟨r ++ [X], by rw [t2]; simp⟩, hlo, q1, ?_⟩
        rw [q2, if_pos (by omega), Nat.add_sub_cancel]
        have f0 := (t4 0 (by omega)).2.2
        have f1 := (t4 1 (by omega)).2.2
        have f2 := (t4 2 (by omega)).2.2
        have f3 := (t4 3 (by omega)).2.2
        simp only [Nd.kid] at f0 f1 f2 f3
        rw [f0, f1, f2, f3]
end Go.Gm
/- The quad of cells is that of their tree. -/
namespace Go.Gm
set_option linter.unusedVariables false
set_option linter.unusedSimpArgs false
theorem lvUp_in : ∀ f v c, lvUp f v c < v + f → withinB (lvUp f v c) c = true
  | 0, v, c, h => by simp [lvUp] at h
  | f + 1, v, c, h => by
    unfold lvUp at h ⊢
    split
    · rename_i hw; exact hw
    · rename_i hw
      rw [if_neg hw] at h
      exact lvUp_in f (v + 1) c (by omega)
theorem pow_le2 {v w : Nat} (h : v ≤ w) : (2 : Int) ^ v ≤ 2 ^ w := by
  have h1 : (2 : Nat) ^ v ≤ 2 ^ w := Nat.pow_le_pow_right (by omega) h
  have h2 : ((2 ^ v : Nat) : Int) ≤ ((2 ^ w : Nat) : Int) := by omega
  simpa using h2
theorem within_mono {v w : Nat} {c : Cl} (h : withinB v c = true) (hw : v ≤ w) : withinB w c = true := by
  have h1 := pow_le2 (show v - 1 ≤ w - 1 by omega)
  simp only [withinB, inZ, Bool.and_eq_true, decide_eq_true_eq] at h ⊢
  generalize (2 : Int) ^ (v - 1) = p at *
  generalize (2 : Int) ^ (w - 1) = q at *
  omega
theorem levelFold_in : ∀ (l : List Cl) (v : Nat), 1 ≤ v → v ≤ 1330 → l.foldl (fun v c => lvUp (1330 - v) v c) v ≤ 1329 → ∀ c ∈ l, withinB (l.foldl (fun v c => lvUp (1330 - v) v c) v) c = true
  | [], v, _, _, _, c, hc => by cases hc
  | d :: l, v, h1, h2, h3, c, hc => by
    have hu := lvUp_ge (1330 - v) v d
    have hf := levelFold l (lvUp (1330 - v) v d) (by omega) (by omega)
    simp only [List.foldl_cons] at h3 ⊢
    rcases List.mem_cons.1 hc with rfl | hc
    · exact within_mono (lvUp_in (1330 - v) v c (by omega)) hf.1
    · exact levelFold_in l _ (by omega) (by omega) h3 c hc
theorem level_in {S : List Cl} (h : levelOf S ≤ 1329) : ∀ c ∈ S, withinB (levelOf S) c = true := levelFold_in S 1 (by omega) (by omega) h
theorem within_sq {v : Nat} {c : Cl} (h1 : 1 ≤ v) (h : withinB v c = true) : InSq v (-(2 ^ (v - 1))) (-(2 ^ (v - 1))) c := by
  obtain ⟨w, rfl⟩ : ∃ w, v = w + 1 := ⟨v - 1, by omega⟩
  have e : (2 : Int) ^ (w + 1) = 2 ^ w * 2 := Int.pow_succ _ _
  simp only [withinB, inZ, Bool.and_eq_true, decide_eq_true_eq, Nat.add_sub_cancel] at h
  unfold InSq
  rw [Nat.add_sub_cancel, e]
  generalize (2 : Int) ^ w = p at *
  omega
/-- The tree of cells. -/
def cellT (S : List Cl) : QT := treeC (levelOf S) (-(2 ^ (levelOf S - 1))) (-(2 ^ (levelOf S - 1))) S
theorem of07S_eq {S : List Cl} (hs : ∀ c ∈ S, c.s ≠ 0) : of07S S = if levelOf S > 1329 then ([], 4) else (canonT (levelOf S) (cellT S), 0) := by
  unfold of07S cellT
  obtain ⟨v1, v2⟩ := levelOf_le S
  by_cases hv : levelOf S > 1329
  · rw [if_pos hv, if_pos hv]
  · rw [if_neg hv, if_neg hv]
    have hin : ∀ c ∈ S, InSq (levelOf S) (-(2 ^ (levelOf S - 1))) (-(2 ^ (levelOf S - 1))) c := fun c hc => within_sq v1 (level_in (by omega) c hc)
    generalize levelOf S = v at v1 v2 hv hin
    have hp := place_sem v [] (-(2 ^ (v - 1))) (-(2 ^ (v - 1))) S (by omega) rfl hin hs (fun _ => v1)
    have hok : ofOk (placeF v [] (-(2 ^ (v - 1))) (-(2 ^ (v - 1))) S).1 ((placeF v [] (-(2 ^ (v - 1))) (-(2 ^ (v - 1))) S).2 : Int) = true := by
      unfold ofOk
      have := hp.lv.1
      simp only [hp.lo, Bool.true_and, Bool.and_eq_true, decide_eq_true_eq]
      omega
    rw [if_pos hok, canon_sem hp.lo hp.lv, hp.sm]
theorem lastL_ne {l : List Cl} {c : Cl} (h : c ∈ lastL l) : c.s ≠ 0 := by
  have := (List.mem_filter.1 h).2
  simpa using this
theorem cellT_good {S : List Cl} (hs : ∀ c ∈ S, c.s ≠ 0) (hv : levelOf S ≤ 1329) : Good (levelOf S) (cellT S) := by
  obtain ⟨v1, v2⟩ := levelOf_le S
  have hp := place_sem (levelOf S) [] (-(2 ^ (levelOf S - 1))) (-(2 ^ (levelOf S - 1))) S hv rfl (fun c hc => within_sq v1 (level_in hv c hc)) hs (fun _ => v1)
  have := sem_good hp.lo _ _ hp.lv
  rw [hp.sm] at this
  exact this
theorem of07_eq2 (l : List Cl) : of07 l = if levelOf (lastL l) > 1329 then ([], 4) else (canonT (levelOf (lastL l)) (cellT (lastL l)), 0) := by
  rw [of07_eq, of07S_eq fun c hc => lastL_ne hc]
/-- What cells come to may be. -/
theorem quad07_right {most : Int} {l : List Cl} : qrightB (of07 l).1 = true := by
  rw [of07_eq2]
  split
  · simp [qrightB]
  · exact (canonT_right (cellT_good (fun c hc => lastL_ne hc) (by omega))).1
end Go.Gm
/- Chapter 8 of the document: single cells. -/
namespace Go.Gm
set_option linter.unusedVariables false
set_option linter.unusedSimpArgs false
def maxK (m : Int) (x : Nd) : Nat → Int
  | 0 => m
  | k + 1 => max (maxK m x k) (x.kid k)
/-- The greatest state. -/
def mostZ (L : List Nd) : Int := L.foldl (fun m x => if x.lv = 1 then maxK m x 4 else m) 0
theorem quad_eq (L : List Nd) : quad L = .agg [.sl (enL cNd L) .no] := rfl
theorem boxQ (L : List Nd) (H : AHeap) : boxA true 1 (quad L) H = some (.ptr H.length 0 0, H ++ [.cel 0 (quadC L)]) := box_agg rfl rfl
section
variable {H : AHeap} {p : Nat} {L : List Nd}
theorem load_nodesP (hg : H[p]? = some (.cel 0 (quadC L))) : loadA false 1 (.ptr p 0 0) H = some (.sl (enL cNd L) .no) := by
  simp only [loadA, get_cel hg, Option.bind_some]; rfl
theorem load_qP (hg : H[p]? = some (.cel 0 (quadC L))) : loadA true 1 (.ptr p 0 0) H = some (quad L) := by
  simp only [loadA, get_cel hg, Option.bind_some]; rfl
end
theorem q08_most (L : List Nd) (H : AHeap) (hL : L.length < 1152921504606846976) : Sh.gliderref08_Most (quad L) H = some (.ret (.int .u8 (IntKind.u8.wrap (mostZ L))), H) := by
  unfold Sh.gliderref08_Most
  have e1 : (H ++ [Blk.cel 0 (quadC L)])[H.length]? = some (.cel 0 (quadC L)) := last_cel
  simp only [GMb, joinPt, decide_true, decide_false, if_true, if_false, boxQ]
  refine loop_up (G := fun rec1 vs H1 => Sh.gliderref08_Most_l1 H rec1 (ag vs 0) (ag vs 1) (ag vs 2) H1) L.length (fun i => [.ptr H.length 0 0, .int .i64 (mostZ (L.take i)), .int .i64 (i : Int)]) (fun _ => H ++ [.cel 0 (quadC L)]) _ hL (fun rec i hi => ?_) (fun rec => ?_)
  · have hi' : (i : Int) < (L.length : Int) := by omega
    have hws := wrap_succ (show i < 9223372036854775807 by omega)
    have hm : mostZ (L.take (i + 1)) = if L[i].lv = 1 then maxK (mostZ (L.take i)) L[i] 4 else mostZ (L.take i) := by
      unfold mostZ
      rw [List.take_succ_eq_append_getElem hi, List.foldl_append]; rfl
    rw [hm]
    generalize mostZ (L.take i) = m
    unfold Sh.gliderref08_Most_l1
    simp only [GMb, joinPt, decide_true, decide_false, if_true, if_false, fieldAddr_ptr, Nat.zero_add, load_nodesP e1, len_enL, hi']
    by_cases hlv : L[i].lv = 1
    · rw [if_pos hlv]
      refine loop_up (G := fun rec2 vs H1 => Sh.gliderref08_Most_l2 H rec rec2 (ag vs 0) (ag vs 1) (ag vs 2) (ag vs 3) H1) 4 (fun k => [.ptr H.length 0 0, .int .i64 (maxK m L[i] k), .int .i64 (i : Int), .int .i64 (k : Int)]) (fun _ => H ++ [.cel 0 (quadC L)]) _ (by decide) (fun rec2 k hk => ?_) (fun rec2 => ?_)
      · have hk' : (k : Int) < 4 := by omega
        unfold Sh.gliderref08_Most_l2
        simp only [GMb, joinPt, decide_true, decide_false, if_true, if_false, fieldAddr_cptr, fieldAddr_ptr, load_cptr, Nat.zero_add, Nat.add_zero, Nat.mul_one, cNd_0, hk', load_nodesP e1, idx_enL hi, hlv, idx_kid hk, cNd_kid hk, max_int, wrap_succ (show k < 9223372036854775807 by omega), maxK]
      · have hf : ¬ (((4 : Nat) : Int) < 4) := by decide
        unfold Sh.gliderref08_Most_l2
        simp only [GMb, joinPt, decide_true, decide_false, if_true, if_false, hf, hws]
    · rw [if_neg hlv, loop_turn fuel_pos]
      have hf : ((0 : Int) < 4) := by decide
      unfold Sh.gliderref08_Most_l2
      simp only [GMb, joinPt, decide_true, decide_false, if_true, if_false, fieldAddr_cptr, fieldAddr_ptr, load_cptr, Nat.zero_add, Nat.add_zero, Nat.mul_one, cNd_0, hf, load_nodesP e1, idx_enL hi, hlv, hws]
  · unfold Sh.gliderref08_Most_l1
    rw [List.take_of_length_le (Nat.le_refl _)]
    simp only [GMb, joinPt, decide_true, decide_false, if_true, if_false, fieldAddr_ptr, Nat.zero_add, load_nodesP e1, len_enL, Int.lt_irrefl, conv_int, rP_int]
theorem maxK_st {m : Int} {x : Nd} (hm : St m) (hx : ∀ k, k < 4 → St (x.kid k)) : ∀ k, k ≤ 4 → St (maxK m x k)
  | 0, _ => hm
  | k + 1, h => by
    have h1 := maxK_st hm hx k (by omega)
    have h2 := hx k (by omega)
    obtain ⟨a1, a2⟩ := h1
    obtain ⟨b1, b2⟩ := h2
    exact ⟨show (0 : Int) ≤ max (maxK m x k) (x.kid k) by omega, show max (maxK m x k) (x.kid k) ≤ (255 : Int) by omega⟩
theorem mostZ_st {L : List Nd} (hl : looseB L = true) : St (mostZ L) := by
  have key : ∀ (l : List Nd) (m : Int), St m → (∀ x ∈ l, x.lv = 1 → ∀ k, k < 4 → St (x.kid k)) → St (l.foldl (fun m x => if x.lv = 1 then maxK m x 4 else m) m) := by
    intro l
    induction l with
    | nil => intro m hm _; exact hm
    | cons a l ih =>
      intro m hm hx
      refine ih _ ?_ fun x h => hx x (by simp [h])
      dsimp only
      split
      · rename_i h; exact maxK_st hm (hx a (by simp) h) 4 (Nat.le_refl _)
      · exact hm
  refine key L 0 ⟨Int.le_refl _, by decide⟩ fun x hx hlv k hk => ?_
  obtain ⟨i, hi, rfl⟩ := List.getElem_of_mem hx
  have := (loose_get hl hi).2.2 k hk
  exact ⟨this.1, this.2.1 hlv⟩
theorem q08_mostZ {L : List Nd} (H : AHeap) (hL : L.length < 1152921504606846976) (hl : looseB L = true) : Sh.gliderref08_Most (quad L) H = some (.ret (.int .u8 (mostZ L)), H) := by
  have := mostZ_st hl
  rw [q08_most L H hL, wrap_u8 this.1 (by have := this.2; omega)]
theorem q08_in (z : Int) (v : Nat) (H : AHeap) (hz : SB 100 z) (h1 : 1 ≤ v) (h2 : v ≤ 1400) : Sh.gliderref08_in (big z) (.int .i64 (v : Int)) H = some (.ret (.bool (inZ v z)), H) := by
  have hw : IntKind.i64.wrap ((v : Int) - 1) = ((v - 1 : Nat) : Int) := wrap_pred (by omega) (by omega)
  have hp := (sb_half (show v - 1 ≤ 1400 by omega)).lb (by decide)
  have hpow := fun H => q02_pow (v - 1) H (by omega)
  have hmin := fun H => q02_minusZ (2 ^ (v - 1)) H hp
  have hx := fun H b (hb : LB b) => q02_cmpZ z b H (hz.lb (by decide)) hb
  have s1 : ∀ B : AHeap, storeA 2 (.ptr B.length 0 0) (big (2 ^ (v - 1))) (B ++ [.cel 0 [.bool false, .sl [] .tight]]) = some (B ++ [.cel 0 (bigC (2 ^ (v - 1)))]) := fun B => by rw [store_bigP (last_cel (B := B)) rfl, last_set]
  have e1 : (H ++ [Blk.cel 0 (bigC z)] ++ [Blk.cel 0 (bigC (2 ^ (v - 1)))])[H.length]? = some (.cel 0 (bigC z)) := by simp
  have e2 : (H ++ [Blk.cel 0 (bigC z)] ++ [Blk.cel 0 (bigC (2 ^ (v - 1)))])[(H ++ [Blk.cel 0 (bigC z)]).length]? = some (.cel 0 (bigC (2 ^ (v - 1)))) := last_cel
  have fin : ∀ q : Bool, rP H (.bool q) (H ++ [Blk.cel 0 (bigC z)] ++ [Blk.cel 0 (bigC (2 ^ (v - 1)))]) = some (.ret (.bool q), H) := fun q => by simp only [List.append_assoc]; exact rP_bool
  unfold Sh.gliderref08_in inZ
  simp only [GMb, joinPt, decide_true, decide_false, if_true, if_false, boxBig, hw, hpow, allocBig, s1, load_bigP e1, load_bigP e2, hmin, and_true, eq_self, hx _ _ hp.neg, cmp_geq]
  cases decide (-(2 ^ (v - 1)) ≤ z) with
  | false => simp only [GMb, joinPt, decide_true, decide_false, if_true, if_false, fin]
  | true => simp only [GMb, joinPt, decide_true, decide_false, if_true, if_false, load_bigP e1, load_bigP e2, hx _ _ hp, cmp_lss, fin]
/-- In which quarter; and the distance from its corner. -/
def qk (v : Nat) (x y : Int) : Nat := (if 2 ^ (v - 1) ≤ x then 1 else 0) + (if 2 ^ (v - 1) ≤ y then 2 else 0)
def qd (v : Nat) (x : Int) : Int := if 2 ^ (v - 1) ≤ x then x - 2 ^ (v - 1) else x
theorem qk_lt (v : Nat) (x y : Int) : qk v x y < 4 := by unfold qk; split <;> split <;> omega
theorem q08_quarter (v : Nat) (x y : Int) (H : AHeap) (h1 : 1 ≤ v) (h2 : v ≤ 1400) (hx : SB 100 x) (hy : SB 100 y) :
    Sh.gliderref08_quarter (.int .i64 (v : Int)) (big x) (big y) H = some (.ret (.tup [.int .i64 (qk v x y : Int), big (qd v x), big (qd v y)]), H) := by
  have hw : IntKind.i64.wrap ((v : Int) - 1) = ((v - 1 : Nat) : Int) := wrap_pred (by omega) (by omega)
  have hp := (sb_half (show v - 1 ≤ 1400 by omega)).lb (by decide)
  have hpow := fun H => q02_pow (v - 1) H (by omega)
  have cx := fun H => q02_cmpZ x (2 ^ (v - 1)) H (hx.lb (by decide)) hp
  have cy := fun H => q02_cmpZ y (2 ^ (v - 1)) H (hy.lb (by decide)) hp
  have sx := fun H => q02_subZ x (2 ^ (v - 1)) H (hx.lb (by decide)) hp
  have sy := fun H => q02_subZ y (2 ^ (v - 1)) H (hy.lb (by decide)) hp
  unfold Sh.gliderref08_quarter
  have s1 : ∀ B : AHeap, storeA 2 (.ptr B.length 0 0) (big (2 ^ (v - 1))) (B ++ [.cel 0 [.bool false, .sl [] .tight]]) = some (B ++ [.cel 0 (bigC (2 ^ (v - 1)))]) := fun B => by rw [store_bigP (last_cel (B := B)) rfl, last_set]
  simp only [GMb, joinPt, decide_true, decide_false, if_true, if_false, boxBig, allocBig, hw, hpow, s1]
  have l1 : (H ++ [Blk.cel 0 (bigC x)]).length = H.length + 1 := by simp
  have l2 : (H ++ [Blk.cel 0 (bigC x)] ++ [Blk.cel 0 (bigC y)]).length = H.length + 2 := by simp
  have l3 : (H ++ [Blk.cel 0 (bigC x)] ++ [Blk.cel 0 (bigC y)] ++ [Blk.cel 0 [AVal.bool false, .sl [] .tight]]).length = H.length + 3 := by simp
  have l4 : (H ++ [Blk.cel 0 (bigC x)] ++ [Blk.cel 0 (bigC y)] ++ [Blk.cel 0 [AVal.bool false, .sl [] .tight]] ++ [Blk.cel 0 [AVal.bool false, .sl [] .tight]]).length = H.length + 4 := by simp
  simp only [l1, l2, l3, l4]
  -- a heap of five numbers
  have five : ∀ a b c d e : List AVal, (H ++ [Blk.cel 0 a] ++ [Blk.cel 0 b] ++ [Blk.cel 0 c] ++ [Blk.cel 0 d] ++ [Blk.cel 0 e]) = H ++ [Blk.cel 0 a, .cel 0 b, .cel 0 c, .cel 0 d, .cel 0 e] := fun a b c d e => by simp
  rw [five]
  have g0 : ∀ (z : Int) (b c d e : List AVal), loadA true 2 (.ptr H.length 0 0) (H ++ [Blk.cel 0 (bigC z), .cel 0 b, .cel 0 c, .cel 0 d, .cel 0 e]) = some (big z) := fun z b c d e => load_bigP (by simp)
  have g1 : ∀ (z : Int) (a c d e : List AVal), loadA true 2 (.ptr (H.length + 1) 0 0) (H ++ [Blk.cel 0 a, .cel 0 (bigC z), .cel 0 c, .cel 0 d, .cel 0 e]) = some (big z) := fun z a c d e => load_bigP (by simp)
  have g2 : ∀ (z : Int) (a b d e : List AVal), loadA true 2 (.ptr (H.length + 2) 0 0) (H ++ [Blk.cel 0 a, .cel 0 b, .cel 0 (bigC z), .cel 0 d, .cel 0 e]) = some (big z) := fun z a b d e => load_bigP (by simp)
  have g3 : ∀ (z : Int) (a b c e : List AVal), loadA true 2 (.ptr (H.length + 3) 0 0) (H ++ [Blk.cel 0 a, .cel 0 b, .cel 0 c, .cel 0 (bigC z), .cel 0 e]) = some (big z) := fun z a b c e => load_bigP (by simp)
  have g4 : ∀ (z : Int) (a b c d : List AVal), loadA true 2 (.ptr (H.length + 4) 0 0) (H ++ [Blk.cel 0 a, .cel 0 b, .cel 0 c, .cel 0 d, .cel 0 (bigC z)]) = some (big z) := fun z a b c d => load_bigP (by simp)
  have p0 : ∀ (z z' : Int) (b c d e : List AVal), storeA 2 (.ptr H.length 0 0) (big z) (H ++ [Blk.cel 0 (bigC z'), .cel 0 b, .cel 0 c, .cel 0 d, .cel 0 e]) = some (H ++ [Blk.cel 0 (bigC z), .cel 0 b, .cel 0 c, .cel 0 d, .cel 0 e]) := fun z z' b c d e => by rw [store_bigP (cs := bigC z') (by simp) rfl]; simp
  have p1 : ∀ (z z' : Int) (a c d e : List AVal), storeA 2 (.ptr (H.length + 1) 0 0) (big z) (H ++ [Blk.cel 0 a, .cel 0 (bigC z'), .cel 0 c, .cel 0 d, .cel 0 e]) = some (H ++ [Blk.cel 0 a, .cel 0 (bigC z), .cel 0 c, .cel 0 d, .cel 0 e]) := fun z z' a c d e => by rw [store_bigP (cs := bigC z') (by simp) rfl]; simp
  have p2 : ∀ (z : Int) (a b d e : List AVal), storeA 2 (.ptr (H.length + 2) 0 0) (big z) (H ++ [Blk.cel 0 a, .cel 0 b, .cel 0 [.bool false, .sl [] .tight], .cel 0 d, .cel 0 e]) = some (H ++ [Blk.cel 0 a, .cel 0 b, .cel 0 (bigC z), .cel 0 d, .cel 0 e]) := fun z a b d e => by rw [store_bigP (cs := [.bool false, .sl [] .tight]) (by simp) rfl]; simp
  have p3 : ∀ (z : Int) (a b c e : List AVal), storeA 2 (.ptr (H.length + 3) 0 0) (big z) (H ++ [Blk.cel 0 a, .cel 0 b, .cel 0 c, .cel 0 [.bool false, .sl [] .tight], .cel 0 e]) = some (H ++ [Blk.cel 0 a, .cel 0 b, .cel 0 c, .cel 0 (bigC z), .cel 0 e]) := fun z a b c e => by rw [store_bigP (cs := [.bool false, .sl [] .tight]) (by simp) rfl]; simp
  have w1 : IntKind.i64.wrap (0 + 1) = 1 := by decide
  have w2 : IntKind.i64.wrap (0 + 2) = 2 := by decide
  have w3 : IntKind.i64.wrap (1 + 2) = 3 := by decide
  unfold qk qd
  simp only [GMb, joinPt, decide_true, decide_false, if_true, if_false, g0, g4, cx, cmp_geq]
  by_cases ha : (2 : Int) ^ (v - 1) ≤ x
  · by_cases hb : (2 : Int) ^ (v - 1) ≤ y
    · simp only [GMb, joinPt, decide_true, decide_false, if_true, if_false, ha, hb, w1, w3, g0, g1, g2, g3, g4, sx, sy, cx, cy, cmp_geq, p0, p1, p2, p3, ag_succ, Sh.gliderref08_quarter_j1, Sh.gliderref08_quarter_j2, and_true, eq_self, resM_eq, seqO_cons, seqO_nil, Option.map_some, rPN_app, fall_tup, fparts_cons, fparts_nil, fpart_int, fpart_big]
      rfl
    · simp only [GMb, joinPt, decide_true, decide_false, if_true, if_false, ha, hb, w1, w3, g0, g1, g2, g3, g4, sx, sy, cx, cy, cmp_geq, p0, p1, p2, p3, ag_succ, Sh.gliderref08_quarter_j1, Sh.gliderref08_quarter_j2, and_true, eq_self, resM_eq, seqO_cons, seqO_nil, Option.map_some, rPN_app, fall_tup, fparts_cons, fparts_nil, fpart_int, fpart_big]
      rfl
  · by_cases hb : (2 : Int) ^ (v - 1) ≤ y
    · simp only [GMb, joinPt, decide_true, decide_false, if_true, if_false, ha, hb, w1, w2, w3, g0, g1, g2, g3, g4, sx, sy, cx, cy, cmp_geq, p0, p1, p2, p3, ag_succ, Sh.gliderref08_quarter_j1, Sh.gliderref08_quarter_j2, and_true, eq_self, resM_eq, seqO_cons, seqO_nil, Option.map_some, rPN_app, fall_tup, fparts_cons, fparts_nil, fpart_int, fpart_big]
      rfl
    · simp only [GMb, joinPt, decide_true, decide_false, if_true, if_false, ha, hb, w1, w2, w3, g0, g1, g2, g3, g4, sx, sy, cx, cy, cmp_geq, p0, p1, p2, p3, ag_succ, Sh.gliderref08_quarter_j1, Sh.gliderref08_quarter_j2, and_true, eq_self, resM_eq, seqO_cons, seqO_nil, Option.map_some, rPN_app, fall_tup, fparts_cons, fparts_nil, fpart_int, fpart_big]
      rfl
end Go.Gm
/- Chapter 8 of the document: a cell's state. -/
namespace Go.Gm
set_option linter.unusedVariables false
set_option linter.unusedSimpArgs false
/-- The state of a cell, so far from the corner of a node. -/
def getF (L : List Nd) : Nat → Nat → Int → Int → Int
  | 0, _, _, _ => 0
  | v + 1, n, x, y =>
    if n = 0 then 0
    else if (ndAt L n).lv = 1 then (ndAt L n).kid (qk (v + 1) x y)
    else getF L v ((ndAt L n).kid (qk (v + 1) x y)).toNat (qd (v + 1) x) (qd (v + 1) y)
def getZ (L : List Nd) (x y : Int) : Int :=
  if L = [] then 0
  else if inZ (topLv L).toNat x && inZ (topLv L).toNat y then getF L (topLv L).toNat L.length (x + 2 ^ ((topLv L).toNat - 1)) (y + 2 ^ ((topLv L).toNat - 1)) else 0
theorem qd_sb {v k : Nat} {x : Int} (h : SB k x) : SB k (qd v x) := by
  unfold qd
  have hp : (0 : Int) < 2 ^ (v - 1) := Int.pow_pos (by omega)
  unfold SB at *
  generalize (2 : Int) ^ (v - 1) = p at *
  generalize (4294967296 : Nat) ^ k = q at *
  split <;> omega
theorem getF_st {L : List Nd} (hl : looseB L = true) : ∀ v n x y, Lv L v n → St (getF L v n x y)
  | 0, n, x, y, h => ⟨Int.le_refl _, by show (0 : Int) ≤ 255; decide⟩
  | v + 1, n, x, y, h => by
    unfold getF
    split
    · exact ⟨Int.le_refl _, by show (0 : Int) ≤ 255; decide⟩
    · rename_i h0
      have h0' : 0 < n := by omega
      split
      · rename_i h1
        obtain ⟨m, rfl⟩ : ∃ m, n = m + 1 := ⟨n - 1, by omega⟩
        rw [ndAt_nat h.1] at h1 ⊢
        have := (loose_get hl h.1).2.2 (qk (v + 1) x y) (qk_lt _ _ _)
        exact ⟨this.1, this.2.1 h1⟩
      · rename_i h1
        have := h.num h0' hl
        exact getF_st hl v _ _ _ (Lv.kid hl h0' h (by omega) (qk_lt _ _ _)).1
theorem q08_get (L : List Nd) (x y : Int) (H : AHeap) (hL : L.length < 17592186044415) (hl : looseB L = true) (hx : SB 99 x) (hy : SB 99 y) :
    Sh.gliderref08_Get (quad L) (big x) (big y) H = some (.ret (.int .u8 (getZ L x y)), H) := by
  unfold Sh.gliderref08_Get
  simp only [GMb, joinPt, decide_true, decide_false, if_true, if_false, boxQ, boxBig]
  have l1 : (H ++ [Blk.cel 0 (quadC L)]).length = H.length + 1 := by simp
  have l2 : (H ++ [Blk.cel 0 (quadC L)] ++ [Blk.cel 0 (bigC x)]).length = H.length + 2 := by simp
  have l3 : (H ++ [Blk.cel 0 (quadC L)] ++ [Blk.cel 0 (bigC x)] ++ [Blk.cel 0 (bigC y)]).length = H.length + 3 := by simp
  have three : ∀ (x y : Int), H ++ [Blk.cel 0 (quadC L)] ++ [Blk.cel 0 (bigC x)] ++ [Blk.cel 0 (bigC y)] = H ++ Blk.cel 0 (quadC L) :: .cel 0 (bigC x) :: .cel 0 (bigC y) :: [] := fun x y => by simp
  have gq : ∀ (x y : Int) (G : AHeap), loadA true 1 (.ptr H.length 0 0) (H ++ Blk.cel 0 (quadC L) :: .cel 0 (bigC x) :: .cel 0 (bigC y) :: G) = some (quad L) := fun x y G => load_qP (by simp)
  have gn : ∀ (x y : Int) (G : AHeap), loadA false 1 (.ptr H.length 0 0) (H ++ Blk.cel 0 (quadC L) :: .cel 0 (bigC x) :: .cel 0 (bigC y) :: G) = some (.sl (enL cNd L) .no) := fun x y G => load_nodesP (by simp)
  have gx : ∀ (x y : Int) (G : AHeap), loadA true 2 (.ptr (H.length + 1) 0 0) (H ++ Blk.cel 0 (quadC L) :: .cel 0 (bigC x) :: .cel 0 (bigC y) :: G) = some (big x) := fun x y G => load_bigP (by simp)
  have gy : ∀ (x y : Int) (G : AHeap), loadA true 2 (.ptr (H.length + 2) 0 0) (H ++ Blk.cel 0 (quadC L) :: .cel 0 (bigC x) :: .cel 0 (bigC y) :: G) = some (big y) := fun x y G => load_bigP (by simp)
  have px : ∀ (z x y : Int) (G : AHeap), storeA 2 (.ptr (H.length + 1) 0 0) (big z) (H ++ Blk.cel 0 (quadC L) :: .cel 0 (bigC x) :: .cel 0 (bigC y) :: G) = some (H ++ Blk.cel 0 (quadC L) :: .cel 0 (bigC z) :: .cel 0 (bigC y) :: G) := fun z x y G => by rw [store_bigP (cs := bigC x) (by simp) rfl]; simp
  have py : ∀ (z x y : Int) (G : AHeap), storeA 2 (.ptr (H.length + 2) 0 0) (big z) (H ++ Blk.cel 0 (quadC L) :: .cel 0 (bigC x) :: .cel 0 (bigC y) :: G) = some (H ++ Blk.cel 0 (quadC L) :: .cel 0 (bigC x) :: .cel 0 (bigC z) :: G) := fun z x y G => by rw [store_bigP (cs := bigC y) (by simp) rfl]; simp
  have fin : ∀ (q : Int) (G : AHeap), rP H (.int .u8 q) (H ++ G) = some (.ret (.int .u8 q), H) := fun q G => rP_int
  have lvl := fun H => q05_level L .no H hL
  rw [← quad_eq] at lvl
  rw [l1, l2, three]
  simp only [GMb, joinPt, decide_true, decide_false, if_true, if_false, gq, lvl]
  unfold getZ
  by_cases h0 : L = []
  · simp only [if_pos h0, GMb, joinPt, decide_true, decide_false, if_true, if_false, fin]
  · rw [if_neg h0]
    have hlen : 0 < L.length := List.length_pos_iff.2 h0
    have hm : L.length - 1 < L.length := by omega
    have hLv : Lv L (topLv L).toNat L.length := ⟨Nat.le_refl _, .inr rfl⟩
    obtain ⟨hn1, hn2⟩ := hLv.num hlen hl
    have htop : topLv L = ((topLv L).toNat : Int) := hn1
    have hle := lv_le hl hlen (Nat.le_refl _)
    have hle' : (topLv L).toNat ≤ 1329 := hle
    rw [if_neg h0]
    generalize (topLv L).toNat = v at hLv hn1 hn2 htop hle'
    rw [htop]
    have hv0 : ¬ ((v : Int) = 0) := by omega
    have hinx := fun H => q08_in x v H (hx.mono (by omega)) hn2 (by omega)
    have hiny := fun H => q08_in y v H (hy.mono (by omega)) hn2 (by omega)
    simp only [GMb, joinPt, decide_true, decide_false, if_true, if_false, hv0, gx, hinx]
    cases inZ v x with
    | false => simp only [GMb, joinPt, decide_true, decide_false, if_true, if_false, fin]
    | true =>
      simp only [GMb, joinPt, decide_true, decide_false, if_true, if_false, gy, hiny]
      cases inZ v y with
      | false => simp only [GMb, joinPt, decide_true, decide_false, if_true, if_false, fin]
      | true =>
        have hw : IntKind.i64.wrap ((v : Int) - 1) = ((v - 1 : Nat) : Int) := wrap_pred (by omega) (by omega)
        have hph := sb_half (show v - 1 ≤ 1400 by omega)
        have hp := hph.lb (show 44 ≤ 549755813888 by decide)
        have hpow := fun H => q02_pow (v - 1) H (by omega)
        have ax := fun H => q02_addZ x (2 ^ (v - 1)) H (hx.lb (by decide)) hp
        have ay := fun H => q02_addZ y (2 ^ (v - 1)) H (hy.lb (by decide)) hp
        have hxs : SB 100 (x + 2 ^ (v - 1)) := hx.add (hph.mono (by omega))
        have hys : SB 100 (y + 2 ^ (v - 1)) := hy.add (hph.mono (by omega))
        have l4 : ∀ x y : Int, (H ++ Blk.cel 0 (quadC L) :: .cel 0 (bigC x) :: .cel 0 (bigC y) :: []).length = H.length + 3 := fun x y => by simp
        have four : ∀ (x y : Int) (c : Blk), (H ++ Blk.cel 0 (quadC L) :: .cel 0 (bigC x) :: .cel 0 (bigC y) :: []) ++ [c] = H ++ Blk.cel 0 (quadC L) :: .cel 0 (bigC x) :: .cel 0 (bigC y) :: [c] := fun x y c => by simp
        have ph : ∀ (x y : Int), storeA 2 (.ptr (H.length + 3) 0 0) (big (2 ^ (v - 1))) (H ++ Blk.cel 0 (quadC L) :: .cel 0 (bigC x) :: .cel 0 (bigC y) :: [.cel 0 [.bool false, .sl [] .tight]]) = some (H ++ Blk.cel 0 (quadC L) :: .cel 0 (bigC x) :: .cel 0 (bigC y) :: [.cel 0 (bigC (2 ^ (v - 1)))]) := fun x y => by rw [store_bigP (cs := [.bool false, .sl [] .tight]) (by simp) rfl]; simp
        have gh : ∀ (x y : Int) (z : Int), loadA true 2 (.ptr (H.length + 3) 0 0) (H ++ Blk.cel 0 (quadC L) :: .cel 0 (bigC x) :: .cel 0 (bigC y) :: [.cel 0 (bigC z)]) = some (big z) := fun x y z => load_bigP (by simp)
        simp only [GMb, joinPt, decide_true, decide_false, if_true, if_false, hw, hpow, allocBig, l4, four, ph, gx, gh, and_true, eq_self, ax, gy, ay, px, py, fieldAddr_ptr, Nat.zero_add, gn, len_enL]
        refine loop_fun (G := fun rec1 vs H1 => Sh.gliderref08_Get_l1 H rec1 (ag vs 0) (ag vs 1) (ag vs 2) (ag vs 3) H1) (σ := Nat × Nat × Int × Int × AHeap) (fun s => Lv L s.1 s.2.1 ∧ s.1 ≤ 1329 ∧ SB 100 s.2.2.1 ∧ SB 100 s.2.2.2.1)
          (fun s => [.ptr H.length 0 0, .ptr (H.length + 1) 0 0, .ptr (H.length + 2) 0 0, .int .i64 (s.2.1 : Int)]) (fun s => H ++ Blk.cel 0 (quadC L) :: .cel 0 (bigC s.2.2.1) :: .cel 0 (bigC s.2.2.2.1) :: s.2.2.2.2) (fun s => s.1)
          (fun s => some (.ret (.int .u8 (getF L s.1 s.2.1 s.2.2.1 s.2.2.2.1)), H)) (fun s rec hs hrec => ?_) (v, L.length, x + 2 ^ (v - 1), y + 2 ^ (v - 1), [.cel 0 (bigC (2 ^ (v - 1)))]) ⟨hLv, hle', hxs, hys⟩ (by dsimp only; omega)
        obtain ⟨u, n, a, b, G⟩ := s
        obtain ⟨s1, s2, s3, s4⟩ := hs
        simp only at s1 s2 s3 s4 hrec ⊢
        unfold Sh.gliderref08_Get_l1
        by_cases hn : n = 0
        · subst hn
          have : getF L u 0 a b = 0 := by cases u <;> simp [getF]
          rw [this]
          simp only [GMb, joinPt, decide_true, decide_false, if_true, if_false, show ((0 : Nat) : Int) = 0 from rfl, show ¬ ((0 : Int) > 0) from by decide, fin]
        · obtain ⟨m, rfl⟩ : ∃ m, n = m + 1 := ⟨n - 1, by omega⟩
          have hml : m < L.length := s1.1
          obtain ⟨c1, c2⟩ := s1.num (by omega) hl
          obtain ⟨w, rfl⟩ : ∃ w, u = w + 1 := ⟨u - 1, by omega⟩
          have hwm : IntKind.i64.wrap (((m + 1 : Nat) : Int) - 1) = (m : Int) := by rw [wrap_i64] <;> omega
          have hpos : ((m + 1 : Nat) : Int) > 0 := by omega
          have hx : ndAt L ((m + 1 : Nat) : Int) = L[m] := ndAt_nat hml
          have hlv : L[m].lv = ((w + 1 : Nat) : Int) := by rw [← hx]; exact c1
          have hqr := fun H => q08_quarter (w + 1) a b H (by omega) (by omega) s3 s4
          have hk4 := qk_lt (w + 1) a b
          have hgf : getF L (w + 1) (m + 1) a b = if L[m].lv = 1 then L[m].kid (qk (w + 1) a b) else getF L w (L[m].kid (qk (w + 1) a b)).toNat (qd (w + 1) a) (qd (w + 1) b) := by
            conv => lhs; unfold getF
            rw [if_neg (by omega), hx]
          rw [hgf]
          generalize hB : H ++ Blk.cel 0 (quadC L) :: .cel 0 (bigC a) :: .cel 0 (bigC b) :: G = B
          have n1 : loadA false 1 (.ptr H.length 0 0) B = some (.sl (enL cNd L) .no) := by rw [← hB]; exact gn _ _ _
          have n2 : loadA true 2 (.ptr (H.length + 1) 0 0) B = some (big a) := by rw [← hB]; exact gx _ _ _
          have n3 : loadA true 2 (.ptr (H.length + 2) 0 0) B = some (big b) := by rw [← hB]; exact gy _ _ _
          have lB : (B ++ [Blk.cel 0 [AVal.bool false, .sl [] .tight]]).length = B.length + 1 := by simp
          have t0 := fun (z : Int) (c : List AVal) => st0 (Hc := B) (a := [.bool false, .sl [] .tight]) (c := c) (z := z) rfl
          have t1 := fun (z : Int) (a : List AVal) => st1 (Hc := B) (a := a) (c := [.bool false, .sl [] .tight]) (z := z) rfl
          have shape : ∀ (a b : Int) (c d : Blk), H ++ Blk.cel 0 (quadC L) :: .cel 0 (bigC a) :: .cel 0 (bigC b) :: G ++ [c] ++ [d] = H ++ Blk.cel 0 (quadC L) :: .cel 0 (bigC a) :: .cel 0 (bigC b) :: (G ++ [c, d]) := fun a b c d => by simp
          have m1 : ∀ c d : Blk, loadA false 1 (.ptr H.length 0 0) (B ++ [c] ++ [d]) = some (.sl (enL cNd L) .no) := fun c d => by rw [← hB, shape]; exact gn _ _ _
          simp only [GMb, joinPt, decide_true, decide_false, if_true, if_false, ag_succ, hpos, fieldAddr_ptr, Nat.zero_add, n1, hwm, idx_enL hml, fieldAddr_cptr, load_cptr, Nat.add_zero, cNd_0, hlv, n2, n3, hqr, extract_0, extract_1, extract_2, allocBig, lB, t0, t1, m1, idx_kid hk4, Nat.mul_one, cNd_kid hk4]
          by_cases h1 : ((w + 1 : Nat) : Int) = 1
          · have hst := (loose_get hl hml).2.2 (qk (w + 1) a b) hk4
            have hwu : IntKind.u8.wrap (L[m].kid (qk (w + 1) a b)) = L[m].kid (qk (w + 1) a b) := wrap_u8 hst.1 (by have := hst.2.1 (by rw [hlv]; exact h1); omega)
            have : (H ++ Blk.cel 0 (quadC L) :: .cel 0 (bigC a) :: .cel 0 (bigC b) :: G ++ [Blk.cel 0 (bigC (qd (w + 1) a))] ++ [Blk.cel 0 (bigC (qd (w + 1) b))]) = H ++ (Blk.cel 0 (quadC L) :: .cel 0 (bigC a) :: .cel 0 (bigC b) :: (G ++ [Blk.cel 0 (bigC (qd (w + 1) a)), .cel 0 (bigC (qd (w + 1) b))])) := shape _ _ _ _
            rw [← hB, this]
            simp only [h1, GMb, joinPt, decide_true, decide_false, if_true, if_false, conv_int, hwu, fin]
          · have e66 : loadA true 2 (.ptr B.length 0 0) (B ++ [Blk.cel 0 (bigC (qd (w + 1) a))] ++ [Blk.cel 0 (bigC (qd (w + 1) b))]) = some (big (qd (w + 1) a)) := load_bigP (by simp)
            have e68 : ∀ a', loadA true 2 (.ptr (B.length + 1) 0 0) (H ++ Blk.cel 0 (quadC L) :: .cel 0 (bigC a') :: .cel 0 (bigC b) :: (G ++ [Blk.cel 0 (bigC (qd (w + 1) a)), .cel 0 (bigC (qd (w + 1) b))])) = some (big (qd (w + 1) b)) := fun a' => by
              rw [← shape]
              have : B.length + 1 = (H ++ Blk.cel 0 (quadC L) :: .cel 0 (bigC a') :: .cel 0 (bigC b) :: G ++ [Blk.cel 0 (bigC (qd (w + 1) a))]).length := by rw [← hB]; simp; omega
              rw [this]; exact load_bigP last_cel
            have hsh : B ++ [Blk.cel 0 (bigC (qd (w + 1) a))] ++ [Blk.cel 0 (bigC (qd (w + 1) b))] = H ++ Blk.cel 0 (quadC L) :: .cel 0 (bigC a) :: .cel 0 (bigC b) :: (G ++ [Blk.cel 0 (bigC (qd (w + 1) a)), .cel 0 (bigC (qd (w + 1) b))]) := by rw [← hB]; exact shape _ _ _ _
            simp only [h1, GMb, joinPt, decide_true, decide_false, if_true, if_false, e66]
            rw [hsh]
            simp only [GMb, joinPt, decide_true, decide_false, if_true, if_false, px, e68, and_true, eq_self, py, if_false]
            obtain ⟨k1, k2, k3⟩ := Lv.kid hl (by omega) s1 (by rw [hx, hlv]; omega) hk4
            rw [hx] at k1 k2 k3
            have := hrec (w, (L[m].kid (qk (w + 1) a b)).toNat, qd (w + 1) a, qd (w + 1) b, G ++ [Blk.cel 0 (bigC (qd (w + 1) a)), .cel 0 (bigC (qd (w + 1) b))]) ⟨k1, by dsimp only; omega, qd_sb s3, qd_sb s4⟩ (by dsimp only; omega)
            rw [show (((L[m].kid (qk (w + 1) a b)).toNat : Nat) : Int) = L[m].kid (qk (w + 1) a b) from by omega] at this
            exact this
end Go.Gm
/- Chapter 9 of the document: how far cells are from a side. -/
namespace Go.Gm
set_option linter.unusedVariables false
set_option linter.unusedSimpArgs false
/-- A number in a row that was made: none yet, or one. -/
def cBO : Option Int → List AVal
  | none => [.bool false, .sl [] .tight]
  | some z => bigC z
instance : Sz cBO 2 := ⟨fun a => by cases a <;> rfl⟩
instance : Pl cBO := ⟨fun a => by cases a <;> rfl⟩
def bo (a : Option Int) : Int := a.getD 0
theorem acells_BO (z : Int) : (big z).acells = some (cBO (some z)) := big_acells z
theorem addO (a b : Option Int) (H : AHeap) (ha : LB (bo a)) (hb : LB (bo b)) : Sh.gliderref02_Add (.agg (cBO a)) (.agg (cBO b)) H = some (.ret (big (bo a + bo b)), H) := by
  have e : ∀ a : Option Int, LB (bo a) → ∃ n l tk, cBO a = [.bool n, .sl (enL cU l) tk] ∧ l.length ≤ 549755813888 ∧ Lim l ∧ bigI n l = bo a := by
    intro a h
    cases a with
    | none => exact ⟨false, [], .tight, rfl, by simp, (fun x hx => by simp at hx), rfl⟩
    | some z => exact ⟨decide (z < 0), lims z.natAbs, .no, rfl, h, lim_lims _, bigI_of z⟩
  obtain ⟨n1, l1, t1, e1, b1, x1, i1⟩ := e a ha
  obtain ⟨n2, l2, t2, e2, b2, x2, i2⟩ := e b hb
  rw [e1, e2, q02_add _ _ _ _ _ _ _ b1 b2 x1 x2, i1, i2]
def edgeJ (nf : Nat → Nat) (E : List (Option Int)) (x : Nd) (j : Nat) : Int :=
  (if 1 < j then 2 ^ (x.lv.toNat - 1) else 0) + (if 1 < x.lv then bo (E.getD (x.kid (nf j)).toNat none) else 0)
/-- The same as the row has it. -/
def edgeD (nf : Nat → Nat) (E : List (Option Int)) (x : Nd) (j : Nat) : Option Int :=
  if 1 < x.lv then some (edgeJ nf E x j) else if 1 < j then some (2 ^ (x.lv.toNat - 1)) else none
theorem edgeD_bo (nf : Nat → Nat) (E : List (Option Int)) (x : Nd) (j : Nat) : bo (edgeD nf E x j) = edgeJ nf E x j := by
  unfold edgeD
  split
  · rfl
  · rename_i h
    unfold edgeJ
    rw [if_neg h]
    split <;> simp [bo]
/-- Was one found, and the first cell's distance, by the first j quarters. -/
def edgeK (nf : Nat → Nat) (E : List (Option Int)) (x : Nd) : Nat → Bool × Option Int
  | 0 => (false, none)
  | j + 1 => if x.kid (nf j) = 0 then edgeK nf E x j
    else if (edgeK nf E x j).1 = false ∨ edgeJ nf E x j < bo (edgeK nf E x j).2 then (true, edgeD nf E x j) else edgeK nf E x j
def edgeL (nf : Nat → Nat) (L : List Nd) : List (Option Int) := L.foldl (fun E x => E ++ [(edgeK nf E x 4).2]) [none]
theorem edgeL_snoc (nf : Nat → Nat) (L : List Nd) (x : Nd) : edgeL nf (L ++ [x]) = edgeL nf L ++ [(edgeK nf (edgeL nf L) x 4).2] := by simp [edgeL]
theorem edgeL_len (nf : Nat → Nat) (L : List Nd) : (edgeL nf L).length = L.length + 1 := by
  have key : ∀ (l : List Nd) (E : List (Option Int)), (l.foldl (fun E x => E ++ [(edgeK nf E x 4).2]) E).length = l.length + E.length := by
    intro l
    induction l with
    | nil => intro E; simp
    | cons a l ih => intro E; simp only [List.foldl_cons, ih]; simp; omega
  unfold edgeL; rw [key]; simp
theorem edgeL_take (nf : Nat → Nat) (L : List Nd) {i : Nat} (hi : i < L.length) : edgeL nf (L.take (i + 1)) = edgeL nf (L.take i) ++ [(edgeK nf (edgeL nf (L.take i)) L[i] 4).2] := by
  rw [List.take_succ_eq_append_getElem hi, edgeL_snoc]
/-- Distances are below a node's width. -/
def EB (L : List Nd) (E : List (Option Int)) : Prop := ∀ (m : Nat) (x : Nd) (o : Option Int), L[m]? = some x → E[m + 1]? = some o → 0 ≤ bo o ∧ bo o < 2 ^ x.lv.toNat
theorem edgeJ_b {nf : Nat → Nat} {E : List (Option Int)} {x : Nd} {j : Nat} (hx : 1 ≤ x.lv) (hE : 1 < x.lv → 0 ≤ bo (E.getD (x.kid (nf j)).toNat none) ∧ bo (E.getD (x.kid (nf j)).toNat none) < 2 ^ (x.lv.toNat - 1)) : 0 ≤ edgeJ nf E x j ∧ edgeJ nf E x j < 2 ^ x.lv.toNat := by
  unfold edgeJ
  have e : (2 : Int) ^ x.lv.toNat = 2 ^ (x.lv.toNat - 1) * 2 := by rw [← Int.pow_succ]; congr 1; omega
  have hp : (0 : Int) < 2 ^ (x.lv.toNat - 1) := Int.pow_pos (by omega)
  rw [e]
  by_cases h1 : 1 < x.lv
  · obtain ⟨h2, h3⟩ := hE h1
    rw [if_pos h1]
    generalize (2 : Int) ^ (x.lv.toNat - 1) = p at *
    split <;> omega
  · rw [if_neg h1]
    generalize (2 : Int) ^ (x.lv.toNat - 1) = p at *
    split <;> omega
theorem edgeK_b {nf : Nat → Nat} {E : List (Option Int)} {x : Nd} (hb : ∀ j, j < 4 → 0 ≤ edgeJ nf E x j ∧ edgeJ nf E x j < 2 ^ x.lv.toNat) : ∀ j, j ≤ 4 → 0 ≤ bo (edgeK nf E x j).2 ∧ bo (edgeK nf E x j).2 < 2 ^ x.lv.toNat
  | 0, _ => ⟨Int.le_refl _, Int.pow_pos (by omega)⟩
  | j + 1, hj => by
    unfold edgeK
    split
    · exact edgeK_b hb j (by omega)
    · split
      · rw [edgeD_bo]; exact hb j (by omega)
      · exact edgeK_b hb j (by omega)
theorem edge_get {nf : Nat → Nat} (hnf : ∀ j, nf j < 4) {L : List Nd} (hl : looseB L = true) {i : Nat} (hi : i < L.length) (hE : EB (L.take i) (edgeL nf (L.take i))) (j : Nat) (h1 : 1 < L[i].lv) : 0 ≤ bo ((edgeL nf (L.take i)).getD (L[i].kid (nf j)).toNat none) ∧ bo ((edgeL nf (L.take i)).getD (L[i].kid (nf j)).toNat none) < 2 ^ (L[i].lv.toNat - 1) := by
  obtain ⟨l1, l2, l3⟩ := loose_get hl hi
  obtain ⟨q1, q2, q3⟩ := l3 (nf j) (hnf j)
  have hp : (0 : Int) < 2 ^ (L[i].lv.toNat - 1) := Int.pow_pos (by omega)
  by_cases hc : 0 < L[i].kid (nf j)
  · obtain ⟨r1, r2⟩ := q3 h1 hc
    obtain ⟨m, hm⟩ : ∃ m : Nat, (L[i].kid (nf j)).toNat = m + 1 := ⟨(L[i].kid (nf j)).toNat - 1, by omega⟩
    have hmi : m < i := by omega
    have hml : m < L.length := by omega
    have hlen := edgeL_len nf (L.take i)
    rw [List.length_take, Nat.min_eq_left (by omega)] at hlen
    have hlt : m + 1 < (edgeL nf (L.take i)).length := by omega
    have := hE m L[m] _ (by rw [List.getElem?_take_of_lt hmi, List.getElem?_eq_getElem hml]) (List.getElem?_eq_getElem hlt)
    have hlv := r2 L[m] (by rw [show (L[i].kid (nf j) - 1).toNat = m from by omega]; exact List.getElem?_eq_getElem hml)
    rw [hm, List.getD_eq_getElem?_getD, List.getElem?_eq_getElem hlt, show L[i].lv.toNat - 1 = L[m].lv.toNat from by omega]
    exact this
  · rw [show (L[i].kid (nf j)).toNat = 0 from by omega]
    have h0 : (edgeL nf (L.take i)).getD 0 none = none := by
      have key : ∀ (l : List Nd) (E : List (Option Int)), E[0]? = some none → (l.foldl (fun E x => E ++ [(edgeK nf E x 4).2]) E)[0]? = some none := by
        intro l
        induction l with
        | nil => intro E h; exact h
        | cons a l ih => intro E h; exact ih _ (by rw [List.getElem?_append_left (List.getElem?_eq_some_iff.1 h).1]; exact h)
      rw [List.getD_eq_getElem?_getD, show (edgeL nf (L.take i))[0]? = some none from key _ [none] rfl]; rfl
    rw [h0]; exact ⟨Int.le_refl _, hp⟩
theorem edgeL_b {nf : Nat → Nat} (hnf : ∀ j, nf j < 4) {L : List Nd} (hl : looseB L = true) : ∀ i, i ≤ L.length → EB (L.take i) (edgeL nf (L.take i))
  | 0, _ => by intro m x o h; simp at h
  | i + 1, h => by
    have ih := edgeL_b hnf hl i (by omega)
    rw [edgeL_take nf L h]
    intro m x o hx hz
    have hlen := edgeL_len nf (L.take i)
    rw [List.length_take, Nat.min_eq_left (by omega)] at hlen
    by_cases hn : m < i
    · rw [List.getElem?_append_left (by omega)] at hz
      rw [List.getElem?_take_of_lt (by omega)] at hx
      exact ih m x o (by rw [List.getElem?_take_of_lt hn]; exact hx) hz
    · rw [List.getElem?_append_right (by omega), hlen] at hz
      have hmi : m = i := by
        have := (List.getElem?_eq_some_iff.1 hz).1
        simp at this; omega
      subst hmi
      simp only [Nat.sub_self, List.getElem?_cons_zero, Option.some.injEq] at hz
      rw [List.getElem?_take_of_lt (by omega), List.getElem?_eq_getElem h] at hx
      injection hx with hx
      rw [← hx, ← hz]
      exact edgeK_b (fun j _ => edgeJ_b (loose_get hl h).1 (edge_get hnf hl h ih j)) 4 (Nat.le_refl _)
end Go.Gm
/- Chapter 9 of the document: how far cells are from a side: the program's. -/
namespace Go.Gm
set_option linter.unusedVariables false
set_option linter.unusedSimpArgs false
section
variable {len sz id g o m p : Nat} {K : IntKind} {Hc : AHeap} {nf : Nat → Nat}
theorem idx_arr (h : m < len) : idxArr len sz (.ptr id g o) (.int K (m : Int)) = some (.ptr id g (o + m * sz)) := by
  unfold idxArr
  simp only []
  rw [if_pos ⟨by omega, by omega⟩]; simp
def twoC (a b : Nat) : List AVal := [.int .i64 (a : Int), .int .i64 (b : Int)]
theorem load_two {a b : Nat} (hg : Hc[p]? = some (.cel 0 (twoC a b))) (h : m < 2) : loadA false 1 (.ptr p 0 m) Hc = some (.int .i64 ((if m = 0 then a else b : Nat) : Int)) := by
  simp only [loadA, get_cel hg, Option.bind_some, Bool.false_eq_true, if_false]
  match m, h with
  | 0, _ => rfl
  | 1, _ => rfl
theorem load_BOP {a : Option Int} (hg : Hc[p]? = some (.cel 0 (cBO a))) : loadA true 2 (.ptr p 0 0) Hc = some (.agg (cBO a)) := by
  simp only [loadA, get_cel hg, Option.bind_some, if_true]
  cases a <;> rfl
theorem acells_cBO (a : Option Int) : (AVal.agg (cBO a)).acells = some (cBO a) := by cases a <;> rfl
theorem store_BOP {a : Option Int} {cs : List AVal} (hg : Hc[p]? = some (.cel 0 cs)) (hl : cs.length = 2) : storeA 2 (.ptr p 0 0) (.agg (cBO a)) Hc = some (Hc.set p (.cel 0 (cBO a))) := by
  simp only [storeA, get_cel hg, Option.bind_some, acells_cBO, setC_cel hg, putN_all hl]
  rw [if_pos ⟨by cases a <;> rfl, by omega⟩]
end
theorem big_BO (z : Int) : big z = .agg (cBO (some z)) := rfl
theorem last_set2 {B : AHeap} {b b' : Blk} : (B ++ [b]).set B.length b' = B ++ [b'] := last_set
/-- A whole number as the program may have it. -/
def Rep (z : Int) (cs : List AVal) : Prop := ∃ n l tk, cs = [.bool n, .sl (enL cU l) tk] ∧ l.length ≤ 549755813888 ∧ Lim l ∧ bigI n l = z
theorem Rep.big {z : Int} (h : LB z) : Rep z (bigC z) := ⟨decide (z < 0), lims z.natAbs, .no, rfl, h, lim_lims _, bigI_of z⟩
theorem Rep.bo {a : Option Int} (h : LB (bo a)) : Rep (Go.Gm.bo a) (cBO a) := by
  cases a with
  | none => exact ⟨false, [], .tight, rfl, by simp, (fun x hx => by simp at hx), rfl⟩
  | some z => exact Rep.big h
theorem Rep.lb {z : Int} {cs : List AVal} (h : Rep z cs) : LB z := by
  obtain ⟨n, l, tk, _, h2, h3, rfl⟩ := h
  unfold LB
  rw [bigI_abs]
  exact Nat.le_trans (lims_len (val_lt l h3)) h2
theorem addR {a b : Int} {cs ds : List AVal} (ha : Rep a cs) (hb : Rep b ds) (H : AHeap) : Sh.gliderref02_Add (.agg cs) (.agg ds) H = some (.ret (Go.Gm.big (a + b)), H) := by
  obtain ⟨n1, l1, t1, rfl, b1, x1, rfl⟩ := ha
  obtain ⟨n2, l2, t2, rfl, b2, x2, rfl⟩ := hb
  exact q02_add _ _ _ _ _ _ _ b1 b2 x1 x2
theorem minusR {a : Int} {cs : List AVal} (ha : Rep a cs) (H : AHeap) : Sh.gliderref02_Minus (.agg cs) H = some (.ret (Go.Gm.big (-a)), H) := by
  obtain ⟨n1, l1, t1, rfl, b1, x1, rfl⟩ := ha
  exact q02_minus _ _ _ _ (by omega) x1
theorem boxR {a : Int} {cs : List AVal} (ha : Rep a cs) (H : AHeap) : boxA true 2 (.agg cs) H = some (.ptr H.length 0 0, H ++ [.cel 0 cs]) := by
  obtain ⟨n1, l1, t1, rfl, b1, x1, rfl⟩ := ha
  exact box_agg rfl rfl
theorem loadR {a : Int} {cs : List AVal} {H : AHeap} {p : Nat} (ha : Rep a cs) (hg : H[p]? = some (.cel 0 cs)) : loadA true 2 (.ptr p 0 0) H = some (.agg cs) := by
  obtain ⟨n1, l1, t1, rfl, b1, x1, rfl⟩ := ha
  simp only [loadA, get_cel hg, Option.bind_some]; rfl
theorem subR {a b : Int} {cs ds : List AVal} (ha : Rep a cs) (hb : Rep b ds) (H : AHeap) : Sh.gliderref02_Sub (.agg cs) (.agg ds) H = some (.ret (Go.Gm.big (a - b)), H) := by
  unfold Sh.gliderref02_Sub
  have e1 : (H ++ [Blk.cel 0 cs] ++ [Blk.cel 0 ds] ++ [Blk.cel 0 [.bool false, .sl [] .tight]])[H.length]? = some (.cel 0 cs) := by simp
  have e2 : (H ++ [Blk.cel 0 cs] ++ [Blk.cel 0 ds] ++ [Blk.cel 0 [.bool false, .sl [] .tight]])[(H ++ [Blk.cel 0 cs]).length]? = some (.cel 0 ds) := by simp
  have hz := Rep.big hb.lb.neg
  simp only [GMb, joinPt, decide_true, decide_false, if_true, if_false, boxR ha, boxR hb, allocBig, loadR ha e1, loadR hb e2, minusR hb, and_true, eq_self]
  rw [← agg_bigC (-b)]
  simp only [GMb, joinPt, decide_true, decide_false, if_true, if_false, addR ha hz, store_bigP (last_cel (B := H ++ [Blk.cel 0 cs] ++ [Blk.cel 0 ds]) (cs := [.bool false, .sl [] .tight])) rfl, last_set, load_bigP last_cel]
  rw [show a + -b = a - b from rfl]
  simp only [List.append_assoc, rPN_app, fall_big, Option.map_some]
theorem cmpR {a b : Int} {cs ds : List AVal} (ha : Rep a cs) (hb : Rep b ds) (H : AHeap) : Sh.gliderref02_Cmp (.agg cs) (.agg ds) H = some (.ret (.int .i64 (cmpZ a b)), H) := by
  unfold Sh.gliderref02_Cmp
  have e1 : (H ++ [Blk.cel 0 cs] ++ [Blk.cel 0 ds])[H.length]? = some (.cel 0 cs) := by simp
  have e2 : (H ++ [Blk.cel 0 cs] ++ [Blk.cel 0 ds])[(H ++ [Blk.cel 0 cs]).length]? = some (.cel 0 ds) := last_cel
  simp only [GMb, joinPt, decide_true, decide_false, if_true, if_false, boxR ha, boxR hb, loadR ha e1, loadR hb e2, subR ha hb, allocBig]
  generalize hB : H ++ [Blk.cel 0 cs] ++ [Blk.cel 0 ds] = B
  have g0 : loadA false 1 (.ptr B.length 0 0) (B ++ [Blk.cel 0 (bigC (a - b))]) = some (.bool (decide (a - b < 0))) := by
    simp only [loadA, get_cel last_cel, Option.bind_some]; rfl
  have g1 : loadA false 1 (.ptr B.length 0 1) (B ++ [Blk.cel 0 (bigC (a - b))]) = some (.sl (enL cU (lims (a - b).natAbs)) .no) := by
    simp only [loadA, get_cel last_cel, Option.bind_some]; rfl
  have fin : ∀ q : Int, rP H (.int .i64 q) (B ++ [Blk.cel 0 (bigC (a - b))]) = some (.ret (.int .i64 q), H) := fun q => by rw [← hB]; simp only [List.append_assoc]; exact rP_int
  simp only [store_bigP (last_cel (B := B) (cs := [.bool false, .sl [] .tight])) rfl, last_set, GMb, joinPt, decide_true, decide_false, if_true, if_false, fieldAddr_ptr, Nat.zero_add, Nat.add_zero, g0, g1, len_enL]
  unfold cmpZ
  by_cases h0 : a = b
  · subst h0
    have : ((lims (a - a).natAbs).length : Int) = 0 := by rw [Int.sub_self]; simp [lims_zero]
    simp only [this, GMb, joinPt, decide_true, decide_false, if_true, if_false, fin, Int.lt_irrefl]
  · have hne : lims (a - b).natAbs ≠ [] := lims_ne (by omega)
    have hp := List.length_pos_iff.2 hne
    have hz : ¬ ((lims (a - b).natAbs).length : Int) = 0 := by omega
    by_cases hn : a < b
    · have h1 : a - b < 0 := by omega
      simp only [hz, GMb, joinPt, decide_true, decide_false, if_true, if_false, h1, hn, fin]
    · have h1 : ¬ a - b < 0 := by omega
      simp only [hz, GMb, joinPt, decide_true, decide_false, if_true, if_false, h1, hn, h0, fin]
end Go.Gm
/- Chapter 9 of the document: how far cells are from a side: a node's quarters, one by one. -/
namespace Go.Gm
set_option linter.unusedVariables false
set_option linter.unusedSimpArgs false
def moreO (x : Nd) (j : Nat) : Option Int := if 1 < j then some (2 ^ (x.lv.toNat - 1)) else none
theorem boxTwo (a b : Nat) (H : AHeap) : boxA true 2 (.agg (twoC a b)) H = some (.ptr H.length 0 0, H ++ [.cel 0 (twoC a b)]) := box_agg rfl rfl
theorem LB_zero : LB 0 := by unfold LB; simp [lims_zero]
theorem edge_turn {nf : Nat → Nat} (hnf : ∀ j, nf j < 4) {L : List Nd} (tk : Tok) (H Hc : AHeap) (E : List (Option Int)) (i j pN pF id ph : Nat) (hi : i < L.length) (hj : j < 4) (hL : L.length < 549755813888)
    (hE : E.length = L.length + 1) (hlv : 1 ≤ L[i].lv ∧ L[i].lv ≤ 1329) (hkid : 0 ≤ L[i].kid (nf j)) (hin : 1 < L[i].lv → (L[i].kid (nf j)).toNat < E.length ∧ (L[i].kid (nf j)).toNat ≠ i + 1 ∧ LB (bo (E.getD (L[i].kid (nf j)).toNat none)))
    (hJ : LB (edgeJ nf E L[i] j)) (q : Bool × Option Int) (hq : LB (bo q.2)) (hbase : H.length ≤ pN ∧ H.length ≤ pF ∧ H.length ≤ id ∧ H.length ≤ ph) (dN : pN ≠ id) (dF : pF ≠ id) (dH : ph ≠ id)
    (fN : Hc[pN]? = some (.cel 0 (twoC (nf 0) (nf 1)))) (fF : Hc[pF]? = some (.cel 0 (twoC (nf 2) (nf 3)))) (fR : Hc[id]? = some (.cel 0 (flat cBO (E.set (i + 1) q.2)))) (fH : Hc[ph]? = some (.cel 0 (bigC (2 ^ (L[i].lv.toNat - 1))))) (hold : ∀ k, k < H.length → Hc[k]? = H[k]?) (hlen : H.length ≤ Hc.length) :
    ∃ Hd, (∀ rec1 rec2 : LK, Sh.gliderref09_edges_l2 H rec1 rec2 (.sl (enL cNd L) tk) (.ptr pN 0 0) (.ptr pF 0 0) (.ms id 0 0 (L.length + 1) (L.length + 1) 2 true) (.int .i64 (i : Int)) (.ptr ph 0 0) (.bool q.1) (.int .i64 (j : Int)) Hc = rec2 [.sl (enL cNd L) tk, .ptr pN 0 0, .ptr pF 0 0, .ms id 0 0 (L.length + 1) (L.length + 1) 2 true, .int .i64 (i : Int), .ptr ph 0 0, .bool (if L[i].kid (nf j) = 0 then q else if q.1 = false ∨ edgeJ nf E L[i] j < bo q.2 then (true, edgeD nf E L[i] j) else q).1, .int .i64 ((j + 1 : Nat) : Int)] Hd) ∧
      Hd[pN]? = some (.cel 0 (twoC (nf 0) (nf 1))) ∧ Hd[pF]? = some (.cel 0 (twoC (nf 2) (nf 3))) ∧ Hd[id]? = some (.cel 0 (flat cBO (E.set (i + 1) (if L[i].kid (nf j) = 0 then q else if q.1 = false ∨ edgeJ nf E L[i] j < bo q.2 then (true, edgeD nf E L[i] j) else q).2))) ∧ Hd[ph]? = some (.cel 0 (bigC (2 ^ (L[i].lv.toNat - 1)))) ∧ (∀ k, k < H.length → Hd[k]? = H[k]?) ∧ H.length ≤ Hd.length := by
  have hj' : (j : Int) < 4 := by omega
  have hws := wrap_succ (show j < 9223372036854775807 by omega)
  have hwi := wrap_succ (show i < 9223372036854775807 by omega)
  have hm2 : j % 2 < 2 := Nat.mod_lt _ (by omega)
  have hrem : (j : Int).tmod 2 = ((j % 2 : Nat) : Int) := rfl
  have hgt : decide ((j : Int) > 1) = decide (1 < j) := by rw [Bool.eq_iff_iff]; simp only [decide_eq_true_eq]; omega
  have hnj : nf j = if 1 < j then (if j % 2 = 0 then nf 2 else nf 3) else (if j % 2 = 0 then nf 0 else nf 1) := by
    match j, hj with
    | 0, _ => rfl
    | 1, _ => rfl
    | 2, _ => rfl
    | 3, _ => rfl
  have hz : buildA (some [(.bool false), (.sl [] .tight)]) [] = some (.agg (cBO none)) := rfl
  -- the first number: 0, or half of the width
  generalize hB : Hc ++ [Blk.cel 0 (cBO (moreO L[i] j))] = B
  have bN : B[pN]? = some (.cel 0 (twoC (nf 0) (nf 1))) := by rw [← hB]; exact get_left fN
  have bF : B[pF]? = some (.cel 0 (twoC (nf 2) (nf 3))) := by rw [← hB]; exact get_left fF
  have bR : B[id]? = some (.cel 0 (flat cBO (E.set (i + 1) q.2))) := by rw [← hB]; exact get_left fR
  have bH : B[ph]? = some (.cel 0 (bigC (2 ^ (L[i].lv.toNat - 1)))) := by rw [← hB]; exact get_left fH
  have bM : B[Hc.length]? = some (.cel 0 (cBO (moreO L[i] j))) := by rw [← hB]; exact last_cel
  have bold : ∀ k, k < H.length → B[k]? = H[k]? := fun k hk => by rw [← hB, List.getElem?_append_left (by omega)]; exact hold k hk
  have bl : B.length = Hc.length + 1 := by rw [← hB]; simp
  suffices hs : ∃ Hd, (∀ rec2 : LK, Sh.gliderref09_edges_j4 H (fun vs H1 => Sh.gliderref09_edges_j3 H rec2 (ag vs 0) (ag vs 1) (ag vs 2) (ag vs 3) (ag vs 4) (ag vs 5) (ag vs 6) (ag vs 7) H1) (.sl (enL cNd L) tk) (.ptr pN 0 0) (.ptr pF 0 0) (.ms id 0 0 (L.length + 1) (L.length + 1) 2 true) (.int .i64 (i : Int)) (.ptr ph 0 0) (.bool q.1) (.int .i64 (j : Int)) (.int .i64 (nf j : Int)) (.ptr Hc.length 0 0) B = rec2 [.sl (enL cNd L) tk, .ptr pN 0 0, .ptr pF 0 0, .ms id 0 0 (L.length + 1) (L.length + 1) 2 true, .int .i64 (i : Int), .ptr ph 0 0, .bool (if L[i].kid (nf j) = 0 then q else if q.1 = false ∨ edgeJ nf E L[i] j < bo q.2 then (true, edgeD nf E L[i] j) else q).1, .int .i64 ((j + 1 : Nat) : Int)] Hd) ∧
      Hd[pN]? = some (.cel 0 (twoC (nf 0) (nf 1))) ∧ Hd[pF]? = some (.cel 0 (twoC (nf 2) (nf 3))) ∧ Hd[id]? = some (.cel 0 (flat cBO (E.set (i + 1) (if L[i].kid (nf j) = 0 then q else if q.1 = false ∨ edgeJ nf E L[i] j < bo q.2 then (true, edgeD nf E L[i] j) else q).2))) ∧ Hd[ph]? = some (.cel 0 (bigC (2 ^ (L[i].lv.toNat - 1)))) ∧ (∀ k, k < H.length → Hd[k]? = H[k]?) ∧ H.length ≤ Hd.length by
    obtain ⟨Hd, h1, h2⟩ := hs
    refine ⟨Hd, fun rec1 rec2 => ?_, h2⟩
    have hst : ∀ a : Option Int, storeA 2 (.ptr Hc.length 0 0) (.agg (cBO a)) (Hc ++ [Blk.cel 0 (cBO none)]) = some (Hc ++ [Blk.cel 0 (cBO a)]) := fun a => by rw [store_BOP (last_cel (B := Hc)) rfl, last_set]
    have halloc : allocA (some [.bool false, .sl [] .tight]) Hc = some (.ptr Hc.length 0 0, Hc ++ [.cel 0 (cBO none)]) := allocBig Hc
    unfold Sh.gliderref09_edges_l2
    simp only [GMb, joinPt, decide_true, decide_false, if_true, if_false, hj', bin_rem (show (2 : Int) ≠ 0 by decide), hrem, idx_arr hm2, Nat.zero_add, Nat.mul_one, load_two fN hm2, hz, halloc, hst, ag_succ, hgt]
    by_cases h1j : 1 < j
    · have hF : (Hc ++ [Blk.cel 0 (cBO none)])[pF]? = some (.cel 0 (twoC (nf 2) (nf 3))) := get_left fF
      have hH : (Hc ++ [Blk.cel 0 (cBO none)])[ph]? = some (.cel 0 (bigC (2 ^ (L[i].lv.toNat - 1)))) := get_left fH
      rw [if_pos h1j] at hnj
      have hmo : moreO L[i] j = some (2 ^ (L[i].lv.toNat - 1)) := by unfold moreO; rw [if_pos h1j]
      simp only [GMb, joinPt, decide_true, decide_false, if_true, if_false, h1j, ag_succ, idx_arr hm2, Nat.zero_add, Nat.mul_one, load_two hF hm2, load_bigP hH]
      rw [big_BO]
      simp only [GMb, joinPt, decide_true, decide_false, if_true, if_false, hst]
      rw [← hmo, hB, ← hnj]
      exact h1 rec2
    · rw [if_neg h1j] at hnj
      have hmo : moreO L[i] j = none := by unfold moreO; rw [if_neg h1j]
      simp only [GMb, joinPt, decide_true, decide_false, if_true, if_false, h1j, ag_succ]
      rw [← hmo, hB, ← hnj]
      exact h1 rec2
  have hnk := hnf j
  have hEl : (E.set (i + 1) q.2).length = L.length + 1 := by simp [hE]
  by_cases hk0 : L[i].kid (nf j) = 0
  · refine ⟨B, fun rec2 => ?_, bN, bF, by rw [if_pos hk0]; exact bR, bH, bold, by omega⟩
    unfold Sh.gliderref09_edges_j4
    simp only [GMb, joinPt, decide_true, decide_false, if_true, if_false, fieldAddr_cptr, fieldAddr_ptr, load_cptr, Nat.zero_add, Nat.add_zero, Nat.mul_one, cNd_0, idx_enL hi, idx_kid hnk, cNd_kid hnk, hk0, ag_succ, Sh.gliderref09_edges_j3, hws]
  · -- the distance
    obtain ⟨c, hc⟩ := Int.eq_ofNat_of_zero_le hkid
    have hct : (L[i].kid (nf j)).toNat = c := by omega
    rw [hct] at hin
    generalize hD : B ++ [Blk.cel 0 (cBO (edgeD nf E L[i] j))] = D
    have dn : D[pN]? = some (.cel 0 (twoC (nf 0) (nf 1))) := by rw [← hD]; exact get_left bN
    have df : D[pF]? = some (.cel 0 (twoC (nf 2) (nf 3))) := by rw [← hD]; exact get_left bF
    have dr : D[id]? = some (.cel 0 (flat cBO (E.set (i + 1) q.2))) := by rw [← hD]; exact get_left bR
    have dh : D[ph]? = some (.cel 0 (bigC (2 ^ (L[i].lv.toNat - 1)))) := by rw [← hD]; exact get_left bH
    have dd : D[B.length]? = some (.cel 0 (cBO (edgeD nf E L[i] j))) := by rw [← hD]; exact last_cel
    have dold : ∀ k, k < H.length → D[k]? = H[k]? := fun k hk => by rw [← hD, List.getElem?_append_left (by omega)]; exact bold k hk
    have dl : D.length = B.length + 1 := by rw [← hD]; simp
    have hidl := (List.getElem?_eq_some_iff.1 dr).1
    have hrowI := idx_ms (sz := 2) (id := id) (n := L.length + 1) (K := .i64) (g := 0) (off := 0) (cap := L.length + 1) (ex := true) (i := i + 1) (by omega)
    rw [Nat.zero_add] at hrowI
    have hldI := load_elA (f := cBO) (sz := 2) (get_cel dr) (i := i + 1) (by omega)
    rw [List.getElem_set_self] at hldI
    have hstI := store_el (f := cBO) (sz := 2) (l := E.set (i + 1) q.2) (i := i + 1) (a := edgeD nf E L[i] j) (v := .agg (cBO (edgeD nf E L[i] j))) (get_cel dr) (by omega) (acells_cBO _)
    rw [setC_cel dr, List.set_set] at hstI
    have hJ' : LB (bo (edgeD nf E L[i] j)) := by rw [edgeD_bo]; exact hJ
    have hcmp := fun H => cmpR (Rep.bo hJ') (Rep.bo hq) H
    simp only [edgeD_bo] at hcmp
    -- behind the distance
    have h5 : ∃ Hd, (∀ rec2 : LK, Sh.gliderref09_edges_j5 H (fun vs H1 => Sh.gliderref09_edges_j3 H rec2 (ag vs 0) (ag vs 1) (ag vs 2) (ag vs 3) (ag vs 4) (ag vs 5) (ag vs 6) (ag vs 7) H1) (.sl (enL cNd L) tk) (.ptr pN 0 0) (.ptr pF 0 0) (.ms id 0 0 (L.length + 1) (L.length + 1) 2 true) (.int .i64 (i : Int)) (.ptr ph 0 0) (.bool q.1) (.int .i64 (j : Int)) (.ptr B.length 0 0) D = rec2 [.sl (enL cNd L) tk, .ptr pN 0 0, .ptr pF 0 0, .ms id 0 0 (L.length + 1) (L.length + 1) 2 true, .int .i64 (i : Int), .ptr ph 0 0, .bool (if q.1 = false ∨ edgeJ nf E L[i] j < bo q.2 then (true, edgeD nf E L[i] j) else q).1, .int .i64 ((j + 1 : Nat) : Int)] Hd) ∧
        Hd[pN]? = some (.cel 0 (twoC (nf 0) (nf 1))) ∧ Hd[pF]? = some (.cel 0 (twoC (nf 2) (nf 3))) ∧ Hd[id]? = some (.cel 0 (flat cBO (E.set (i + 1) (if q.1 = false ∨ edgeJ nf E L[i] j < bo q.2 then (true, edgeD nf E L[i] j) else q).2))) ∧ Hd[ph]? = some (.cel 0 (bigC (2 ^ (L[i].lv.toNat - 1)))) ∧ (∀ k, k < H.length → Hd[k]? = H[k]?) ∧ H.length ≤ Hd.length := by
      have put : (D.set id (.cel 0 (flat cBO (E.set (i + 1) (edgeD nf E L[i] j)))))[pN]? = some (.cel 0 (twoC (nf 0) (nf 1))) ∧ (D.set id (.cel 0 (flat cBO (E.set (i + 1) (edgeD nf E L[i] j)))))[pF]? = some (.cel 0 (twoC (nf 2) (nf 3))) ∧ (D.set id (.cel 0 (flat cBO (E.set (i + 1) (edgeD nf E L[i] j)))))[id]? = some (.cel 0 (flat cBO (E.set (i + 1) (edgeD nf E L[i] j)))) ∧ (D.set id (.cel 0 (flat cBO (E.set (i + 1) (edgeD nf E L[i] j)))))[ph]? = some (.cel 0 (bigC (2 ^ (L[i].lv.toNat - 1)))) ∧ (∀ k, k < H.length → (D.set id (.cel 0 (flat cBO (E.set (i + 1) (edgeD nf E L[i] j)))))[k]? = H[k]?) ∧ H.length ≤ (D.set id (.cel 0 (flat cBO (E.set (i + 1) (edgeD nf E L[i] j))))).length :=
        ⟨by rw [List.getElem?_set_ne dN.symm]; exact dn, by rw [List.getElem?_set_ne dF.symm]; exact df, by rw [List.getElem?_set_self hidl], by rw [List.getElem?_set_ne dH.symm]; exact dh, fun k hk => by rw [List.getElem?_set_ne (by omega)]; exact dold k hk, by simp; omega⟩
      cases hq1 : q.1 with
      | false =>
        rw [if_pos (Or.inl rfl)]
        refine ⟨_, fun rec2 => ?_, put⟩
        unfold Sh.gliderref09_edges_j5
        simp only [GMb, joinPt, decide_true, decide_false, if_true, if_false, load_BOP dd, hwi, hrowI, hstI, ag_succ, Sh.gliderref09_edges_j3, hws]
      | true =>
        by_cases hlt : edgeJ nf E L[i] j < bo q.2
        · rw [if_pos (Or.inr hlt)]
          refine ⟨_, fun rec2 => ?_, put⟩
          unfold Sh.gliderref09_edges_j5
          simp only [GMb, joinPt, decide_true, decide_false, if_true, if_false, load_BOP dd, hwi, hrowI, hldI, hcmp, cmp_lss, hlt, hstI, ag_succ, Sh.gliderref09_edges_j3, hws]
        · rw [if_neg (by intro h; rcases h with h | h; cases h; exact hlt h)]
          refine ⟨D, fun rec2 => ?_, dn, df, dr, dh, dold, by omega⟩
          unfold Sh.gliderref09_edges_j5
          simp only [GMb, joinPt, decide_true, decide_false, if_true, if_false, load_BOP dd, hwi, hrowI, hldI, hcmp, cmp_lss, hlt, ag_succ, Sh.gliderref09_edges_j3, hws, hq1]
    rw [if_neg hk0]
    obtain ⟨Hd, g1, g2⟩ := h5
    refine ⟨Hd, fun rec2 => ?_, g2⟩
    have hk0' : ¬ (c : Int) = 0 := by rw [← hc]; exact hk0
    have hst : ∀ a : Option Int, ∀ cs : Option Int, storeA 2 (.ptr B.length 0 0) (.agg (cBO a)) (B ++ [Blk.cel 0 (cBO cs)]) = some (B ++ [Blk.cel 0 (cBO a)]) := fun a cs => by rw [store_BOP (last_cel (B := B)) (by cases cs <;> rfl), last_set]
    have halloc : allocA (some [.bool false, .sl [] .tight]) B = some (.ptr B.length 0 0, B ++ [.cel 0 (cBO none)]) := allocBig B
    unfold Sh.gliderref09_edges_j4
    simp only [GMb, joinPt, decide_true, decide_false, if_true, if_false, fieldAddr_cptr, fieldAddr_ptr, load_cptr, Nat.zero_add, Nat.add_zero, Nat.mul_one, cNd_0, idx_enL hi, idx_kid hnk, cNd_kid hnk, hc, hk0', load_BOP bM, halloc, hst, ag_succ]
    by_cases h1 : 1 < L[i].lv
    · have h1' : L[i].lv > 1 := h1
      obtain ⟨i1, i2, i3⟩ := hin h1
      have hB1M : (B ++ [Blk.cel 0 (cBO (moreO L[i] j))])[Hc.length]? = some (.cel 0 (cBO (moreO L[i] j))) := get_left bM
      have hB1R : (B ++ [Blk.cel 0 (cBO (moreO L[i] j))])[id]? = some (.cel 0 (flat cBO (E.set (i + 1) q.2))) := get_left bR
      have hrowC := idx_ms (sz := 2) (id := id) (n := L.length + 1) (K := .i64) (g := 0) (off := 0) (cap := L.length + 1) (ex := true) (i := c) (by omega)
      rw [Nat.zero_add] at hrowC
      have hldC := load_elA (f := cBO) (sz := 2) (get_cel hB1R) (i := c) (by omega)
      rw [List.getElem_set_ne (by omega)] at hldC
      have hgd : E.getD c none = E[c] := by rw [List.getD_eq_getElem?_getD, List.getElem?_eq_getElem i1]; rfl
      rw [hgd] at i3
      have hmb : LB (bo (moreO L[i] j)) := by
        unfold moreO
        split
        · exact (sb_half (by omega)).lb (by decide)
        · exact LB_zero
      have hadd := fun H => addR (Rep.bo hmb) (Rep.bo i3) H
      have hsum : bo (moreO L[i] j) + bo E[c] = edgeJ nf E L[i] j := by
        unfold edgeJ moreO
        rw [if_pos h1, hct, hgd]
        split <;> rfl
      have hDd : edgeD nf E L[i] j = some (edgeJ nf E L[i] j) := by unfold edgeD; rw [if_pos h1]
      simp only [GMb, joinPt, decide_true, decide_false, if_true, if_false, h1', load_BOP hB1M, hrowC, hldC, hadd, hsum]
      rw [big_BO, ← hDd]
      simp only [GMb, joinPt, decide_true, decide_false, if_true, if_false, hst, hD, ag_succ]
      exact g1 rec2
    · have h1' : ¬ L[i].lv > 1 := h1
      have hDd : edgeD nf E L[i] j = moreO L[i] j := by unfold edgeD moreO; rw [if_neg h1]
      simp only [GMb, joinPt, decide_true, decide_false, if_true, if_false, h1', ag_succ]
      rw [← hDd, hD]
      exact g1 rec2
end Go.Gm
/- Chapter 9 of the document: how far cells are from a side: the program's. -/
namespace Go.Gm
set_option linter.unusedVariables false
set_option linter.unusedSimpArgs false
theorem lb_below {z : Int} {v : Nat} (h0 : 0 ≤ z) (h : z < 2 ^ v) (hv : v ≤ 1400) : LB z := by
  have h1 := sb_half hv
  have h2 := abs_pow2 v
  unfold SB at h1
  refine LB.of (k := 44) (Nat.lt_of_le_of_lt ?_ h1) (by decide)
  generalize (2 : Int) ^ v = p at *
  omega
theorem q09_edges {nf : Nat → Nat} (hnf : ∀ j, nf j < 4) (L : List Nd) (tk : Tok) (H : AHeap) (hL : L.length < 549755813888) (hl : looseB L = true) :
    Sh.gliderref09_edges (.sl (enL cNd L) tk) (.agg (twoC (nf 0) (nf 1))) (.agg (twoC (nf 2) (nf 3))) H = some (.ret (.sl (enL cBO (edgeL nf L)) .no), H) := by
  unfold Sh.gliderref09_edges
  have hmk := make_flat (f := cBO) (a := none) (n := L.length + 1) (bytes := 32) (H := H ++ [Blk.cel 0 (twoC (nf 0) (nf 1))] ++ [Blk.cel 0 (twoC (nf 2) (nf 3))]) (by omega) (by omega)
  simp only [show cBO none = [AVal.bool false, .sl [] .tight] from rfl] at hmk
  simp only [GMb, joinPt, decide_true, decide_false, if_true, if_false, boxTwo, len_enL, wrap_succ (show L.length < 9223372036854775807 by omega), hmk]
  have l1 : (H ++ [Blk.cel 0 (twoC (nf 0) (nf 1))]).length = H.length + 1 := by simp
  have l2 : (H ++ [Blk.cel 0 (twoC (nf 0) (nf 1))] ++ [Blk.cel 0 (twoC (nf 2) (nf 3))]).length = H.length + 2 := by simp
  rw [l1, l2]
  have loop := loop_inv (G := fun rec1 vs Hc => Sh.gliderref09_edges_l1 H rec1 (ag vs 0) (ag vs 1) (ag vs 2) (ag vs 3) (ag vs 4) Hc) L.length
    (fun i vs Hc => vs = [.sl (enL cNd L) tk, .ptr H.length 0 0, .ptr (H.length + 1) 0 0, .ms (H.length + 2) 0 0 (L.length + 1) (L.length + 1) 2 true, .int .i64 (i : Int)] ∧ Hc[H.length]? = some (.cel 0 (twoC (nf 0) (nf 1))) ∧ Hc[H.length + 1]? = some (.cel 0 (twoC (nf 2) (nf 3))) ∧ Hc[H.length + 2]? = some (.cel 0 (flat cBO (edgeL nf (L.take i) ++ List.replicate (L.length - i) none))) ∧ (∀ k, k < H.length → Hc[k]? = H[k]?) ∧ H.length + 3 ≤ Hc.length)
    (by omega) (fun i vs Hc hi hI => ?_) (vs := [.sl (enL cNd L) tk, .ptr H.length 0 0, .ptr (H.length + 1) 0 0, .ms (H.length + 2) 0 0 (L.length + 1) (L.length + 1) 2 true, .int .i64 0])
    (H := H ++ [Blk.cel 0 (twoC (nf 0) (nf 1))] ++ [Blk.cel 0 (twoC (nf 2) (nf 3))] ++ [Blk.cel 0 (flat cBO (List.replicate (L.length + 1) none))])
    ⟨rfl, by simp, by simp, by simp [edgeL, List.replicate_succ], fun k hk => by rw [List.append_assoc, List.append_assoc, List.getElem?_append_left hk], by simp⟩
  · obtain ⟨vs', Hc, ⟨rfl, f1, f2, f3, f4, f5⟩, rec, hloop⟩ := loop
    rw [hloop]
    unfold Sh.gliderref09_edges_l1
    rw [List.take_of_length_le (Nat.le_refl _), Nat.sub_self, List.replicate_zero, List.append_nil] at f3
    have hfa := fall_ms (f := cBO) (b := H.length) (d := 5) (cap := L.length + 1) (ex := true) (get_cel f3) (by omega)
    rw [edgeL_len] at hfa
    simp only [GMb, joinPt, decide_true, decide_false, if_true, if_false, ag_succ, len_enL, Int.lt_irrefl, rPN_eq (take_of_old f4), hfa, Option.map_some]
  · obtain ⟨rfl, f1, f2, f3, f4, f5⟩ := hI
    have hi' : (i : Int) < (L.length : Int) := by omega
    have hwi := wrap_succ (show i < 9223372036854775807 by omega)
    obtain ⟨v1, v2, v3⟩ := loose_get hl hi
    have hw : IntKind.i64.wrap (L[i].lv - 1) = ((L[i].lv.toNat - 1 : Nat) : Int) := by rw [wrap_i64] <;> omega
    have hpow := fun H => q02_pow (L[i].lv.toNat - 1) H (by omega)
    have hEB := edgeL_b hnf hl i (by omega)
    have hlen : (edgeL nf (L.take i)).length = i + 1 := by rw [edgeL_len]; simp; omega
    have s1 : storeA 2 (.ptr Hc.length 0 0) (big (2 ^ (L[i].lv.toNat - 1))) (Hc ++ [.cel 0 [.bool false, .sl [] .tight]]) = some (Hc ++ [.cel 0 (bigC (2 ^ (L[i].lv.toNat - 1)))]) := by rw [store_bigP (last_cel (B := Hc)) rfl, last_set]
    generalize hE : edgeL nf (L.take i) ++ List.replicate (L.length - i) none = E at f3
    have hEl : E.length = L.length + 1 := by rw [← hE]; simp [hlen]; omega
    have hgetE : ∀ c, c ≤ i → E.getD c none = (edgeL nf (L.take i)).getD c none := fun c hc => by
      rw [← hE, List.getD_eq_getElem?_getD, List.getD_eq_getElem?_getD, List.getElem?_append_left (by omega)]
    have hkidle : ∀ j, 1 < L[i].lv → (L[i].kid (nf j)).toNat ≤ i := fun j h1 => by
      obtain ⟨q1, q2, q3⟩ := v3 (nf j) (hnf j)
      by_cases hc : 0 < L[i].kid (nf j)
      · have := (q3 h1 hc).1; omega
      · omega
    have hJeq : ∀ j, edgeJ nf E L[i] j = edgeJ nf (edgeL nf (L.take i)) L[i] j := fun j => by
      unfold edgeJ
      by_cases h1 : 1 < L[i].lv
      · rw [if_pos h1, if_pos h1, hgetE _ (hkidle j h1)]
      · rw [if_neg h1, if_neg h1]
    have hDeq : ∀ j, edgeD nf E L[i] j = edgeD nf (edgeL nf (L.take i)) L[i] j := fun j => by unfold edgeD; rw [hJeq]
    have hKeq : ∀ j, edgeK nf E L[i] j = edgeK nf (edgeL nf (L.take i)) L[i] j := fun j => by
      induction j with
      | zero => rfl
      | succ j ih => unfold edgeK; rw [ih, hJeq, hDeq]
    have hJb : ∀ j, 0 ≤ edgeJ nf E L[i] j ∧ edgeJ nf E L[i] j < 2 ^ L[i].lv.toNat := fun j => by rw [hJeq]; exact edgeJ_b v1 (edge_get hnf hl hi hEB j)
    have hJl : ∀ j, LB (edgeJ nf E L[i] j) := fun j => lb_below (hJb j).1 (hJb j).2 (by omega)
    have hKl : ∀ j, j ≤ 4 → LB (bo (edgeK nf E L[i] j).2) := fun j hj => by
      have := edgeK_b (fun j _ => hJb j) j hj
      exact lb_below this.1 this.2 (by omega)
    have hrep : List.replicate (L.length - i) (none : Option Int) = none :: List.replicate (L.length - (i + 1)) none := by rw [show L.length - i = (L.length - (i + 1)) + 1 from by omega, List.replicate_succ]
    have hset : ∀ o : Option Int, E.set (i + 1) o = edgeL nf (L.take i) ++ o :: List.replicate (L.length - (i + 1)) none := fun o => by
      rw [← hE, hrep, List.set_append_right _ _ (by omega), hlen, Nat.sub_self, List.set_cons_zero]
    have hset0 : E.set (i + 1) (edgeK nf E L[i] 0).2 = E := by rw [hset]; show edgeL nf (L.take i) ++ none :: _ = E; rw [← hrep, hE]
    have turn := fun (j : Nat) (hj : j < 4) (Hd : AHeap) => edge_turn hnf tk H Hd E i j H.length (H.length + 1) (H.length + 2) Hc.length hi hj hL hEl ⟨v1, v2⟩ (v3 (nf j) (hnf j)).1 (fun h1 => ⟨by have := hkidle j h1; omega, by have := hkidle j h1; omega, by
        rw [hgetE _ (hkidle j h1)]
        have := edge_get hnf hl hi hEB j h1
        exact lb_below this.1 this.2 (by omega)⟩) (hJl j) (edgeK nf E L[i] j) (hKl j (by omega)) ⟨by omega, by omega, by omega, by omega⟩ (by omega) (by omega) (by omega)
    have next : ∀ j, (if L[i].kid (nf j) = 0 then edgeK nf E L[i] j else if (edgeK nf E L[i] j).1 = false ∨ edgeJ nf E L[i] j < bo (edgeK nf E L[i] j).2 then (true, edgeD nf E L[i] j) else edgeK nf E L[i] j) = edgeK nf E L[i] (j + 1) := fun j => rfl
    simp only [next] at turn
    obtain ⟨H1, t1, a1, b1, c1, d1, e1, g1⟩ := turn 0 (by omega) (Hc ++ [Blk.cel 0 (bigC (2 ^ (L[i].lv.toNat - 1)))]) (get_left f1) (get_left f2) (by rw [hset0]; exact get_left f3) last_cel (fun k hk => by rw [List.getElem?_append_left (by omega)]; exact f4 k hk) (by simp; omega)
    obtain ⟨H2, t2, a2, b2, c2, d2, e2, g2⟩ := turn 1 (by omega) H1 a1 b1 c1 d1 e1 g1
    obtain ⟨H3, t3, a3, b3, c3, d3, e3, g3⟩ := turn 2 (by omega) H2 a2 b2 c2 d2 e2 g2
    obtain ⟨H4, t4, a4, b4, c4, d4, e4, g4⟩ := turn 3 (by omega) H3 a3 b3 c3 d3 e3 g3
    have hidl := (List.getElem?_eq_some_iff.1 c4).1
    refine ⟨[.sl (enL cNd L) tk, .ptr H.length 0 0, .ptr (H.length + 1) 0 0, .ms (H.length + 2) 0 0 (L.length + 1) (L.length + 1) 2 true, .int .i64 ((i + 1 : Nat) : Int)], H4, ⟨rfl, a4, b4, ?_, e4, by omega⟩, fun rec => ?_⟩
    · rw [c4, edgeL_take nf L hi, hset, ← hKeq]; simp
    · unfold Sh.gliderref09_edges_l1
      simp only [GMb, joinPt, decide_true, decide_false, if_true, if_false, fieldAddr_cptr, fieldAddr_ptr, load_cptr, Nat.zero_add, Nat.add_zero, Nat.mul_one, cNd_0, ag_succ, len_enL, hi', idx_enL hi, hw, hpow, allocBig, s1]
      obtain ⟨n, hn⟩ := fuel_succ 5 (by decide)
      have hf : ¬ (((3 + 1 : Nat) : Int) < 4) := by decide
      rw [hn, show n + 5 = (((n + 1) + 1) + 1 + 1) + 1 from rfl, loop_succ]
      simp only [ag_zero, ag_succ]
      refine (t1 rec _).trans ?_
      rw [loop_succ]
      simp only [ag_zero, ag_succ]
      refine (t2 rec _).trans ?_
      rw [loop_succ]
      simp only [ag_zero, ag_succ]
      refine (t3 rec _).trans ?_
      rw [loop_succ]
      simp only [ag_zero, ag_succ]
      refine (t4 rec _).trans ?_
      rw [loop_succ]
      unfold Sh.gliderref09_edges_l2
      simp only [GMb, joinPt, decide_true, decide_false, if_true, if_false, ag_succ, hf, hwi]
end Go.Gm
/- Chapter 9 of the document: boxes. -/
namespace Go.Gm
set_option linter.unusedVariables false
set_option linter.unusedSimpArgs false
theorem load_left {a : Bool} {sz p g o : Nat} {H G : AHeap} {v : AVal} (h : loadA a sz (.ptr p g o) H = some v) : loadA a sz (.ptr p g o) (H ++ G) = some v := by
  unfold loadA at h ⊢
  simp only at h ⊢
  cases hg : getCells H p g with
  | none => rw [hg] at h; cases h
  | some cs =>
    have : getCells (H ++ G) p g = some cs := by
      have hlt : p < H.length := by
        by_cases hl : p < H.length
        · exact hl
        · unfold getCells at hg; rw [List.getElem?_eq_none (by omega)] at hg; cases hg
      rw [get_old hlt]; exact hg
    rw [this]; rw [hg] at h; exact h
/-- A box as the program has it. -/
def boxC (x y w h : Int) : List AVal := bigC x ++ bigC y ++ bigC w ++ bigC h
def boxV (x y w h : Int) : AVal := .agg (boxC x y w h)
def zBox : List AVal := [.bool false, .sl [] .tight, .bool false, .sl [] .tight, .bool false, .sl [] .tight, .bool false, .sl [] .tight]
def nfW (j : Nat) : Nat := match j with | 0 => 0 | 1 => 2 | 2 => 1 | _ => 3
def nfE (j : Nat) : Nat := match j with | 0 => 1 | 1 => 3 | 2 => 0 | _ => 2
def nfN (j : Nat) : Nat := match j with | 0 => 0 | 1 => 1 | 2 => 2 | _ => 3
def nfS (j : Nat) : Nat := match j with | 0 => 2 | 1 => 3 | 2 => 0 | _ => 1
def edge (nf : Nat → Nat) (L : List Nd) : Option Int := (edgeL nf L).getD L.length none
def bxX (L : List Nd) : Int := -(2 ^ ((topLv L).toNat - 1)) + bo (edge nfW L)
def bxY (L : List Nd) : Int := -(2 ^ ((topLv L).toNat - 1)) + bo (edge nfN L)
def bxW (L : List Nd) : Int := 2 ^ (topLv L).toNat - (bo (edge nfW L) + bo (edge nfE L))
def bxH (L : List Nd) : Int := 2 ^ (topLv L).toNat - (bo (edge nfN L) + bo (edge nfS L))
theorem nfW_lt (j : Nat) : nfW j < 4 := by unfold nfW; split <;> omega
theorem nfE_lt (j : Nat) : nfE j < 4 := by unfold nfE; split <;> omega
theorem nfN_lt (j : Nat) : nfN j < 4 := by unfold nfN; split <;> omega
theorem nfS_lt (j : Nat) : nfS j < 4 := by unfold nfS; split <;> omega
theorem build_two (a b : Nat) : buildA (some [.int .i64 0, .int .i64 0]) [(0, 1, .int .i64 (a : Int)), (1, 1, .int .i64 (b : Int))] = some (.agg (twoC a b)) := by
  simp [buildA, fillA, putN, twoC]
theorem edge_b {nf : Nat → Nat} (hnf : ∀ j, nf j < 4) {L : List Nd} (hl : looseB L = true) (h0 : 0 < L.length) : 0 ≤ bo (edge nf L) ∧ bo (edge nf L) < 2 ^ (topLv L).toNat := by
  have hb := edgeL_b hnf hl L.length (Nat.le_refl _)
  rw [List.take_of_length_le (Nat.le_refl _)] at hb
  have hm : L.length - 1 < L.length := by omega
  have hlt : L.length < (edgeL nf L).length := by rw [edgeL_len]; omega
  have := hb (L.length - 1) L[L.length - 1] (edgeL nf L)[L.length] (List.getElem?_eq_getElem hm) (by rw [show L.length - 1 + 1 = L.length from by omega]; exact List.getElem?_eq_getElem hlt)
  have ht : topLv L = L[L.length - 1].lv := by unfold topLv; rw [ndAt_eq (n := L.length - 1) (by omega) hm]
  unfold edge
  rw [List.getD_eq_getElem?_getD, List.getElem?_eq_getElem hlt, ht]
  exact this
theorem load_row {nf : Nat → Nat} (L : List Nd) (H : AHeap) : (idxSl 2 (.sl (enL cBO (edgeL nf L)) .no) (.int .i64 (L.length : Int))).bind (fun x => loadA true 2 x H) = some (.agg (cBO (edge nf L))) := by
  have hlt : L.length < (edgeL nf L).length := by rw [edgeL_len]; omega
  rw [idx_enL hlt]
  unfold edge
  rw [List.getD_eq_getElem?_getD, List.getElem?_eq_getElem hlt]
  cases (edgeL nf L)[L.length] <;> rfl
end Go.Gm
/- Chapter 9 of the document: boxes: the program's. -/
namespace Go.Gm
set_option linter.unusedVariables false
set_option linter.unusedSimpArgs false
theorem store_lastO (B : AHeap) (o : Option Int) : storeA 2 (.ptr B.length 0 0) (.agg (cBO o)) (B ++ [Blk.cel 0 [.bool false, .sl [] .tight]]) = some (B ++ [Blk.cel 0 (cBO o)]) := by
  rw [store_BOP (last_cel (B := B) (cs := [.bool false, .sl [] .tight])) rfl, last_set]
theorem load_row' {nf : Nat → Nat} (L : List Nd) (H : AHeap) (k : AVal → Out) : ((idxSl 2 (.sl (enL cBO (edgeL nf L)) .no) (.int .i64 (L.length : Int))).bind fun x20 => (loadA true 2 x20 H).bind k) = k (.agg (cBO (edge nf L))) := by
  have hlt : L.length < (edgeL nf L).length := by rw [edgeL_len]; omega
  rw [idx_enL hlt]
  unfold edge
  rw [List.getD_eq_getElem?_getD, List.getElem?_eq_getElem hlt]
  cases (edgeL nf L)[L.length] <;> rfl
theorem edge_lb {nf : Nat → Nat} (hnf : ∀ j, nf j < 4) {L : List Nd} (hl : looseB L = true) (h0 : 0 < L.length) : LB (bo (edge nf L)) := by
  have := edge_b hnf hl h0
  have hle := lv_le hl h0 (Nat.le_refl _)
  exact lb_below this.1 this.2 (Nat.le_trans hle (by omega))
theorem q09_of (L : List Nd) (H : AHeap) (hL : L.length < 549755813888) (hl : looseB L = true) (h0 : L ≠ []) :
    Sh.gliderref09_Of (quad L) H = some (.ret (.tup [boxV (bxX L) (bxY L) (bxW L) (bxH L), .bool true]), H) := by
  have hlen : 0 < L.length := List.length_pos_iff.2 h0
  have hl0 : ¬ ((L.length : Int) = 0) := by omega
  have hLv : Lv L (topLv L).toNat L.length := ⟨Nat.le_refl _, .inr rfl⟩
  obtain ⟨hn1, hn2⟩ := hLv.num hlen hl
  have htop : topLv L = ((topLv L).toNat : Int) := hn1
  have hle : (topLv L).toNat ≤ 1329 := lv_le hl hlen (Nat.le_refl _)
  have bW := edge_lb nfW_lt hl hlen
  have bE := edge_lb nfE_lt hl hlen
  have bN := edge_lb nfN_lt hl hlen
  have bS := edge_lb nfS_lt hl hlen
  have kW := fun H => q09_edges nfW_lt L .no H hL hl
  have kE := fun H => q09_edges nfE_lt L .no H hL hl
  have kN := fun H => q09_edges nfN_lt L .no H hL hl
  have kS := fun H => q09_edges nfS_lt L .no H hL hl
  simp only [nfW, nfE, nfN, nfS] at kW kE kN kS
  have lvl := fun H => q05_level L .no H (show L.length < 17592186044415 by omega)
  rw [← quad_eq] at lvl
  simp only [if_neg h0] at lvl
  unfold Sh.gliderref09_Of
  have hzb : allocA (some [(.bool false), (.sl [] .tight), (.bool false), (.sl [] .tight), (.bool false), (.sl [] .tight), (.bool false), (.sl [] .tight)]) (H ++ [Blk.cel 0 (quadC L)]) = some (.ptr (H ++ [Blk.cel 0 (quadC L)]).length 0 0, H ++ [Blk.cel 0 (quadC L)] ++ [.cel 0 zBox]) := alloc_eq rfl
  simp only [GMb, joinPt, decide_true, decide_false, if_true, if_false, boxQ, hzb]
  generalize h2 : H ++ [Blk.cel 0 (quadC L)] ++ [Blk.cel 0 zBox] = H2
  generalize h1 : (H ++ [Blk.cel 0 (quadC L)]).length = p1
  have n2 : loadA false 1 (.ptr H.length 0 0) H2 = some (.sl (enL cNd L) .no) := load_nodesP (by rw [← h2]; simp)
  have q2 : loadA true 1 (.ptr H.length 0 0) H2 = some (quad L) := load_qP (by rw [← h2]; simp)
  have z2 : H2[p1]? = some (.cel 0 zBox) := by rw [← h2, ← h1]; exact last_cel
  have o2 : ∀ k, k < H.length → H2[k]? = H[k]? := fun k hk => by rw [← h2, List.append_assoc, List.getElem?_append_left hk]
  have p1l : H.length < p1 := by rw [← h1]; simp
  have tw := fun (a b : Nat) => build_two a b
  have t02 := tw 0 2
  have t13 := tw 1 3
  have t01 := tw 0 1
  have t23 := tw 2 3
  simp only [show ((0 : Nat) : Int) = 0 from rfl, show ((1 : Nat) : Int) = 1 from rfl, show ((2 : Nat) : Int) = 2 from rfl, show ((3 : Nat) : Int) = 3 from rfl] at t02 t13 t01 t23
  simp only [GMb, joinPt, decide_true, decide_false, if_true, if_false, fieldAddr_ptr, Nat.zero_add, Nat.add_zero, n2, len_enL, hl0, t02, t13, t01, t23, kW]
  rw [load_row']
  simp only [GMb, joinPt, decide_true, decide_false, if_true, if_false, allocBig, store_lastO]
  generalize h3 : H2 ++ [Blk.cel 0 (cBO (edge nfW L))] = H3
  have n3 : loadA false 1 (.ptr H.length 0 0) H3 = some (.sl (enL cNd L) .no) := by rw [← h3]; exact load_left n2
  have w3 : loadA true 2 (.ptr H2.length 0 0) H3 = some (.agg (cBO (edge nfW L))) := by rw [← h3]; exact load_BOP last_cel
  simp only [GMb, joinPt, decide_true, decide_false, if_true, if_false, fieldAddr_ptr, Nat.zero_add, Nat.add_zero, n3, t02, t13, t01, t23, kE]
  rw [load_row']
  simp only [GMb, joinPt, decide_true, decide_false, if_true, if_false, allocBig, store_lastO]
  generalize h4 : H3 ++ [Blk.cel 0 (cBO (edge nfE L))] = H4
  have n4 : loadA false 1 (.ptr H.length 0 0) H4 = some (.sl (enL cNd L) .no) := by rw [← h4]; exact load_left n3
  have e4 : loadA true 2 (.ptr H3.length 0 0) H4 = some (.agg (cBO (edge nfE L))) := by rw [← h4]; exact load_BOP last_cel
  simp only [GMb, joinPt, decide_true, decide_false, if_true, if_false, fieldAddr_ptr, Nat.zero_add, Nat.add_zero, n4, t02, t13, t01, t23, kN]
  rw [load_row']
  simp only [GMb, joinPt, decide_true, decide_false, if_true, if_false, allocBig, store_lastO]
  generalize h5 : H4 ++ [Blk.cel 0 (cBO (edge nfN L))] = H5
  have n5 : loadA false 1 (.ptr H.length 0 0) H5 = some (.sl (enL cNd L) .no) := by rw [← h5]; exact load_left n4
  have d5 : loadA true 2 (.ptr H4.length 0 0) H5 = some (.agg (cBO (edge nfN L))) := by rw [← h5]; exact load_BOP last_cel
  simp only [GMb, joinPt, decide_true, decide_false, if_true, if_false, fieldAddr_ptr, Nat.zero_add, Nat.add_zero, n5, t02, t13, t01, t23, kS]
  rw [load_row']
  simp only [GMb, joinPt, decide_true, decide_false, if_true, if_false, allocBig, store_lastO]
  generalize h6 : H5 ++ [Blk.cel 0 (cBO (edge nfS L))] = H6
  have q6 : loadA true 1 (.ptr H.length 0 0) H6 = some (quad L) := by rw [← h6, ← h5, ← h4, ← h3]; exact load_left (load_left (load_left (load_left q2)))
  have s6 : loadA true 2 (.ptr H5.length 0 0) H6 = some (.agg (cBO (edge nfS L))) := by rw [← h6]; exact load_BOP last_cel
  have w6 : loadA true 2 (.ptr H2.length 0 0) H6 = some (.agg (cBO (edge nfW L))) := by rw [← h6, ← h5, ← h4]; exact load_left (load_left (load_left w3))
  have e6 : loadA true 2 (.ptr H3.length 0 0) H6 = some (.agg (cBO (edge nfE L))) := by rw [← h6, ← h5]; exact load_left (load_left e4)
  have d6 : loadA true 2 (.ptr H4.length 0 0) H6 = some (.agg (cBO (edge nfN L))) := by rw [← h6]; exact load_left d5
  have z6 : H6[p1]? = some (.cel 0 zBox) := by rw [← h6, ← h5, ← h4, ← h3]; exact get_left (get_left (get_left (get_left z2)))
  have o6 : ∀ k, k < H.length → H6[k]? = H[k]? := fun k hk => by
    have hk2 : k < H2.length := by rw [← h2]; simp; omega
    rw [← h6, ← h5, ← h4, ← h3, List.append_assoc, List.append_assoc, List.append_assoc, List.getElem?_append_left hk2]; exact o2 k hk
  unfold bxX bxY bxW bxH
  generalize hv : (topLv L).toNat = v at *
  have hpw1 := fun H => q02_pow v H (by omega)
  have hpw2 := fun H => q02_pow (v - 1) H (by omega)
  have hw : IntKind.i64.wrap ((v : Int) - 1) = ((v - 1 : Nat) : Int) := wrap_pred (by omega) (by omega)
  have sb1 := (sb_half (show v ≤ 1400 by omega)).lb (show 44 ≤ 549755813888 by decide)
  have sb2 := (sb_half (show v - 1 ≤ 1400 by omega)).lb (show 44 ≤ 549755813888 by decide)
  have hmin := fun H => q02_minusZ (2 ^ (v - 1)) H sb2
  have lB : (H6 ++ [Blk.cel 0 [AVal.bool false, .sl [] .tight]]).length = H6.length + 1 := by simp
  have s0 := fun (z : Int) (c : List AVal) => st0 (Hc := H6) (a := [.bool false, .sl [] .tight]) (c := c) (z := z) rfl
  have s1 := fun (z : Int) (a : List AVal) => st1 (Hc := H6) (a := a) (c := [.bool false, .sl [] .tight]) (z := z) rfl
  rw [htop] at lvl
  simp only [GMb, joinPt, decide_true, decide_false, if_true, if_false, q6, lvl, hpw1, hw, hpw2, hmin, allocBig, lB, s0, s1]
  generalize h8 : H6 ++ [Blk.cel 0 (bigC (2 ^ v))] ++ [Blk.cel 0 (bigC (-(2 ^ (v - 1))))] = H8
  have c8 : loadA true 2 (.ptr (H6.length + 1) 0 0) H8 = some (big (-(2 ^ (v - 1)))) := load_bigP (by rw [← h8]; simp)
  have g8 : loadA true 2 (.ptr H6.length 0 0) H8 = some (big (2 ^ v)) := load_bigP (by rw [← h8]; simp)
  have w8 : loadA true 2 (.ptr H2.length 0 0) H8 = some (.agg (cBO (edge nfW L))) := by rw [← h8]; exact load_left (load_left w6)
  have e8 : loadA true 2 (.ptr H3.length 0 0) H8 = some (.agg (cBO (edge nfE L))) := by rw [← h8]; exact load_left (load_left e6)
  have d8 : loadA true 2 (.ptr H4.length 0 0) H8 = some (.agg (cBO (edge nfN L))) := by rw [← h8]; exact load_left (load_left d6)
  have s8 : loadA true 2 (.ptr H5.length 0 0) H8 = some (.agg (cBO (edge nfS L))) := by rw [← h8]; exact load_left (load_left s6)
  have z8 : H8[p1]? = some (.cel 0 zBox) := by rw [← h8]; exact get_left (get_left z6)
  have o8 : ∀ k, k < H.length → H8[k]? = H[k]? := fun k hk => by
    have hk6 : k < H6.length := by
      have := (List.getElem?_eq_some_iff.1 z6).1; omega
    rw [← h8, List.append_assoc, List.getElem?_append_left hk6]; exact o6 k hk
  have rW := Rep.bo bW
  have rE := Rep.bo bE
  have rN := Rep.bo bN
  have rS := Rep.bo bS
  have rC := Rep.big sb2.neg
  have rG := Rep.big sb1
  have aX := fun H => addR rC rW H
  have aY := fun H => addR rC rN H
  have aWE := fun H => addR rW rE H
  have aNS := fun H => addR rN rS H
  simp only [agg_bigC] at aX aY
  have sumlb : ∀ a b : Int, 0 ≤ a → a < 2 ^ v → 0 ≤ b → b < 2 ^ v → LB (a + b) := fun a b ha1 ha2 hb1 hb2 => lb_below (v := v + 1) (by omega) (by rw [Int.pow_succ]; omega) (by omega)
  have eW := edge_b nfW_lt hl hlen
  have eE := edge_b nfE_lt hl hlen
  have eN := edge_b nfN_lt hl hlen
  have eS := edge_b nfS_lt hl hlen
  rw [hv] at eW eE eN eS
  have bW' := fun H => subR rG (Rep.big (sumlb _ _ eW.1 eW.2 eE.1 eE.2)) H
  have bH' := fun H => subR rG (Rep.big (sumlb _ _ eN.1 eN.2 eS.1 eS.2)) H
  simp only [agg_bigC] at bW' bH'
  simp only [GMb, joinPt, decide_true, decide_false, if_true, if_false, c8, g8, w8, e8, d8, s8, and_true, eq_self, aX, aY, aWE, aNS, bW', bH']
  have hbd : ∀ x y w h : Int, buildA (some [(.bool false), (.sl [] .tight), (.bool false), (.sl [] .tight), (.bool false), (.sl [] .tight), (.bool false), (.sl [] .tight)]) [(0, 2, big x), (2, 2, big y), (4, 2, big w), (6, 2, big h)] = some (boxV x y w h) := fun x y w h => by
    unfold boxV boxC
    simp [buildA, fillA, putN, bigC]
  have hacc : ∀ x y w h : Int, (boxV x y w h).acells = some (boxC x y w h) := fun x y w h => acells_agg (by simp [boxC, bigC])
  have hp1 := (List.getElem?_eq_some_iff.1 z8).1
  have hst : ∀ x y w h : Int, storeA 8 (.ptr p1 0 0) (boxV x y w h) H8 = some (H8.set p1 (.cel 0 (boxC x y w h))) := fun x y w h => by
    simp only [storeA, get_cel z8, Option.bind_some, hacc, setC_cel z8, putN_all (cs := zBox) (sz := 8) rfl]
    rw [if_pos ⟨rfl, by decide⟩]
  have hld : ∀ x y w h : Int, loadA true 8 (.ptr p1 0 0) (H8.set p1 (.cel 0 (boxC x y w h))) = some (boxV x y w h) := fun x y w h => by
    have : (H8.set p1 (.cel 0 (boxC x y w h)))[p1]? = some (.cel 0 (boxC x y w h)) := by rw [List.getElem?_set_self hp1]
    simp only [loadA, get_cel this, Option.bind_some]; rfl
  have htk : ∀ x y w h : Int, (H8.set p1 (.cel 0 (boxC x y w h))).take H.length = H := fun x y w h => take_of_old fun k hk => by
    rw [List.getElem?_set_ne (by omega)]; exact o8 k hk
  have hfp : ∀ (x y w h : Int) (H' : AHeap) (n d : Nat), fpart H' n (d + 3) (boxV x y w h) = some (boxV x y w h) := fun x y w h H' n d => by
    unfold boxV boxC bigC; simp
  simp only [hbd, GMb, joinPt, decide_true, decide_false, if_true, if_false, hst, hld, resM_eq, seqO_cons, seqO_nil, Option.map_some, rPN_eq (htk _ _ _ _), fall_tup, fparts_cons, fparts_nil, hfp, fpart_bool]
end Go.Gm
/- Chapter 9 of the document: small boxes. -/
namespace Go.Gm
set_option linter.unusedVariables false
set_option linter.unusedSimpArgs false
def bx (L : List Nd) (f : List Nd → Int) : Int := if L = [] then 0 else f L
theorem fpart_box (x y w h : Int) (H' : AHeap) (n d : Nat) : fpart H' n (d + 3) (boxV x y w h) = some (boxV x y w h) := by
  unfold boxV boxC bigC; simp
theorem box_acells (x y w h : Int) : (boxV x y w h).acells = some (boxC x y w h) := acells_agg (by simp [boxC, bigC])
theorem alloc_zBox (H : AHeap) : allocA (some [(.bool false), (.sl [] .tight), (.bool false), (.sl [] .tight), (.bool false), (.sl [] .tight), (.bool false), (.sl [] .tight)]) H = some (.ptr H.length 0 0, H ++ [.cel 0 zBox]) := alloc_eq rfl
theorem q09_ofB (L : List Nd) (H : AHeap) (hL : L.length < 549755813888) (hl : looseB L = true) :
    Sh.gliderref09_Of (quad L) H = some (.ret (.tup [boxV (bx L bxX) (bx L bxY) (bx L bxW) (bx L bxH), .bool (decide (L ≠ []))]), H) := by
  unfold bx
  by_cases h0 : L = []
  · subst h0
    unfold Sh.gliderref09_Of
    have n2 : loadA false 1 (.ptr H.length 0 0) (H ++ [Blk.cel 0 (quadC [])] ++ [Blk.cel 0 zBox]) = some (.sl (enL cNd []) .no) := load_nodesP (by simp)
    have hb : buildA (some [(.bool false), (.sl [] .tight), (.bool false), (.sl [] .tight), (.bool false), (.sl [] .tight), (.bool false), (.sl [] .tight)]) [] = some (.agg zBox) := rfl
    have hst : storeA 8 (.ptr (H ++ [Blk.cel 0 (quadC [])]).length 0 0) (.agg zBox) (H ++ [Blk.cel 0 (quadC [])] ++ [Blk.cel 0 zBox]) = some (H ++ [Blk.cel 0 (quadC [])] ++ [Blk.cel 0 zBox]) := by
      have hz : (H ++ [Blk.cel 0 (quadC [])] ++ [Blk.cel 0 zBox])[(H ++ [Blk.cel 0 (quadC [])]).length]? = some (.cel 0 zBox) := last_cel
      simp only [storeA, get_cel hz, Option.bind_some, setC_cel hz, acells_agg (cs := zBox) rfl, putN_all (cs := zBox) (sz := 8) rfl, last_set]
      rfl
    have hld : loadA true 8 (.ptr (H ++ [Blk.cel 0 (quadC [])]).length 0 0) (H ++ [Blk.cel 0 (quadC [])] ++ [Blk.cel 0 zBox]) = some (.agg zBox) := by
      simp only [loadA, get_cel (last_cel (cs := zBox)), Option.bind_some]; rfl
    simp only [GMb, joinPt, decide_true, decide_false, if_true, if_false, boxQ, alloc_zBox, fieldAddr_ptr, Nat.zero_add, n2, len_enL, List.length_nil, show ((0 : Nat) : Int) = 0 from rfl, hb, hst, hld, resM_eq, seqO_cons, seqO_nil, Option.map_some]
    rw [List.append_assoc]
    simp only [rPN_app, fall_tup, fparts_cons, fparts_nil, fpart_agg, zBox, fcells_cons, fcells_nil, fcell_bool, fcell_sl, fpart_bool, obind, Option.map_some]
    rfl
  · rw [q09_of L H hL hl h0]
    simp only [if_false, ne_eq, h0, not_false_eq_true, decide_true]
theorem bx_lb {L : List Nd} (hl : looseB L = true) : LB (bx L bxW) ∧ LB (bx L bxH) := by
  unfold bx
  by_cases h0 : L = []
  · rw [if_pos h0, if_pos h0]; exact ⟨LB_zero, LB_zero⟩
  · rw [if_neg h0, if_neg h0]
    have hlen : 0 < L.length := List.length_pos_iff.2 h0
    have eW := edge_b nfW_lt hl hlen
    have eE := edge_b nfE_lt hl hlen
    have eN := edge_b nfN_lt hl hlen
    have eS := edge_b nfS_lt hl hlen
    have hle : (topLv L).toNat ≤ 1329 := lv_le hl hlen (Nat.le_refl _)
    have key : ∀ a b : Int, 0 ≤ a → a < 2 ^ (topLv L).toNat → 0 ≤ b → b < 2 ^ (topLv L).toNat → LB (2 ^ (topLv L).toNat - (a + b)) := fun a b h1 h2 h3 h4 => by
      have hs := sb_half (show (topLv L).toNat ≤ 1400 by omega)
      have ha := abs_pow2 (topLv L).toNat
      unfold SB at hs
      refine LB.of (k := 44) (Nat.lt_of_le_of_lt ?_ hs) (by decide)
      generalize (2 : Int) ^ (topLv L).toNat = p at *
      omega
    exact ⟨key _ _ eW.1 eW.2 eE.1 eE.2, key _ _ eN.1 eN.2 eS.1 eS.2⟩
def withinQ (L : List Nd) (m : Int) : Bool := decide (bx L bxW ≤ m) && decide (bx L bxH ≤ m)
theorem cmp_leq (a b : Int) : decide (cmpZ a b ≤ 0) = decide (a ≤ b) := by
  unfold cmpZ; rw [Bool.eq_iff_iff]
  split
  · simp; omega
  · split
    · simp; omega
    · simp; omega
theorem LB_i64 {m : Int} (h0 : -9223372036854775808 ≤ m) (h1 : m ≤ 9223372036854775807) : LB m := LB.of (k := 3) (show m.natAbs < 4294967296 ^ 3 by rw [show (4294967296 : Nat) ^ 3 = 79228162514264337593543950336 from by decide]; omega) (by decide)
theorem q09_within (L : List Nd) (m : Int) (H : AHeap) (hL : L.length < 549755813888) (hl : looseB L = true) (h0 : -9223372036854775808 ≤ m) (h1 : m ≤ 9223372036854775807) :
    Sh.gliderref09_Within (quad L) (.int .i64 m) H = some (.ret (.bool (withinQ L m)), H) := by
  unfold Sh.gliderref09_Within withinQ
  have q1 : loadA true 1 (.ptr H.length 0 0) (H ++ [Blk.cel 0 (quadC L)]) = some (quad L) := load_qP last_cel
  obtain ⟨b1, b2⟩ := bx_lb hl
  have hof := fun H => q02_of m H h0 h1
  have cW := fun H => q02_cmpZ (bx L bxW) m H b1 (LB_i64 h0 h1)
  have cH := fun H => q02_cmpZ (bx L bxH) m H b2 (LB_i64 h0 h1)
  simp only [GMb, joinPt, decide_true, decide_false, if_true, if_false, boxQ, q1, q09_ofB L _ hL hl, extract_0, extract_1, alloc_zBox]
  generalize bx L bxX = x
  generalize bx L bxY = y
  generalize bx L bxW = w at *
  generalize bx L bxH = h at *
  generalize hB : H ++ [Blk.cel 0 (quadC L)] = B
  have hst : storeA 8 (.ptr B.length 0 0) (boxV x y w h) (B ++ [Blk.cel 0 zBox]) = some (B ++ [Blk.cel 0 (boxC x y w h)]) := by
    simp only [storeA, get_cel (last_cel (B := B) (cs := zBox)), Option.bind_some, box_acells, setC_cel (last_cel (B := B) (cs := zBox)), putN_all (cs := zBox) (sz := 8) rfl, last_set]
    rfl
  have g4 : loadA true 2 (.ptr B.length 0 4) (B ++ [Blk.cel 0 (boxC x y w h)]) = some (big w) := by
    simp only [loadA, get_cel (last_cel (B := B)), Option.bind_some]; rfl
  have g6 : loadA true 2 (.ptr B.length 0 6) (B ++ [Blk.cel 0 (boxC x y w h)]) = some (big h) := by
    simp only [loadA, get_cel (last_cel (B := B)), Option.bind_some]; rfl
  have fin : ∀ q : Bool, rP H (.bool q) (B ++ [Blk.cel 0 (boxC x y w h)]) = some (.ret (.bool q), H) := fun q => by rw [← hB, List.append_assoc]; exact rP_bool
  simp only [hst, GMb, joinPt, decide_true, decide_false, if_true, if_false, hof, fieldAddr_ptr, Nat.zero_add, g4, g6, and_true, eq_self, cW, cmp_leq]
  cases decide (w ≤ m) with
  | false => simp only [GMb, joinPt, decide_true, decide_false, if_true, if_false, gR_false, and_true, eq_self, fin]
  | true => simp only [GMb, joinPt, decide_true, decide_false, if_true, if_false, hof, fieldAddr_ptr, Nat.zero_add, g6, gR_true, and_true, eq_self, cH, cmp_leq, fin]
end Go.Gm
/- Boxes are not empty. -/
namespace Go.Gm
set_option linter.unusedVariables false
set_option linter.unusedSimpArgs false
theorem edgeK_le {nf : Nat → Nat} {E : List (Option Int)} {x : Nd} : ∀ (n : Nat), n ≤ 4 → ∀ j, j < n → x.kid (nf j) ≠ 0 → (edgeK nf E x n).1 = true ∧ bo (edgeK nf E x n).2 ≤ edgeJ nf E x j
  | 0, _, j, h, _ => by omega
  | n + 1, hn, j, h, hk => by
    unfold edgeK
    by_cases hj : j = n
    · subst hj
      rw [if_neg hk]
      by_cases hc : (edgeK nf E x j).1 = false ∨ edgeJ nf E x j < bo (edgeK nf E x j).2
      · rw [if_pos hc]; exact ⟨rfl, by rw [edgeD_bo]; exact Int.le_refl _⟩
      · rw [if_neg hc]
        have h1 : (edgeK nf E x j).1 = true := by
          cases hq : (edgeK nf E x j).1 with
          | true => rfl
          | false => exact absurd (.inl hq) hc
        have h2 : ¬ edgeJ nf E x j < bo (edgeK nf E x j).2 := fun h => hc (.inr h)
        exact ⟨h1, by omega⟩
    · obtain ⟨i1, i2⟩ := edgeK_le (nf := nf) (E := E) (x := x) n (by omega) j (by omega) hk
      by_cases h0 : x.kid (nf n) = 0
      · rw [if_pos h0]; exact ⟨i1, i2⟩
      · rw [if_neg h0]
        by_cases hc : (edgeK nf E x n).1 = false ∨ edgeJ nf E x n < bo (edgeK nf E x n).2
        · rw [if_pos hc]
          refine ⟨rfl, ?_⟩
          rw [edgeD_bo]
          rcases hc with hc | hc
          · rw [i1] at hc; cases hc
          · omega
        · rw [if_neg hc]; exact ⟨i1, i2⟩
theorem edgeK_none {nf : Nat → Nat} {E : List (Option Int)} {x : Nd} : ∀ (n : Nat), (∀ j, j < n → x.kid (nf j) = 0) → edgeK nf E x n = (false, none)
  | 0, _ => rfl
  | n + 1, h => by
    unfold edgeK
    rw [if_pos (h n (by omega))]
    exact edgeK_none n fun j hj => h j (by omega)
/-- Two sides that lie opposite. -/
def Opp (nf nf' : Nat → Nat) : Prop := (∀ j, nf j < 4) ∧ (∀ j, nf' j < 4) ∧ ∀ k, k < 4 → ∃ j1 j2, j1 < 4 ∧ j2 < 4 ∧ nf j1 = k ∧ nf' j2 = k ∧ (1 < j1 ↔ ¬ 1 < j2)
theorem oppWE : Opp nfW nfE := ⟨nfW_lt, nfE_lt, fun k hk => by
  match k, hk with
  | 0, _ => exact ⟨0, 2, by decide, by decide, rfl, rfl, by decide⟩
  | 1, _ => exact ⟨2, 0, by decide, by decide, rfl, rfl, by decide⟩
  | 2, _ => exact ⟨1, 3, by decide, by decide, rfl, rfl, by decide⟩
  | 3, _ => exact ⟨3, 1, by decide, by decide, rfl, rfl, by decide⟩⟩
theorem oppNS : Opp nfN nfS := ⟨nfN_lt, nfS_lt, fun k hk => by
  match k, hk with
  | 0, _ => exact ⟨0, 2, by decide, by decide, rfl, rfl, by decide⟩
  | 1, _ => exact ⟨1, 3, by decide, by decide, rfl, rfl, by decide⟩
  | 2, _ => exact ⟨2, 0, by decide, by decide, rfl, rfl, by decide⟩
  | 3, _ => exact ⟨3, 1, by decide, by decide, rfl, rfl, by decide⟩⟩
theorem edge_zero (nf : Nat → Nat) (L : List Nd) : (edgeL nf L).getD 0 none = none := by
  have key : ∀ (l : List Nd) (E : List (Option Int)), E[0]? = some none → (l.foldl (fun E x => E ++ [(edgeK nf E x 4).2]) E)[0]? = some none := by
    intro l
    induction l with
    | nil => intro E h; exact h
    | cons a l ih => intro E h; exact ih _ (by rw [List.getElem?_append_left (List.getElem?_eq_some_iff.1 h).1]; exact h)
  rw [List.getD_eq_getElem?_getD, show (edgeL nf L)[0]? = some none from key _ [none] rfl]; rfl
theorem edge_sum {nf nf' : Nat → Nat} (ho : Opp nf nf') {L : List Nd} (hl : looseB L = true) : ∀ i, i ≤ L.length → ∀ m x, m < i → L[m]? = some x → bo ((edgeL nf (L.take i)).getD (m + 1) none) + bo ((edgeL nf' (L.take i)).getD (m + 1) none) < 2 ^ x.lv.toNat
  | 0, _, m, x, h, _ => by omega
  | i + 1, h, m, x, hm, hx => by
    have ih := edge_sum ho hl i (by omega)
    have len : ∀ nf : Nat → Nat, (edgeL nf (L.take i)).length = i + 1 := fun nf => by rw [edgeL_len]; simp; omega
    rw [edgeL_take nf L h, edgeL_take nf' L h]
    by_cases hmi : m < i
    · rw [List.getD_eq_getElem?_getD, List.getD_eq_getElem?_getD, List.getElem?_append_left (by rw [len]; omega), List.getElem?_append_left (by rw [len]; omega), ← List.getD_eq_getElem?_getD, ← List.getD_eq_getElem?_getD]
      exact ih m x hmi hx
    · have e : m = i := by omega
      subst e
      rw [List.getElem?_eq_getElem h] at hx
      injection hx with hx
      rw [List.getD_eq_getElem?_getD, List.getD_eq_getElem?_getD, List.getElem?_append_right (by rw [len]; omega), List.getElem?_append_right (by rw [len]; omega), len, len, Nat.sub_self]
      simp only [List.getElem?_cons_zero, Option.getD_some]
      obtain ⟨v1, v2, v3⟩ := loose_get hl h
      rw [hx] at v1 v2 v3 ⊢
      have hp : (0 : Int) < 2 ^ (x.lv.toNat - 1) := Int.pow_pos (by omega)
      have e2 : (2 : Int) ^ x.lv.toNat = 2 ^ (x.lv.toNat - 1) * 2 := by rw [← Int.pow_succ]; congr 1; omega
      by_cases hall : ∀ k, k < 4 → x.kid k = 0
      · rw [edgeK_none 4 fun j _ => hall _ (ho.1 j), edgeK_none 4 fun j _ => hall _ (ho.2.1 j), e2]
        show (0 : Int) + 0 < _
        omega
      · obtain ⟨k, hk⟩ := Classical.not_forall.1 hall
        obtain ⟨hk4, hkn⟩ := Classical.not_imp.1 hk
        obtain ⟨j1, j2, l1, l2, n1, n2, hop⟩ := ho.2.2 k hk4
        have a1 := (edgeK_le (nf := nf) (E := edgeL nf (L.take m)) (x := x) 4 (Nat.le_refl _) j1 l1 (by rw [n1]; exact hkn)).2
        have a2 := (edgeK_le (nf := nf') (E := edgeL nf' (L.take m)) (x := x) 4 (Nat.le_refl _) j2 l2 (by rw [n2]; exact hkn)).2
        refine Int.lt_of_le_of_lt (Int.add_le_add a1 a2) ?_
        unfold edgeJ
        rw [n1, n2, e2]
        have hsum : (1 < x.lv → bo ((edgeL nf (L.take m)).getD (x.kid k).toNat none) + bo ((edgeL nf' (L.take m)).getD (x.kid k).toNat none) < 2 ^ (x.lv.toNat - 1)) := by
          intro h1
          obtain ⟨q1, q2, q3⟩ := v3 k hk4
          obtain ⟨r1, r2⟩ := q3 h1 (by omega)
          obtain ⟨c, hc⟩ : ∃ c : Nat, (x.kid k).toNat = c + 1 := ⟨(x.kid k).toNat - 1, by omega⟩
          have hcl : c < L.length := by omega
          have hlv := r2 L[c] (by rw [show (x.kid k - 1).toNat = c from by omega]; exact List.getElem?_eq_getElem hcl)
          have := ih c L[c] (by omega) (List.getElem?_eq_getElem hcl)
          rw [hc, show x.lv.toNat - 1 = L[c].lv.toNat from by omega]
          exact this
        by_cases h1 : 1 < x.lv
        · have hs := hsum h1
          rw [if_pos h1, if_pos h1]
          generalize (2 : Int) ^ (x.lv.toNat - 1) = p at *
          by_cases hj : 1 < j1
          · rw [if_pos hj, if_neg (hop.1 hj)]; omega
          · have hj2 : 1 < j2 := Classical.byContradiction fun h => hj (hop.2 h)
            rw [if_neg hj, if_pos hj2]; omega
        · rw [if_neg h1, if_neg h1]
          generalize (2 : Int) ^ (x.lv.toNat - 1) = p at *
          by_cases hj : 1 < j1
          · rw [if_pos hj, if_neg (hop.1 hj)]; omega
          · have hj2 : 1 < j2 := Classical.byContradiction fun h => hj (hop.2 h)
            rw [if_neg hj, if_pos hj2]; omega
theorem bx_pos {L : List Nd} (hl : looseB L = true) (h0 : L ≠ []) : 1 ≤ bxW L ∧ 1 ≤ bxH L := by
  have hlen : 0 < L.length := List.length_pos_iff.2 h0
  have hm : L.length - 1 < L.length := by omega
  have ht : topLv L = L[L.length - 1].lv := by unfold topLv; rw [ndAt_eq (n := L.length - 1) (by omega) hm]
  have key : ∀ nf nf' : Nat → Nat, Opp nf nf' → bo (edge nf L) + bo (edge nf' L) < 2 ^ (topLv L).toNat := fun nf nf' ho => by
    have := edge_sum ho hl L.length (Nat.le_refl _) (L.length - 1) L[L.length - 1] hm (List.getElem?_eq_getElem hm)
    rw [List.take_of_length_le (Nat.le_refl _), show L.length - 1 + 1 = L.length from by omega] at this
    rw [ht]; exact this
  have k1 := key _ _ oppWE
  have k2 := key _ _ oppNS
  unfold bxW bxH
  generalize (2 : Int) ^ (topLv L).toNat = p at *
  omega
end Go.Gm
/- Rows of any elements that grow, in a heap; rows of bytes as texts. -/
namespace Go.Gm
set_option linter.unusedVariables false
set_option linter.unusedSimpArgs false
section
variable {α : Type} {f : α → List AVal} {ty : TypeId} {sz : Nat}
/-- A row that grows, in a heap. -/
def RS (f : α → List AVal) (ty : TypeId) (sz b : Nat) (out : List α) (v : AVal) (H : AHeap) : Prop := (out = [] ∧ v = .sl [] .tight) ∨ ∃ t, b ≤ t ∧ v = .sl (enL f out) (.own t) ∧ H[t]? = some (.tok out.length ty sz)
theorem RS.sl {b : Nat} {out : List α} {v : AVal} {H : AHeap} (h : RS f ty sz b out v H) : ∃ tk, v = .sl (enL f out) tk := by
  rcases h with ⟨rfl, rfl⟩ | ⟨t, _, rfl, _⟩
  · exact ⟨_, rfl⟩
  · exact ⟨_, rfl⟩
theorem RS.left {b : Nat} {out : List α} {v : AVal} {H : AHeap} (h : RS f ty sz b out v H) (G : AHeap) : RS f ty sz b out v (H ++ G) := by
  rcases h with h1 | ⟨t, h1, h2, h3⟩
  · exact .inl h1
  · exact .inr ⟨t, h1, h2, get_left h3⟩
theorem RS.put {b p : Nat} {out : List α} {v : AVal} {H : AHeap} {c c' : List AVal} (h : RS f ty sz b out v H) (hp : H[p]? = some (.cel 0 c)) : RS f ty sz b out v (H.set p (.cel 0 c')) := by
  rcases h with h1 | ⟨t, h1, h2, h3⟩
  · exact .inl h1
  · refine .inr ⟨t, h1, h2, ?_⟩
    have : p ≠ t := fun e => by rw [← e, hp] at h3; cases h3
    rw [List.getElem?_set_ne this]; exact h3
theorem RS.snoc [hf : Sz f sz] {bytes b : Nat} {out : List α} {v : AVal} {H : AHeap} (h : RS f ty sz b out v H) (hb : b ≤ H.length) (x : α) (tk : Tok) (hl : (out.length + 1) * bytes ≤ 140737488355328) (hl2 : out.length + 1 ≤ 140737488355328) :
    ∃ v' H', appendA ty sz bytes v (.sl (enL f [x]) tk) H = some (v', H') ∧ RS f ty sz b (out ++ [x]) v' H' ∧ Kp b H H' := by
  rcases h with ⟨rfl, rfl⟩ | ⟨t, h1, rfl, h3⟩
  · have := append_tight (f := f) (l := []) (m := [x]) (ty := ty) (bytes := bytes) (tk := tk) (H := H) (by simp) (by simpa using hl) (by simp)
    exact ⟨_, _, this, .inr ⟨H.length, hb, rfl, by simp⟩, Kp.app hb _⟩
  · have := append_own (f := f) (l := out) (m := [x]) (ty := ty) (bytes := bytes) (tk := tk) (H := H) (t := t) (by simp) h3 (by simpa using hl) (by simpa using hl2)
    have htl := (List.getElem?_eq_some_iff.1 h3).1
    refine ⟨_, _, this, .inr ⟨t, h1, rfl, by simp [htl]⟩, ⟨by simp, fun i cs hc => ?_, fun i hi => ?_⟩⟩
    · have : t ≠ i := fun e => by rw [← e, h3] at hc; cases hc
      rw [List.getElem?_set_ne this]; exact hc
    · rw [List.getElem?_set_ne (by omega)]
end
theorem bytesC_flat : ∀ l : List UInt8, bytesOfCells (flat cY l) = some l
  | [] => rfl
  | b :: l => by
    have := bytesC_flat l
    rw [flat_cons]
    show bytesOfCells (.int .u8 (b.toNat : Int) :: flat cY l) = _
    simp only [bytesOfCells, this, Option.map_some]
    simp
theorem toStr_ms {l : List UInt8} {H : AHeap} {id : Nat} (hg : getCells H id 0 = some (flat cY l)) : convToStr (.ms id 0 0 l.length l.length 1 true) H = some (.str l) := by
  have hl := flat_len (f := cY) l
  rw [Nat.mul_one] at hl
  simp only [convToStr, if_true, hg, Option.bind_some, Nat.zero_add, hl, Nat.le_refl, List.drop_zero, List.take_of_length_le (Nat.le_of_eq hl), bytesC_flat, Option.map_some]
end Go.Gm
/- Chapter 10 of the document: a row of a grid. -/
namespace Go.Gm
set_option linter.unusedVariables false
set_option linter.unusedSimpArgs false
/-- A cell's state as a byte. -/
def cellB (L : List Nd) (X Y : Int) (y x : Nat) : UInt8 := UInt8.ofNat (getZ L (X + (x : Int)) (Y + (y : Int))).toNat
def rowL (L : List Nd) (X Y : Int) (w y : Nat) : List UInt8 := (List.range w).map (cellB L X Y y)
theorem getZ_st {L : List Nd} (hl : looseB L = true) (x y : Int) : St (getZ L x y) := by
  unfold getZ
  split
  · exact ⟨Int.le_refl _, by show (0 : Int) ≤ 255; decide⟩
  · split
    · exact getF_st hl _ _ _ _ ⟨Nat.le_refl _, .inr rfl⟩
    · exact ⟨Int.le_refl _, by show (0 : Int) ≤ 255; decide⟩
theorem cellB_nat {L : List Nd} (hl : looseB L = true) (X Y : Int) (y x : Nat) : ((cellB L X Y y x).toNat : Int) = getZ L (X + (x : Int)) (Y + (y : Int)) := by
  have h := getZ_st hl (X + (x : Int)) (Y + (y : Int))
  unfold cellB
  have h1 := h.1
  have h2 := h.2
  rw [UInt8.toNat_ofNat_of_lt' (show (getZ L (X + (x : Int)) (Y + (y : Int))).toNat < 256 by omega)]
  omega
theorem SB_nat {n : Nat} (h : n ≤ 1000) : SB 44 (n : Int) := by
  unfold SB
  have h1 : (4294967296 : Nat) ^ 1 ≤ 4294967296 ^ 44 := pow_le32 (by omega)
  omega
theorem grid_row (H : AHeap) (rec1 : LK) (L : List Nd) (X Y : Int) (w h y p3 p5 p28 p54 : Nat) (Hc : AHeap) (out : Out) (hL : L.length < 549755813888) (hl : looseB L = true) (hw : w ≤ 1000) (hy : y ≤ 1000) (sX : SB 44 X) (sY : SB 44 Y)
    (hq : loadA true 1 (.ptr p3 0 0) Hc = some (quad L)) (hX : loadA true 2 (.ptr p28 0 0) Hc = some (big X)) (hY : loadA true 2 (.ptr p28 0 2) Hc = some (big Y))
    (fin : ∀ rec2 : LK, Sh.gliderref10_Of_l2 H rec1 rec2 (.ptr p3 0 0) (.ptr p5 0 0) (.ptr p28 0 0) (.int .i64 (w : Int)) (.int .i64 (h : Int)) (.ptr p54 0 0) (.int .i64 (y : Int)) (.ms Hc.length 0 0 w w 1 true) (.int .i64 (w : Int)) (Hc ++ [.cel 0 (flat cY (rowL L X Y w y))]) = out) :
    loopGen (fun rec2 vs H1 => Sh.gliderref10_Of_l2 H rec1 rec2 (ag vs 0) (ag vs 1) (ag vs 2) (ag vs 3) (ag vs 4) (ag vs 5) (ag vs 6) (ag vs 7) (ag vs 8) H1) FUEL [.ptr p3 0 0, .ptr p5 0 0, .ptr p28 0 0, .int .i64 (w : Int), .int .i64 (h : Int), .ptr p54 0 0, .int .i64 (y : Int), .ms Hc.length 0 0 w w 1 true, .int .i64 0] (Hc ++ [.cel 0 (flat cY (List.replicate w 0))]) = out := by
  have key := loop_up (G := fun rec2 vs H1 => Sh.gliderref10_Of_l2 H rec1 rec2 (ag vs 0) (ag vs 1) (ag vs 2) (ag vs 3) (ag vs 4) (ag vs 5) (ag vs 6) (ag vs 7) (ag vs 8) H1) w
    (fun x => [.ptr p3 0 0, .ptr p5 0 0, .ptr p28 0 0, .int .i64 (w : Int), .int .i64 (h : Int), .ptr p54 0 0, .int .i64 (y : Int), .ms Hc.length 0 0 w w 1 true, .int .i64 (x : Int)]) (fun x => Hc ++ [.cel 0 (flat cY ((List.range x).map (cellB L X Y y) ++ List.replicate (w - x) 0))]) out (by omega) (fun rec2 x hx => ?_) (fun rec2 => ?_)
  · simpa using key
  · have hx' : (x : Int) < (w : Int) := by omega
    have hws := wrap_succ (show x < 9223372036854775807 by omega)
    generalize hR : (List.range x).map (cellB L X Y y) ++ List.replicate (w - x) 0 = R
    have hRl : R.length = w := by rw [← hR]; simp; omega
    have hset : R.set x (cellB L X Y y x) = (List.range (x + 1)).map (cellB L X Y y) ++ List.replicate (w - (x + 1)) 0 := by
      rw [← hR, List.set_append_right _ _ (by simp), show w - x = (w - (x + 1)) + 1 from by omega, List.replicate_succ]
      simp [List.range_succ]
    rw [← hset]
    have ox := fun H => q02_of (x : Int) H (by omega) (by omega)
    have oy := fun H => q02_of (y : Int) H (by omega) (by omega)
    have sx := SB_nat (show x ≤ 1000 by omega)
    have sy := SB_nat hy
    have ax := fun H => q02_addZ X (x : Int) H (sX.lb (by decide)) (sx.lb (by decide))
    have ay := fun H => q02_addZ Y (y : Int) H (sY.lb (by decide)) (sy.lb (by decide))
    have hget := fun H => q08_get L (X + (x : Int)) (Y + (y : Int)) H (by omega) hl ((sX.add sx).mono (by omega)) ((sY.add sy).mono (by omega))
    have g1 := load_left (G := [Blk.cel 0 (flat cY R)]) hq
    have g2 := load_left (G := [Blk.cel 0 (flat cY R)]) hX
    have g3 := load_left (G := [Blk.cel 0 (flat cY R)]) hY
    have hidx := idx_ms (sz := 1) (id := Hc.length) (n := w) (K := .i64) (g := 0) (off := 0) (cap := w) (ex := true) (i := x) hx
    simp only [Nat.zero_add, Nat.mul_one] at hidx
    have hst := store_el (f := cY) (sz := 1) (l := R) (i := x) (a := cellB L X Y y x) (v := .int .u8 (getZ L (X + (x : Int)) (Y + (y : Int)))) (H := Hc ++ [Blk.cel 0 (flat cY R)]) (id := Hc.length) (get_cel last_cel) (by omega) (by rw [← cellB_nat hl]; rfl)
    rw [Nat.mul_one, setC_cel last_cel, last_set] at hst
    unfold Sh.gliderref10_Of_l2
    simp only [GMb, joinPt, decide_true, decide_false, if_true, if_false, ag_succ, hx', ox, fieldAddr_ptr, Nat.zero_add, g1, g2, g3, and_true, eq_self, ax, oy, ay, hget, hidx, hst, hws]
  · rw [Nat.sub_self, List.replicate_zero, List.append_nil]
    exact fin rec2
end Go.Gm
/- Chapter 10 of the document: the grid of a quad. -/
namespace Go.Gm
set_option linter.unusedVariables false
set_option linter.unusedSimpArgs false
def gridT (X Y : Int) (v : AVal) : List AVal := bigC X ++ bigC Y ++ [v]
/-- A grid as it is handed back. -/
def gridV (X Y : Int) (rows : List (List UInt8)) : AVal := .agg (gridT X Y (.sl (enL cS rows) .no))
def zGrid : List AVal := [.bool false, .sl [] .tight, .bool false, .sl [] .tight, .sl [] .tight]
def rowsL (L : List Nd) (X Y : Int) (w n : Nat) : List (List UInt8) := (List.range n).map (rowL L X Y w)
theorem fpart_grid (X Y : Int) (es : List (List AVal)) (tk : Tok) (H' : AHeap) (n d : Nat) : fpart H' n (d + 3) (.agg (gridT X Y (.sl es tk))) = some (.agg (gridT X Y (.sl es .no))) := by
  unfold gridT bigC; simp
theorem gridT_scal (X Y : Int) (es : List (List AVal)) (tk : Tok) : (gridT X Y (.sl es tk)).all AVal.isScal = true := by unfold gridT bigC; simp
theorem alloc_zGrid (H : AHeap) : allocA (some [(.bool false), (.sl [] .tight), (.bool false), (.sl [] .tight), (.sl [] .tight)]) H = some (.ptr H.length 0 0, H ++ [.cel 0 zGrid]) := alloc_eq rfl
/-- A grid and an error, handed back. -/
theorem grid_tail {H Hq : AHeap} {p5 : Nat} {X Y : Int} {es : List (List AVal)} {tk : Tok} {e : Int} {c : List AVal} (hp : H.length ≤ p5) (hc : Hq[p5]? = some (.cel 0 c)) (hl : c.length = 5) (hold : ∀ i, i < H.length → Hq[i]? = H[i]?) :
    (bP H (retH (storeA 5 (.ptr p5 0 0) (.agg (gridT X Y (.sl es tk))) Hq)) fun _ H37 => (resM [loadA true 5 (.ptr p5 0 0) H37, some (.int .i64 e)]).bind fun x38 => rPN H x38 H37) = some (.ret (.tup [.agg (gridT X Y (.sl es .no)), .int .i64 e]), H) := by
  have hcl := (List.getElem?_eq_some_iff.1 hc).1
  have hst : storeA 5 (.ptr p5 0 0) (.agg (gridT X Y (.sl es tk))) Hq = some (Hq.set p5 (.cel 0 (gridT X Y (.sl es tk)))) := by
    simp only [storeA, get_cel hc, Option.bind_some, acells_agg (gridT_scal X Y es tk), setC_cel hc, putN_all (sz := 5) hl]
    rw [if_pos ⟨rfl, by omega⟩]
  have hld : loadA true 5 (.ptr p5 0 0) (Hq.set p5 (.cel 0 (gridT X Y (.sl es tk)))) = some (.agg (gridT X Y (.sl es tk))) := by
    have : (Hq.set p5 (.cel 0 (gridT X Y (.sl es tk))))[p5]? = some (.cel 0 (gridT X Y (.sl es tk))) := by rw [List.getElem?_set_self hcl]
    simp only [loadA, get_cel this, Option.bind_some]; rfl
  have htake : (Hq.set p5 (.cel 0 (gridT X Y (.sl es tk)))).take H.length = H := take_of_old fun i hi => by
    rw [List.getElem?_set_ne (by omega), hold i hi]
  simp only [GMb, joinPt, decide_true, decide_false, if_true, if_false, hst, hld, resM_eq, seqO_cons, seqO_nil, Option.map_some, rPN_eq htake, fall_tup, fparts_cons, fparts_nil, fpart_grid, fpart_int]
theorem zGrid_eq : zGrid.length = 5 := rfl
theorem grid_zero {H Hq : AHeap} {p5 : Nat} {e : Int} (hp : H.length ≤ p5) (hc : Hq[p5]? = some (.cel 0 zGrid)) (hold : ∀ i, i < H.length → Hq[i]? = H[i]?) :
    ((buildA (some [(.bool false), (.sl [] .tight), (.bool false), (.sl [] .tight), (.sl [] .tight)]) []).bind fun x11 => bP H (retH (storeA 5 (.ptr p5 0 0) x11 Hq)) fun _ H37 => (resM [loadA true 5 (.ptr p5 0 0) H37, some (.int .i64 e)]).bind fun x38 => rPN H x38 H37) = some (.ret (.tup [gridV 0 0 [], .int .i64 e]), H) := by
  have hb : buildA (some [(.bool false), (.sl [] .tight), (.bool false), (.sl [] .tight), (.sl [] .tight)]) [] = some (.agg zGrid) := rfl
  have hcl := (List.getElem?_eq_some_iff.1 hc).1
  have hst : storeA 5 (.ptr p5 0 0) (.agg zGrid) Hq = some (Hq.set p5 (.cel 0 zGrid)) := by
    simp only [storeA, get_cel hc, Option.bind_some, acells_agg (cs := zGrid) rfl, setC_cel hc, putN_all (cs := zGrid) (sz := 5) rfl]
    rfl
  have hld : loadA true 5 (.ptr p5 0 0) (Hq.set p5 (.cel 0 zGrid)) = some (.agg zGrid) := by
    have : (Hq.set p5 (.cel 0 zGrid))[p5]? = some (.cel 0 zGrid) := by rw [List.getElem?_set_self hcl]
    simp only [loadA, get_cel this, Option.bind_some]; rfl
  have htake : (Hq.set p5 (.cel 0 zGrid)).take H.length = H := take_of_old fun i hi => by
    rw [List.getElem?_set_ne (by omega), hold i hi]
  simp only [hb, GMb, joinPt, decide_true, decide_false, if_true, if_false, hst, hld, resM_eq, seqO_cons, seqO_nil, Option.map_some, rPN_eq htake, fall_tup, fparts_cons, fparts_nil, fpart_agg]
  simp only [zGrid, obind, Option.map_some, fcells_cons, fcells_nil, fcell_bool, fcell_sl, fpart_int]
  rfl
theorem grid_rows (H : AHeap) (L : List Nd) (X Y : Int) (W Hh : Int) (w h p3 p5 p28 p54 : Nat) (hL : L.length < 549755813888) (hl : looseB L = true) (hw : w ≤ 1000) (hh : h ≤ 1000) (sX : SB 44 X) (sY : SB 44 Y)
    (q3 : H.length ≤ p3) (q5 : H.length ≤ p5) (q28 : H.length ≤ p28) (q54 : H.length ≤ p54) (d3 : p3 ≠ p54) (d5 : p5 ≠ p54) (d28 : p28 ≠ p54) (Hc : AHeap)
    (f3 : Hc[p3]? = some (.cel 0 (quadC L))) (f5 : Hc[p5]? = some (.cel 0 zGrid)) (f28 : Hc[p28]? = some (.cel 0 (boxC X Y W Hh))) (f54 : Hc[p54]? = some (.cel 0 (gridT X Y (.sl [] .tight)))) (hold : ∀ i, i < H.length → Hc[i]? = H[i]?) :
    loopGen (fun rec1 vs H1 => Sh.gliderref10_Of_l1 H rec1 (ag vs 0) (ag vs 1) (ag vs 2) (ag vs 3) (ag vs 4) (ag vs 5) (ag vs 6) H1) FUEL [.ptr p3 0 0, .ptr p5 0 0, .ptr p28 0 0, .int .i64 (w : Int), .int .i64 (h : Int), .ptr p54 0 0, .int .i64 0] Hc = some (.ret (.tup [gridV X Y (rowsL L X Y w h), .int .i64 0]), H) := by
  have hlenc : H.length ≤ Hc.length := by have := (List.getElem?_eq_some_iff.1 f3).1; omega
  have loop := loop_inv (G := fun rec1 vs H1 => Sh.gliderref10_Of_l1 H rec1 (ag vs 0) (ag vs 1) (ag vs 2) (ag vs 3) (ag vs 4) (ag vs 5) (ag vs 6) H1) h
    (fun y vs Hd => ∃ v, vs = [.ptr p3 0 0, .ptr p5 0 0, .ptr p28 0 0, .int .i64 (w : Int), .int .i64 (h : Int), .ptr p54 0 0, .int .i64 (y : Int)] ∧ Hd[p3]? = some (.cel 0 (quadC L)) ∧ Hd[p5]? = some (.cel 0 zGrid) ∧ Hd[p28]? = some (.cel 0 (boxC X Y W Hh)) ∧ Hd[p54]? = some (.cel 0 (gridT X Y v)) ∧ RS cS ty_string 1 H.length (rowsL L X Y w y) v Hd ∧ (∀ i, i < H.length → Hd[i]? = H[i]?) ∧ H.length ≤ Hd.length)
    (by omega) (fun y vs Hd hy hI => ?_) (vs := [.ptr p3 0 0, .ptr p5 0 0, .ptr p28 0 0, .int .i64 (w : Int), .int .i64 (h : Int), .ptr p54 0 0, .int .i64 0]) (H := Hc) ⟨_, rfl, f3, f5, f28, f54, .inl ⟨rfl, rfl⟩, hold, hlenc⟩
  · obtain ⟨vs', Hd, ⟨v, rfl, g3, g5, g28, g54, gR, go, gl⟩, rec, hloop⟩ := loop
    rw [hloop]
    obtain ⟨tk, rfl⟩ := gR.sl
    have hld : loadA true 5 (.ptr p54 0 0) Hd = some (.agg (gridT X Y (.sl (enL cS (rowsL L X Y w h)) tk))) := by
      simp only [loadA, get_cel g54, Option.bind_some]; rfl
    unfold Sh.gliderref10_Of_l1
    simp only [ag_zero, ag_succ, bin_lss, obind, Int.lt_irrefl, decide_false, condA_false, hld]
    exact grid_tail q5 g5 rfl go
  · obtain ⟨v, rfl, g3, g5, g28, g54, gR, go, gl⟩ := hI
    have hy' : (y : Int) < (h : Int) := by omega
    have hws := wrap_succ (show y < 9223372036854775807 by omega)
    have hmk := make_flat (f := cY) (a := 0) (n := w) (bytes := 1) (H := Hd) (by omega) (by omega)
    simp only [show cY 0 = [AVal.int .u8 0] from rfl] at hmk
    have hX : loadA true 2 (.ptr p28 0 0) Hd = some (big X) := by simp only [loadA, get_cel g28, Option.bind_some]; rfl
    have hY : loadA true 2 (.ptr p28 0 2) Hd = some (big Y) := by simp only [loadA, get_cel g28, Option.bind_some]; rfl
    have hrl : (rowL L X Y w y).length = w := by simp [rowL]
    have gR' := gR.left [Blk.cel 0 (flat cY (rowL L X Y w y))]
    have hrn : (rowsL L X Y w y).length = y := by simp [rowsL]
    obtain ⟨v2, He, a1, a2, a3⟩ := gR'.snoc (bytes := 16) (by simp; omega) (rowL L X Y w y) .tight (by omega) (by omega)
    obtain ⟨tk0, rfl⟩ := gR.sl
    obtain ⟨tk2, rfl⟩ := a2.sl
    have e54 := a3.cel p54 _ (get_left g54)
    have e54l := (List.getElem?_eq_some_iff.1 e54).1
    have hsnoc : rowsL L X Y w y ++ [rowL L X Y w y] = rowsL L X Y w (y + 1) := by simp [rowsL, List.range_succ]
    rw [hsnoc] at a1 a2
    have hld4 : loadA false 1 (.ptr p54 0 4) (Hd ++ [Blk.cel 0 (flat cY (rowL L X Y w y))]) = some (.sl (enL cS (rowsL L X Y w y)) tk0) := load_left (by simp only [loadA, get_cel g54, Option.bind_some]; rfl)
    have hst4 : storeA 1 (.ptr p54 0 4) (.sl (enL cS (rowsL L X Y w (y + 1))) tk2) He = some (He.set p54 (.cel 0 (gridT X Y (.sl (enL cS (rowsL L X Y w (y + 1))) tk2)))) := by
      simp only [storeA, get_cel e54, Option.bind_some, acells_sl, setC_cel e54]; rfl
    have hstr := toStr_ms (l := rowL L X Y w y) (H := Hd ++ [Blk.cel 0 (flat cY (rowL L X Y w y))]) (id := Hd.length) (get_cel last_cel)
    rw [hrl] at hstr
    refine ⟨[.ptr p3 0 0, .ptr p5 0 0, .ptr p28 0 0, .int .i64 (w : Int), .int .i64 (h : Int), .ptr p54 0 0, .int .i64 ((y + 1 : Nat) : Int)], He.set p54 (.cel 0 (gridT X Y (.sl (enL cS (rowsL L X Y w (y + 1))) tk2))), ⟨_, rfl, by rw [List.getElem?_set_ne d3.symm]; exact a3.cel _ _ (get_left g3), by rw [List.getElem?_set_ne d5.symm]; exact a3.cel _ _ (get_left g5), by rw [List.getElem?_set_ne d28.symm]; exact a3.cel _ _ (get_left g28), by rw [List.getElem?_set_self e54l], a2.put e54, fun i hi => ?_, ?_⟩, fun rec => ?_⟩
    · rw [List.getElem?_set_ne (by omega), a3.old i hi, List.getElem?_append_left (by omega)]; exact go i hi
    · have := a3.len; simp at this; simp; omega
    · unfold Sh.gliderref10_Of_l1
      simp only [ag_zero, ag_succ, bin_lss, obind, hy', decide_true, condA_true, hmk, afterA_some]
      refine grid_row H rec L X Y w h y p3 p5 p28 p54 Hd _ hL hl hw (by omega) sX sY (load_qP g3) hX hY fun rec2 => ?_
      unfold Sh.gliderref10_Of_l2
      simp only [GMb, joinPt, decide_true, decide_false, if_true, if_false, Int.lt_irrefl, fieldAddr_ptr, Nat.zero_add, hld4, hstr, build_S, a1, hst4, hws]
end Go.Gm
/- Chapter 10 of the document: the grid of a quad: all of it. -/
namespace Go.Gm
set_option linter.unusedVariables false
set_option linter.unusedSimpArgs false
def gridO (L : List Nd) (m : Int) : AVal × Int :=
  if m < 0 ∨ m > 1000 then (gridV 0 0 [], 1)
  else if withinQ L m = false then (gridV 0 0 [], 4)
  else if L = [] then (gridV 0 0 [], 0)
  else (gridV (bxX L) (bxY L) (rowsL L (bxX L) (bxY L) (bxW L).toNat (bxH L).toNat), 0)
theorem bxX_sb {L : List Nd} (hl : looseB L = true) (h0 : L ≠ []) : SB 44 (bxX L) ∧ SB 44 (bxY L) := by
  have hlen : 0 < L.length := List.length_pos_iff.2 h0
  have eW := edge_b nfW_lt hl hlen
  have eN := edge_b nfN_lt hl hlen
  have hLv : Lv L (topLv L).toNat L.length := ⟨Nat.le_refl _, .inr rfl⟩
  obtain ⟨_, hn2⟩ := hLv.num hlen hl
  have hle : (topLv L).toNat ≤ 1329 := lv_le hl hlen (Nat.le_refl _)
  unfold bxX bxY
  generalize (topLv L).toNat = v at *
  obtain ⟨u, rfl⟩ : ∃ u, v = u + 1 := ⟨v - 1, by omega⟩
  rw [Nat.add_sub_cancel]
  have e : (2 : Int) ^ (u + 1) = 2 ^ u * 2 := Int.pow_succ _ _
  have hs := sb_half (show u ≤ 1400 by omega)
  have ha := abs_pow2 u
  have key : ∀ a : Int, 0 ≤ a → a < 2 ^ (u + 1) → SB 44 (-(2 ^ u) + a) := fun a h1 h2 => by
    unfold SB at hs ⊢
    refine Nat.lt_of_le_of_lt ?_ hs
    rw [e] at h2
    generalize (2 : Int) ^ u = p at *
    omega
  exact ⟨key _ eW.1 eW.2, key _ eN.1 eN.2⟩
theorem q10_of (L : List Nd) (m : Int) (H : AHeap) (hL : L.length < 549755813888) (hl : looseB L = true) (h0 : -9223372036854775808 ≤ m) (h1 : m ≤ 9223372036854775807) :
    Sh.gliderref10_Of (quad L) (.int .i64 m) H = some (.ret (.tup [(gridO L m).1, .int .i64 (gridO L m).2]), H) := by
  unfold Sh.gliderref10_Of gridO
  have e3 : (H ++ [Blk.cel 0 (quadC L)] ++ [Blk.cel 0 zGrid])[H.length]? = some (.cel 0 (quadC L)) := by simp
  have e5 : (H ++ [Blk.cel 0 (quadC L)] ++ [Blk.cel 0 zGrid])[(H ++ [Blk.cel 0 (quadC L)]).length]? = some (.cel 0 zGrid) := last_cel
  have eo : ∀ i, i < H.length → (H ++ [Blk.cel 0 (quadC L)] ++ [Blk.cel 0 zGrid])[i]? = H[i]? := fun i hi => by rw [List.append_assoc, List.getElem?_append_left hi]
  have l5 : H.length ≤ (H ++ [Blk.cel 0 (quadC L)]).length := by simp
  simp only [GMb, joinPt, decide_true, decide_false, if_true, if_false, boxQ, alloc_zGrid]
  by_cases hm0 : m < 0
  · rw [if_pos (.inl hm0)]
    simp only [hm0, GMb, joinPt, decide_true, decide_false, if_true, if_false]
    exact grid_zero l5 e5 eo
  · by_cases hm1 : m > 1000
    · rw [if_pos (.inr hm1)]
      simp only [hm0, hm1, GMb, joinPt, decide_true, decide_false, if_true, if_false]
      exact grid_zero l5 e5 eo
    · rw [if_neg (by omega)]
      have hwi := fun H => q09_within L m H hL hl h0 h1
      simp only [hm0, hm1, GMb, joinPt, decide_true, decide_false, if_true, if_false, load_qP e3, hwi]
      cases hwq : withinQ L m with
      | false =>
        simp only [GMb, joinPt, decide_true, decide_false, if_true, if_false]
        exact grid_zero l5 e5 eo
      | true =>
        have hofb := fun H => q09_ofB L H hL hl
        simp only [GMb, joinPt, decide_true, decide_false, if_true, if_false, load_qP e3, hofb, extract_0, extract_1, alloc_zBox]
        generalize hB : H ++ [Blk.cel 0 (quadC L)] ++ [Blk.cel 0 zGrid] = B at e3 e5 eo
        generalize hp5 : (H ++ [Blk.cel 0 (quadC L)]).length = p5 at e5 l5
        have d35 : H.length ≠ p5 := by rw [← hp5]; simp
        have hbl : B.length = H.length + 2 := by rw [← hB]; simp
        have p5e : p5 = H.length + 1 := by rw [← hp5]; simp
        have hstb : ∀ x y w h : Int, storeA 8 (.ptr B.length 0 0) (boxV x y w h) (B ++ [Blk.cel 0 zBox]) = some (B ++ [Blk.cel 0 (boxC x y w h)]) := fun x y w h => by
          simp only [storeA, get_cel (last_cel (B := B) (cs := zBox)), Option.bind_some, box_acells, setC_cel (last_cel (B := B) (cs := zBox)), putN_all (cs := zBox) (sz := 8) rfl, last_set]
          rfl
        simp only [hstb, GMb, joinPt, decide_true, decide_false, if_true, if_false]
        by_cases hn : L = []
        · simp only [hn, ne_eq, not_true_eq_false, GMb, joinPt, decide_true, decide_false, if_true, if_false]
          exact grid_zero l5 (get_left e5) fun i hi => by rw [List.getElem?_append_left (by omega)]; exact eo i hi
        · rw [if_neg hn]
          simp only [hn, ne_eq, not_false_eq_true, GMb, joinPt, decide_true, decide_false, if_true, if_false]
          obtain ⟨w1, w2⟩ := bx_pos hl hn
          obtain ⟨sx, sy⟩ := bxX_sb hl hn
          have hwl : bxW L ≤ m ∧ bxH L ≤ m := by
            simp only [withinQ, bx, if_neg hn, Bool.and_eq_true, decide_eq_true_eq] at hwq
            exact hwq
          simp only [bx, if_neg hn]
          obtain ⟨w, hw⟩ := Int.eq_ofNat_of_zero_le (show 0 ≤ bxW L by omega)
          obtain ⟨h, hh⟩ := Int.eq_ofNat_of_zero_le (show 0 ≤ bxH L by omega)
          rw [hw] at hwl w1 ⊢
          rw [hh] at hwl w2 ⊢
          have hwl1 := hwl.1
          have hwl2 := hwl.2
          generalize bxX L = X at *
          generalize bxY L = Y at *
          have g0 : loadA true 2 (.ptr B.length 0 0) (B ++ [Blk.cel 0 (boxC X Y w h)]) = some (big X) := by simp only [loadA, get_cel (last_cel (B := B)), Option.bind_some]; rfl
          have g2 : loadA true 2 (.ptr B.length 0 2) (B ++ [Blk.cel 0 (boxC X Y w h)]) = some (big Y) := by simp only [loadA, get_cel (last_cel (B := B)), Option.bind_some]; rfl
          have g4 : loadA true 2 (.ptr B.length 0 4) (B ++ [Blk.cel 0 (boxC X Y w h)]) = some (big w) := by simp only [loadA, get_cel (last_cel (B := B)), Option.bind_some]; rfl
          have g6 : loadA true 2 (.ptr B.length 0 6) (B ++ [Blk.cel 0 (boxC X Y w h)]) = some (big h) := by simp only [loadA, get_cel (last_cel (B := B)), Option.bind_some]; rfl
          have iw : ∀ H, Sh.gliderref02_Int (big (w : Int)) H = some (.ret (.tup [.int .i64 (w : Int), .bool true]), H) := fun H => by
            rw [q02_intZ _ _ (LB_i64 (by omega) (by omega))]
            have : intOk (w : Int) = true := by unfold intOk; rw [decide_eq_true_eq]; omega
            unfold intR; rw [this]; rfl
          have ih : ∀ H, Sh.gliderref02_Int (big (h : Int)) H = some (.ret (.tup [.int .i64 (h : Int), .bool true]), H) := fun H => by
            rw [q02_intZ _ _ (LB_i64 (by omega) (by omega))]
            have : intOk (h : Int) = true := by unfold intOk; rw [decide_eq_true_eq]; omega
            unfold intR; rw [this]; rfl
          have hbd : buildA (some [(.bool false), (.sl [] .tight), (.bool false), (.sl [] .tight), (.sl [] .tight)]) [(0, 2, big X), (2, 2, big Y)] = some (.agg (gridT X Y (.sl [] .tight))) := by
            unfold gridT
            simp [buildA, fillA, putN, bigC]
          simp only [GMb, joinPt, decide_true, decide_false, if_true, if_false, fieldAddr_ptr, Nat.zero_add, g0, g2, g4, g6, iw, ih, extract_0, extract_1, hbd, alloc_zGrid]
          generalize hC : B ++ [Blk.cel 0 (boxC X Y w h)] = C
          have hcl : C.length = H.length + 3 := by rw [← hC]; simp; omega
          have hstg : storeA 5 (.ptr C.length 0 0) (.agg (gridT X Y (.sl [] .tight))) (C ++ [Blk.cel 0 zGrid]) = some (C ++ [Blk.cel 0 (gridT X Y (.sl [] .tight))]) := by
            simp only [storeA, get_cel (last_cel (B := C) (cs := zGrid)), Option.bind_some, acells_agg (gridT_scal X Y [] .tight), setC_cel (last_cel (B := C) (cs := zGrid)), putN_all (cs := zGrid) (sz := 5) rfl, last_set]
            rfl
          simp only [GMb, joinPt, decide_true, decide_false, if_true, if_false, hstg, Int.toNat_natCast]
          exact grid_rows H L X Y w h w h H.length p5 B.length C.length hL hl (by omega) (by omega) sx sy (Nat.le_refl _) l5 (by omega) (by omega) (by omega) (by omega) (by omega) _ (by rw [← hC]; exact get_left (get_left e3)) (by rw [← hC]; exact get_left (get_left e5)) (by rw [← hC]; exact get_left last_cel) last_cel (fun i hi => by rw [← hC, List.append_assoc, List.getElem?_append_left (by omega)]; exact eo i hi)
end Go.Gm
/- Chapter 11 of the document: what formats can express. -/
namespace Go.Gm
set_option linter.unusedVariables false
set_option linter.unusedSimpArgs false
def limC (b n : Int) : List AVal := [.int .i64 b, .int .i64 n]
def expressB (f : Int) (L : List Nd) (b : Int) : Bool := decide (f = 5) || (withinQ L b && (decide (f = 4) || decide (mostZ L ≤ 1)))
def checkE (f : Int) (rule : List UInt8) (L : List Nd) (b n : Int) : Int :=
  if (decide (1 ≤ f) && decide (f ≤ 5) && (ruleB rule && qrightB L) && fineB b n) = false then 1 else if expressB f L b = false then 5 else 0
theorem qright_loose {L : List Nd} (h : qrightB L = true) : looseB L = true := by
  simp only [qrightB, Bool.or_eq_true, decide_eq_true_eq, Bool.and_eq_true] at h
  rcases h with h | h
  · subst h; rfl
  · exact h.1.1.1
theorem q11_express (f : Int) (rule : List UInt8) (L : List Nd) (b n : Int) (H : AHeap) (hL : L.length < 549755813888) (hl : looseB L = true) (h0 : -9223372036854775808 ≤ b) (h1 : b ≤ 9223372036854775807) :
    Sh.gliderref11_Express (.int .i64 f) (pat rule L) (.agg (limC b n)) H = some (.ret (.bool (expressB f L b)), H) := by
  unfold Sh.gliderref11_Express expressB
  have hbx : ∀ H, boxA true 2 (.agg (limC b n)) H = some (.ptr H.length 0 0, H ++ [.cel 0 (limC b n)]) := fun H => box_agg rfl rfl
  have e4 : (H ++ [Blk.cel 0 (patC rule L)] ++ [Blk.cel 0 (limC b n)])[H.length]? = some (.cel 0 (patC rule L)) := by simp
  have g6 : loadA false 1 (.ptr (H ++ [Blk.cel 0 (patC rule L)]).length 0 0) (H ++ [Blk.cel 0 (patC rule L)] ++ [Blk.cel 0 (limC b n)]) = some (.int .i64 b) := by
    simp only [loadA, get_cel (last_cel (B := H ++ [Blk.cel 0 (patC rule L)])), Option.bind_some]; rfl
  have fin : ∀ q : Bool, rP H (.bool q) (H ++ [Blk.cel 0 (patC rule L)] ++ [Blk.cel 0 (limC b n)]) = some (.ret (.bool q), H) := fun q => by rw [List.append_assoc]; exact rP_bool
  have hwi := fun H => q09_within L b H hL hl h0 h1
  have hmo := fun H => q08_mostZ H (show L.length < 1152921504606846976 by omega) hl
  simp only [GMb, joinPt, decide_true, decide_false, if_true, if_false, boxPat, hbx]
  by_cases h5 : f = 5
  · simp only [h5, GMb, joinPt, decide_true, decide_false, if_true, if_false, fin]
  · simp only [h5, GMb, joinPt, decide_true, decide_false, if_true, if_false, fieldAddr_ptr, Nat.zero_add, load_quadP e4, g6, hwi]
    cases withinQ L b with
    | false => simp only [GMb, joinPt, decide_true, decide_false, if_true, if_false, fin]
    | true =>
      by_cases h4 : f = 4
      · simp only [h4, GMb, joinPt, decide_true, decide_false, if_true, if_false, fin]
      · simp only [h4, GMb, joinPt, decide_true, decide_false, if_true, if_false, fieldAddr_ptr, Nat.zero_add, load_quadP e4, hmo, fin]
theorem q11_check (f : Int) (rule : List UInt8) (L : List Nd) (b n : Int) (H : AHeap) (hr : rule.length < 1152921504606846976) (hL : L.length < 549755813888) (h0 : -9223372036854775808 ≤ b) (h1 : b ≤ 9223372036854775807) :
    Sh.gliderref11_Check (.int .i64 f) (pat rule L) (.agg (limC b n)) H = some (.ret (.int .i64 (checkE f rule L b n)), H) := by
  unfold Sh.gliderref11_Check checkE
  have hbx : ∀ H, boxA true 2 (.agg (limC b n)) H = some (.ptr H.length 0 0, H ++ [.cel 0 (limC b n)]) := fun H => box_agg rfl rfl
  have e4 : (H ++ [Blk.cel 0 (patC rule L)] ++ [Blk.cel 0 (limC b n)])[H.length]? = some (.cel 0 (patC rule L)) := by simp
  have g6 : loadA true 2 (.ptr (H ++ [Blk.cel 0 (patC rule L)]).length 0 0) (H ++ [Blk.cel 0 (patC rule L)] ++ [Blk.cel 0 (limC b n)]) = some (.agg (limC b n)) := by
    simp only [loadA, get_cel (last_cel (B := H ++ [Blk.cel 0 (patC rule L)])), Option.bind_some]; rfl
  have fin : ∀ q : Int, rP H (.int .i64 q) (H ++ [Blk.cel 0 (patC rule L)] ++ [Blk.cel 0 (limC b n)]) = some (.ret (.int .i64 q), H) := fun q => by rw [List.append_assoc]; exact rP_int
  have hfm := fun H => q11_format f H
  have hrt := fun H => q11_right rule L H hr (by omega)
  have hfi := fun H => q11_fine b n H
  simp only [GMb, joinPt, decide_true, decide_false, if_true, if_false, boxPat, hbx, hfm]
  cases hf : (decide (1 ≤ f) && decide (f ≤ 5)) with
  | false => simp only [GMb, joinPt, decide_true, decide_false, if_true, if_false, fin]
  | true =>
    simp only [GMb, joinPt, decide_true, decide_false, if_true, if_false, load_patP e4, hrt]
    cases hq : (ruleB rule && qrightB L) with
    | false => simp only [GMb, joinPt, decide_true, decide_false, if_true, if_false, fin]
    | true =>
      have hl : looseB L = true := by
        simp only [Bool.and_eq_true] at hq
        exact qright_loose hq.2
      have hex := fun H => q11_express f rule L b n H hL hl h0 h1
      have hfi' : ∀ H, Sh.gliderref11_Fine (.agg (limC b n)) H = some (.ret (.bool (fineB b n)), H) := hfi
      simp only [GMb, joinPt, decide_true, decide_false, if_true, if_false, g6, hfi']
      cases fineB b n with
      | false => simp only [GMb, joinPt, decide_true, decide_false, if_true, if_false, fin]
      | true =>
        simp only [GMb, joinPt, decide_true, decide_false, if_true, if_false, load_patP e4, g6, hex]
        cases expressB f L b with
        | false => simp only [GMb, joinPt, decide_true, decide_false, if_true, if_false, fin]; rfl
        | true => simp only [GMb, joinPt, decide_true, decide_false, if_true, if_false, fin]; rfl
end Go.Gm
/- Chapter 12 of the document: rows as signs; Plain. -/
namespace Go.Gm
set_option linter.unusedVariables false
set_option linter.unusedSimpArgs false
def signL (one : UInt8) (s : List UInt8) : List UInt8 := s.map fun b => if b = 0 then 46 else one
def usedN (s : List UInt8) : Nat := (s.reverse.dropWhile fun b => decide (b = 0)).length
def rowT (one : UInt8) (s : List UInt8) : List UInt8 := (signL one s).take (usedN s)
theorem usedN_snoc (s : List UInt8) (b : UInt8) : usedN (s ++ [b]) = if b = 0 then usedN s else s.length + 1 := by
  unfold usedN
  rw [List.reverse_append]
  by_cases h : b = 0 <;> simp [h, List.dropWhile_cons]
theorem usedN_le (s : List UInt8) : usedN s ≤ s.length := by
  unfold usedN
  have := (List.dropWhile_sublist (fun b : UInt8 => decide (b = 0)) (l := s.reverse)).length_le
  simpa using this
theorem q12_row (s : List UInt8) (one : UInt8) (H : AHeap) (hs : s.length < 70368744177664) : Sh.gliderref12_row (.str s) (.int .u8 (one.toNat : Int)) H = some (.ret (.str (rowT one s)), H) := by
  unfold Sh.gliderref12_row
  refine loop_up (G := fun rec1 vs H1 => Sh.gliderref12_row_l1 H rec1 (ag vs 0) (ag vs 1) (ag vs 2) (ag vs 3) (ag vs 4) H1) s.length (fun i => [.str s, .int .u8 (one.toNat : Int), outS cY H (signL one (s.take i)), .int .i64 (usedN (s.take i) : Int), .int .i64 (i : Int)]) (fun i => outT cY ty_uint8 1 H (signL one (s.take i))) _ (by omega) (fun rec i hi => ?_) (fun rec => ?_)
  · have hi' : (i : Int) < (s.length : Int) := by omega
    have hws := wrap_succ (show i < 9223372036854775807 by omega)
    have hsl : (signL one (s.take i)).length = i := by simp [signL]; omega
    have htl : (s.take i).length = i := by simp; omega
    have hdec : decide ((s[i].toNat : Int) = 0) = decide (s[i] = 0) := by
      rw [Bool.eq_iff_iff]; simp only [decide_eq_true_eq]
      constructor
      · intro h; exact UInt8.toNat_inj.1 (by simpa using h)
      · intro h; rw [h]; rfl
    have hsn : signL one (s.take (i + 1)) = signL one (s.take i) ++ [if s[i] = 0 then 46 else one] := by
      unfold signL; rw [List.take_succ_eq_append_getElem hi, List.map_append]; rfl
    have hun : usedN (s.take (i + 1)) = if s[i] = 0 then usedN (s.take i) else i + 1 := by
      rw [List.take_succ_eq_append_getElem hi, usedN_snoc, htl]
    have app : ∀ b : UInt8, appendA ty_uint8 1 1 (outS cY H (signL one (s.take i))) (.sl (enL cY [b]) .tight) (outT cY ty_uint8 1 H (signL one (s.take i))) = some (outS cY H (signL one (s.take i) ++ [b]), outT cY ty_uint8 1 H (signL one (s.take i) ++ [b])) := fun b => append_out (by simp) (by simp; omega) (by simp; omega)
    have hb46 : buildSl 1 [.int .u8 46] = some (.sl (enL cY [46]) .tight) := build_Y 46
    have hlen : ∀ b : UInt8, lenSl (outS cY H (signL one (s.take i) ++ [b])) = some (.int .i64 ((i + 1 : Nat) : Int)) := fun b => by
      rw [outS_eq, len_enL, List.length_append, hsl]; rfl
    rw [hsn, hun]
    unfold Sh.gliderref12_row_l1
    simp only [GMb, joinPt, decide_true, decide_false, if_true, if_false, len_str, hi', idx_str hi, hdec, ag_succ]
    by_cases h0 : s[i] = 0
    · simp only [h0, GMb, joinPt, decide_true, decide_false, if_true, if_false, hb46, app, ag_succ, Sh.gliderref12_row_j2, hws]
    · simp only [h0, GMb, joinPt, decide_true, decide_false, if_true, if_false, build_Y, app, hlen, ag_succ, Sh.gliderref12_row_j2, hws]
  · obtain ⟨G, hG⟩ := outT_eq (f := cY) (ty := ty_uint8) (sz := 1) H (signL one s)
    have hu := usedN_le s
    have hsl : (signL one s).length = s.length := by simp [signL]
    unfold Sh.gliderref12_row_l1
    rw [List.take_of_length_le (Nat.le_refl _)]
    simp only [GMb, joinPt, decide_true, decide_false, if_true, if_false, len_str, Int.lt_irrefl, outS_eq, hG, slice_to (f := cY) (l := signL one s) (show usedN s ≤ (signL one s).length by omega), toStr_enL, rP_str]
    rfl
def plainHead (rule : List UInt8) : List UInt8 := [33, 82, 117, 108, 101, 58, 32] ++ rule ++ [10]
def plainT (rule : List UInt8) (rows : List (List UInt8)) : List UInt8 := rows.foldl (fun s r => s ++ rowT 79 r ++ [10]) (plainHead rule)
end Go.Gm
/- Chapter 12 of the document: Plain. -/
namespace Go.Gm
set_option linter.unusedVariables false
set_option linter.unusedSimpArgs false
theorem plainT_take (rule : List UInt8) (rows : List (List UInt8)) {i : Nat} (hi : i < rows.length) : plainT rule (rows.take (i + 1)) = plainT rule (rows.take i) ++ rowT 79 rows[i] ++ [10] := by
  unfold plainT
  rw [List.take_succ_eq_append_getElem hi, List.foldl_append]; rfl
theorem rowT_len (one : UInt8) (s : List UInt8) : (rowT one s).length ≤ s.length := by
  unfold rowT signL
  simp only [List.length_take, List.length_map]
  omega
theorem plainT_len (rule : List UInt8) (rows : List (List UInt8)) (h : ∀ r ∈ rows, r.length ≤ 1000) : ∀ i, i ≤ rows.length → (plainT rule (rows.take i)).length ≤ rule.length + 8 + i * 1001
  | 0, _ => by simp [plainT, plainHead]
  | i + 1, hi => by
    have ih := plainT_len rule rows h i (by omega)
    have h1 := rowT_len 79 rows[i]
    have h2 := h rows[i] (List.getElem_mem hi)
    rw [plainT_take rule rows hi]
    simp only [List.length_append, List.length_singleton]
    omega
theorem plain_loop (H Hc : AHeap) (G : AHeap) (rule : List UInt8) (X Y : Int) (rows : List (List UInt8)) (p : Nat) (hr : rule.length < 70368744177664) (hn : rows.length ≤ 1000) (h : ∀ r ∈ rows, r.length ≤ 1000)
    (hp : Hc[p]? = some (.cel 0 (gridT X Y (.sl (enL cS rows) .no)))) (hH : Hc = H ++ G) :
    loopGen (fun rec1 vs H1 => Sh.gliderref12_Plain_l1 H rec1 (ag vs 0) (ag vs 1) (ag vs 2) H1) FUEL [.ptr p 0 0, .str (plainHead rule), .int .i64 0] Hc = some (.ret (.tup [.str (plainT rule rows), .int .i64 0]), H) := by
  have hld : loadA false 1 (.ptr p 0 4) Hc = some (.sl (enL cS rows) .no) := by simp only [loadA, get_cel hp, Option.bind_some]; rfl
  refine loop_up (G := fun rec1 vs H1 => Sh.gliderref12_Plain_l1 H rec1 (ag vs 0) (ag vs 1) (ag vs 2) H1) rows.length (fun i => [.ptr p 0 0, .str (plainT rule (rows.take i)), .int .i64 (i : Int)]) (fun _ => Hc) _ (by omega) (fun rec i hi => ?_) (fun rec => ?_)
  · have hi' : (i : Int) < (rows.length : Int) := by omega
    have hws := wrap_succ (show i < 9223372036854775807 by omega)
    have hb := plainT_len rule rows h i (by omega)
    have h1 := rowT_len 79 rows[i]
    have h2 := h rows[i] (List.getElem_mem hi)
    have hrow := fun H => q12_row rows[i] 79 H (by omega)
    simp only [show ((79 : UInt8).toNat : Int) = 79 from rfl] at hrow
    rw [plainT_take rule rows hi]
    unfold Sh.gliderref12_Plain_l1
    simp only [GMb, joinPt, decide_true, decide_false, if_true, if_false, fieldAddr_ptr, Nat.zero_add, hld, len_enL, hi', idx_enL hi, load_cptr, List.getElem?_cons_zero, hrow, ag_succ]
    rw [bin_sadd (by omega)]
    simp only [GMb, joinPt, decide_true, decide_false, if_true, if_false]
    rw [bin_sadd (by simp only [List.length_append, List.length_singleton]; omega)]
    simp only [GMb, joinPt, decide_true, decide_false, if_true, if_false, hws]
  · unfold Sh.gliderref12_Plain_l1
    rw [List.take_of_length_le (Nat.le_refl _)]
    simp only [GMb, joinPt, decide_true, decide_false, if_true, if_false, fieldAddr_ptr, Nat.zero_add, hld, len_enL, Int.lt_irrefl]
    rw [hH]
    exact rP_plain (v := .tup [.str (plainT rule rows), .int .i64 0]) rfl
end Go.Gm
/- Chapter 12 of the document: Plain: all of it. -/
namespace Go.Gm
set_option linter.unusedVariables false
set_option linter.unusedSimpArgs false
def rowsO (L : List Nd) : List (List UInt8) := if L = [] then [] else rowsL L (bxX L) (bxY L) (bxW L).toNat (bxH L).toNat
theorem gridO_fits {L : List Nd} {b : Int} (h1 : 0 ≤ b) (h2 : b ≤ 1000) (hw : withinQ L b = true) : gridO L b = (gridV (bx L bxX) (bx L bxY) (rowsO L), 0) := by
  unfold gridO rowsO bx
  rw [if_neg (by omega), if_neg (by rw [hw]; simp)]
  by_cases h0 : L = []
  · rw [if_pos h0, if_pos h0, if_pos h0, if_pos h0]
  · rw [if_neg h0, if_neg h0, if_neg h0, if_neg h0]
theorem rowsO_len {L : List Nd} {b : Int} (hl : looseB L = true) (h1 : 0 ≤ b) (h2 : b ≤ 1000) (hw : withinQ L b = true) : (rowsO L).length ≤ 1000 ∧ ∀ r ∈ rowsO L, r.length ≤ 1000 := by
  unfold rowsO
  by_cases h0 : L = []
  · rw [if_pos h0]; exact ⟨by simp, fun r hr => by simp at hr⟩
  · rw [if_neg h0]
    simp only [withinQ, bx, if_neg h0, Bool.and_eq_true, decide_eq_true_eq] at hw
    have hp := bx_pos hl h0
    refine ⟨by simp [rowsL]; omega, fun r hr => ?_⟩
    simp only [rowsL, List.mem_map] at hr
    obtain ⟨y, _, rfl⟩ := hr
    simp [rowL]; omega
theorem check_ok {f : Int} {rule : List UInt8} {L : List Nd} {b n : Int} (h : checkE f rule L b n = 0) (hf : f ≠ 5) : looseB L = true ∧ 0 ≤ b ∧ b ≤ 1000 ∧ withinQ L b = true ∧ ruleB rule = true ∧ qrightB L = true := by
  unfold checkE at h
  split at h
  · cases h
  · rename_i h1
    split at h
    · cases h
    · rename_i h2
      simp only [Bool.not_eq_false, Bool.and_eq_true, fineB, expressB, decide_eq_true_eq, Bool.or_eq_true] at h1 h2
      obtain ⟨⟨_, h3, h4⟩, h5⟩ := h1
      refine ⟨qright_loose h4, h5.1.1.1, h5.1.1.2, ?_, h3, h4⟩
      rcases h2 with h2 | h2
      · exact absurd h2 hf
      · exact h2.1
theorem q12_plain (rule : List UInt8) (L : List Nd) (b n : Int) (H : AHeap) (hr : rule.length < 70368744177664) (hL : L.length < 549755813888) (h0 : -9223372036854775808 ≤ b) (h1 : b ≤ 9223372036854775807) :
    Sh.gliderref12_Plain (pat rule L) (.agg (limC b n)) H = some (.ret (if checkE 1 rule L b n = 0 then .tup [.str (plainT rule (rowsO L)), .int .i64 0] else .tup [.str [], .int .i64 (checkE 1 rule L b n)]), H) := by
  unfold Sh.gliderref12_Plain
  have hbx : ∀ H, boxA true 2 (.agg (limC b n)) H = some (.ptr H.length 0 0, H ++ [.cel 0 (limC b n)]) := fun H => box_agg rfl rfl
  have e3 : (H ++ [Blk.cel 0 (patC rule L)] ++ [Blk.cel 0 (limC b n)])[H.length]? = some (.cel 0 (patC rule L)) := by simp
  have g5 : loadA true 2 (.ptr (H ++ [Blk.cel 0 (patC rule L)]).length 0 0) (H ++ [Blk.cel 0 (patC rule L)] ++ [Blk.cel 0 (limC b n)]) = some (.agg (limC b n)) := by
    simp only [loadA, get_cel (last_cel (B := H ++ [Blk.cel 0 (patC rule L)])), Option.bind_some]; rfl
  have g6 : loadA false 1 (.ptr (H ++ [Blk.cel 0 (patC rule L)]).length 0 0) (H ++ [Blk.cel 0 (patC rule L)] ++ [Blk.cel 0 (limC b n)]) = some (.int .i64 b) := by
    simp only [loadA, get_cel (last_cel (B := H ++ [Blk.cel 0 (patC rule L)])), Option.bind_some]; rfl
  have hck := fun H => q11_check 1 rule L b n H (by omega) hL h0 h1
  simp only [GMb, joinPt, decide_true, decide_false, if_true, if_false, boxPat, hbx, load_patP e3, g5, hck]
  by_cases he : checkE 1 rule L b n = 0
  · obtain ⟨hl, b0, b1, hw, _, _⟩ := check_ok he (by decide)
    obtain ⟨r1, r2⟩ := rowsO_len hl b0 b1 hw
    have hgo := fun H => q10_of L b H hL hl h0 h1
    simp only [gridO_fits b0 b1 hw] at hgo
    rw [if_pos he]
    simp only [he, GMb, joinPt, decide_true, decide_false, if_true, if_false, fieldAddr_ptr, Nat.zero_add, Nat.add_zero, load_quadP e3, g6, hgo, extract_0, extract_1, alloc_zGrid]
    generalize hB : H ++ [Blk.cel 0 (patC rule L)] ++ [Blk.cel 0 (limC b n)] = B at e3
    have hstg : storeA 5 (.ptr B.length 0 0) (gridV (bx L bxX) (bx L bxY) (rowsO L)) (B ++ [Blk.cel 0 zGrid]) = some (B ++ [Blk.cel 0 (gridT (bx L bxX) (bx L bxY) (.sl (enL cS (rowsO L)) .no))]) := by
      unfold gridV
      simp only [storeA, get_cel (last_cel (B := B) (cs := zGrid)), Option.bind_some, acells_agg (gridT_scal _ _ _ _), setC_cel (last_cel (B := B) (cs := zGrid)), putN_all (cs := zGrid) (sz := 5) rfl, last_set]
      rfl
    have hrl := load_ruleP (get_left (G := [Blk.cel 0 (gridT (bx L bxX) (bx L bxY) (.sl (enL cS (rowsO L)) .no))]) e3)
    simp only [GMb, joinPt, decide_true, decide_false, if_true, if_false, hstg, fieldAddr_ptr, Nat.add_zero, hrl]
    rw [bin_sadd (by simp; omega)]
    simp only [GMb, joinPt, decide_true, decide_false, if_true, if_false]
    rw [bin_sadd (by simp; omega)]
    simp only [GMb, joinPt, decide_true, decide_false, if_true, if_false]
    exact plain_loop H _ ([Blk.cel 0 (patC rule L)] ++ ([Blk.cel 0 (limC b n)] ++ [Blk.cel 0 (gridT (bx L bxX) (bx L bxY) (.sl (enL cS (rowsO L)) .no))])) rule (bx L bxX) (bx L bxY) (rowsO L) B.length hr r1 r2 last_cel (by rw [← hB]; simp)
  · rw [if_neg he]
    simp only [he, GMb, joinPt, decide_true, decide_false, if_true, if_false]
    rw [List.append_assoc]
    exact rP_plain (v := .tup [.str [], .int .i64 (checkE 1 rule L b n)]) rfl
end Go.Gm
/- Chapter 1 of the document: rows of limbs in any guise; division by a limb. -/
namespace Go.Gm
set_option linter.unusedVariables false
set_option linter.unusedSimpArgs false
/-- A row of limbs in a heap, and in all heaps that begin so. -/
def Row1 (v : AVal) (H : AHeap) (l : List Nat) : Prop := lenSl v = some (.int .i64 (l.length : Int)) ∧ ∀ (i : Nat) (h : i < l.length), ∃ p, idxSl 1 v (.int .i64 (i : Int)) = some p ∧ ∀ G, loadA false 1 p (H ++ G) = some (.int .u32 (l[i] : Int))
theorem row_sl (l : List Nat) (tk : Tok) (H : AHeap) : Row1 (.sl (enL cU l) tk) H l := ⟨len_enL, fun i h => ⟨_, idx_enL h, fun G => rfl⟩⟩
theorem row_ms {l : List Nat} {H : AHeap} {id : Nat} (hg : H[id]? = some (.cel 0 (flat cU l))) : Row1 (.ms id 0 0 l.length l.length 1 true) H l := by
  refine ⟨rfl, fun i h => ?_⟩
  have hidx := idx_ms (sz := 1) (id := id) (n := l.length) (K := .i64) (g := 0) (off := 0) (cap := l.length) (ex := true) (i := i) h
  simp only [Nat.zero_add, Nat.mul_one] at hidx
  exact ⟨_, hidx, fun G => load_left (load_el (f := cU) (get_cel hg) h)⟩
theorem q01_bitsR {v : AVal} {H : AHeap} {l : List Nat} (hv : Row1 v H l) (hl : l.length ≤ 2199023255552) (hx : Lim l) : Sh.gliderref01_Bits v H = some (.ret (.sl (enL cB (cutL (bitsAll l))) .no), H) := by
  unfold Sh.gliderref01_Bits
  refine loop_up l.length (fun i => [v, outS cB H (bitsAll (l.take i)), .int .i64 (i : Int)]) (fun i => outT cB ty_bool 1 H (bitsAll (l.take i))) _ (by omega) (fun rec i hi => ?_) (fun rec => ?_)
  · have hi' : (i : Int) < (l.length : Int) := by omega
    have hxi : l[i] < 4294967296 := hx _ (List.getElem_mem hi)
    have htk : bitsAll (l.take (i + 1)) = bitsAll (l.take i) ++ bitsOf 32 l[i] := by
      rw [List.take_succ_eq_append_getElem hi, bitsAll, List.flatMap_append]; simp [bitsAll]
    have hlen : (bitsAll (l.take i)).length ≤ 32 * 2199023255552 := by rw [bitsAll_length]; simp; omega
    obtain ⟨p, hp1, hp2⟩ := hv.2 i hi
    obtain ⟨G, hG⟩ := outT_eq (f := cB) (ty := ty_bool) (sz := 1) H (bitsAll (l.take i))
    have hld : loadA false 1 p (outT cB ty_bool 1 H (bitsAll (l.take i))) = some (.int .u32 (l[i] : Int)) := by rw [hG]; exact hp2 G
    unfold Sh.gliderref01_Bits_l1
    simp only [ag_zero, ag_1, ag_2, hv.1, obind, bin_lss, hi', decide_true, condA_true, hp1, hld, htk]
    generalize bitsAll (l.take i) = o at hlen
    generalize l[i] = x at hxi
    refine loop_fun (σ := Nat × Nat × List Bool) (fun s => s.1 ≤ 32 ∧ s.2.1 < 4294967296 ∧ s.2.2.length ≤ o.length + s.1) (fun s => [v, outS cB H s.2.2, .int .i64 (i : Int), .int .u32 (s.2.1 : Int), .int .i64 (s.1 : Int)]) (fun s => outT cB ty_bool 1 H s.2.2) (fun s => 32 - s.1)
      (fun s => rec [v, outS cB H (s.2.2 ++ bitsOf (32 - s.1) s.2.1), .int .i64 ((i + 1 : Nat) : Int)] (outT cB ty_bool 1 H (s.2.2 ++ bitsOf (32 - s.1) s.2.1))) (fun s rec2 hs hrec => ?_) (0, x, o) ⟨by dsimp only; omega, hxi, by dsimp only; omega⟩ (by dsimp only; omega)
    obtain ⟨k, y, p⟩ := s
    obtain ⟨hk, hy, hp⟩ := hs
    simp only at hk hy hp hrec ⊢
    unfold Sh.gliderref01_Bits_l2
    by_cases h : k < 32
    · have h' : (k : Int) < 32 := by omega
      have e1 : (y : Int).tmod 2 = ((y % 2 : Nat) : Int) := rfl
      have e2 : IntKind.u32.wrap ((y : Int).tdiv 2) = ((y / 2 : Nat) : Int) := by rw [show (y : Int).tdiv 2 = ((y / 2 : Nat) : Int) from rfl, wrap_u32] <;> omega
      have e3 : decide (((y % 2 : Nat) : Int) = 1) = (y % 2 == 1) := by rw [Bool.eq_iff_iff]; simp only [beq_iff_eq, decide_eq_true_eq]; omega
      have e4 : IntKind.i64.wrap ((k : Int) + 1) = ((k + 1 : Nat) : Int) := by rw [wrap_i64] <;> omega
      have := hrec (k + 1, y / 2, p ++ [y % 2 == 1]) ⟨h, by dsimp only; omega, by simp; omega⟩ (by dsimp only; omega)
      simp only [ag_zero, ag_1, ag_2, ag_3, ag_4, bin_lss, h', decide_true, obind, condA_true, bin_rem (show (2 : Int) ≠ 0 by decide), bin_quo (show (2 : Int) ≠ 0 by decide), e1, e2, bin_eql, beq_dec, e3, build_B]
      rw [append_out (by simp) (by simp; omega) (by simp; omega)]
      simp only [retVH_some, bP_ret, bin_add, obind, e4, this]
      rw [show 32 - k = (32 - (k + 1)) + 1 from by omega, bitsOf]; simp
    · have : k = 32 := by omega
      subst this
      have e4 : IntKind.i64.wrap ((i : Int) + 1) = ((i + 1 : Nat) : Int) := by rw [wrap_i64] <;> omega
      simp [bitsOf, e4]
  · unfold Sh.gliderref01_Bits_l1
    obtain ⟨G, hG⟩ := outT_eq (f := cB) (ty := ty_bool) (sz := 1) H (bitsAll l)
    rw [List.take_of_length_le (Nat.le_refl _)]
    simp only [ag_zero, ag_1, ag_2, outS_eq, hG, hv.1, obind, bin_lss, Int.lt_irrefl, decide_false, condA_false, q01_cut (bitsAll l) _ _ (by rw [bitsAll_length]; omega), bP_ret, rPN_app, fall_sl, Option.map_some]
theorem q01_normR {v : AVal} {H : AHeap} {l : List Nat} (hv : Row1 v H l) (hl : l.length ≤ 1099511627776) (hx : Lim l) : Sh.gliderref01_Norm v H = some (.ret (.sl (enL cU (lims (val l))) .no), H) := by
  have hc := cutL_le (bitsAll l)
  rw [bitsAll_length] at hc
  unfold Sh.gliderref01_Norm
  rw [q01_bitsR hv (by omega) hx]
  simp only [bK_ret]
  rw [q01_of _ _ _ (by omega)]
  simp only [bK_ret, rKN_eq, forget_sl, nat1_cut, val_bits l hx]
end Go.Gm
/- Chapter 1 of the document: division by a limb. -/
namespace Go.Gm
set_option linter.unusedVariables false
set_option linter.unusedSimpArgs false
theorem val_cons (a : Nat) (l : List Nat) : val (a :: l) = a + 4294967296 * val l := rfl
theorem div_step {m a v : Nat} (hm : 0 < m) : (a + 4294967296 * v) / m = (v % m * 4294967296 + a) / m + 4294967296 * (v / m) ∧ (a + 4294967296 * v) % m = (v % m * 4294967296 + a) % m := by
  have h := Nat.div_add_mod v m
  have e : a + 4294967296 * v = (v % m * 4294967296 + a) + m * (4294967296 * (v / m)) := by
    conv => lhs; rw [← h]
    rw [Nat.mul_add, Nat.mul_left_comm]
    omega
  rw [e, Nat.add_mul_div_left _ _ hm, Nat.add_mul_mod_self_left]
  exact ⟨rfl, rfl⟩
theorem quo_lt {m a r : Nat} (hr : r < m) (ha : a < 4294967296) : (r * 4294967296 + a) / m < 4294967296 := by
  rw [Nat.div_lt_iff_lt_mul (by omega)]
  have : (r + 1) * 4294967296 ≤ m * 4294967296 := Nat.mul_le_mul_right _ hr
  omega
theorem q01_div (l : List Nat) (tk : Tok) (m : Nat) (H : AHeap) (hl : l.length ≤ 1099511627776) (hx : Lim l) (hm0 : 0 < m) (hm : m < 4294967296) :
    Sh.gliderref01_Div (.sl (enL cU l) tk) (.int .u32 (m : Int)) H = some (.ret (.tup [.sl (enL cU (lims (val l / m))) .no, .int .u32 ((val l % m : Nat) : Int)]), H) := by
  unfold Sh.gliderref01_Div
  have hm0' : ¬ (m : Int) = 0 := by omega
  have hmk := make_flat (f := cU) (a := 0) (n := l.length) (bytes := 4) (H := H) (by omega) (by omega)
  simp only [show cU 0 = [AVal.int .u32 0] from rfl] at hmk
  have hcm : ∀ n : Int, convInt .u64 (.int .u32 (m : Int)) = some (.int .u64 (m : Int)) := fun _ => by rw [conv_int, wrap_u64 (by omega) (by omega)]
  simp only [GMb, joinPt, decide_true, decide_false, if_true, if_false, hm0', len_enL, hmk]
  have hw0 : IntKind.i64.wrap ((l.length : Int) - 1) = (l.length : Int) - 1 := wrap_i64 (by omega) (by omega)
  rw [hw0]
  have key := loop_fun (G := fun rec1 vs H1 => Sh.gliderref01_Div_l1 H rec1 (ag vs 0) (ag vs 1) (ag vs 2) (ag vs 3) (ag vs 4) H1) (σ := Nat × List Nat) (fun s => s.1 ≤ l.length ∧ s.2.length = l.length ∧ Lim s.2 ∧ val (s.2.drop s.1) = val (l.drop s.1) / m)
    (fun s => [.sl (enL cU l) tk, .int .u32 (m : Int), .ms H.length 0 0 l.length l.length 1 true, .int .u64 ((val (l.drop s.1) % m : Nat) : Int), .int .i64 ((s.1 : Int) - 1)]) (fun s => H ++ [.cel 0 (flat cU s.2)]) (fun s => s.1)
    (fun _ => some (.ret (.tup [.sl (enL cU (lims (val l / m))) .no, .int .u32 ((val l % m : Nat) : Int)]), H)) (fun s rec hs hrec => ?_) (l.length, List.replicate l.length 0) ⟨Nat.le_refl _, by simp, fun x hx => by have := (List.mem_replicate.1 hx).2; omega, by simp [val]⟩ (by dsimp only; omega)
  · simp only [List.drop_length, show val [] = 0 from rfl, Nat.zero_mod] at key
    exact key
  · obtain ⟨k, O⟩ := s
    obtain ⟨h1, h2, h3, h4⟩ := hs
    simp only at h1 h2 h3 h4 hrec ⊢
    unfold Sh.gliderref01_Div_l1
    cases k with
    | zero =>
      have hrow := row_ms (l := O) (H := H ++ [Blk.cel 0 (flat cU O)]) (id := H.length) last_cel
      rw [h2] at hrow
      have hn := q01_normR hrow (by omega) h3
      have hv : val O = val l / m := by simpa using h4
      have hlt : val l % m < m := Nat.mod_lt _ hm0
      have hcv : convInt .u32 (.int .u64 ((val l % m : Nat) : Int)) = some (.int .u32 ((val l % m : Nat) : Int)) := by rw [conv_int, wrap_u32 (by omega) (by omega)]
      simp only [GMb, joinPt, decide_true, decide_false, if_true, if_false, ag_succ, show ¬ (((0 : Nat) : Int) - 1 ≥ 0) from by decide, hn, List.drop_zero, hcv, hv, rPN_app, fall_tup, fparts_cons, fparts_nil, fpart_sl, fpart_int, Option.map_some]
    | succ j =>
      have hj : j < l.length := h1
      have hi : ((j + 1 : Nat) : Int) - 1 = (j : Int) := by omega
      have ha := hx _ (List.getElem_mem hj)
      have hd : l.drop j = l[j] :: l.drop (j + 1) := List.drop_eq_getElem_cons hj
      have hr : val (l.drop (j + 1)) % m < m := Nat.mod_lt _ hm0
      obtain ⟨s1, s2⟩ := div_step (m := m) (a := l[j]) (v := val (l.drop (j + 1))) hm0
      have hq := quo_lt (m := m) (a := l[j]) (r := val (l.drop (j + 1)) % m) hr ha
      have hmul : val (l.drop (j + 1)) % m * 4294967296 ≤ 4294967295 * 4294967296 := Nat.mul_le_mul_right _ (by omega)
      generalize hrr : val (l.drop (j + 1)) % m = r at *
      have w1 : IntKind.u64.wrap ((r : Int) * 4294967296) = ((r * 4294967296 : Nat) : Int) := by rw [wrap_u64] <;> omega
      have w2 : convInt .u64 (.int .u32 (l[j] : Int)) = some (.int .u64 (l[j] : Int)) := by rw [conv_int, wrap_u64 (by omega) (by omega)]
      have w3 : IntKind.u64.wrap (((r * 4294967296 : Nat) : Int) + (l[j] : Int)) = ((r * 4294967296 + l[j] : Nat) : Int) := by rw [wrap_u64] <;> omega
      have w4 : IntKind.u64.wrap (((r * 4294967296 + l[j] : Nat) : Int).tdiv (m : Int)) = (((r * 4294967296 + l[j]) / m : Nat) : Int) := by
        rw [show (((r * 4294967296 + l[j] : Nat) : Int).tdiv (m : Int)) = (((r * 4294967296 + l[j]) / m : Nat) : Int) from rfl, wrap_u64 (Int.natCast_nonneg _) (Int.lt_of_lt_of_le (Int.ofNat_lt.2 hq) (by decide))]
      have w5 : convInt .u32 (.int .u64 (((r * 4294967296 + l[j]) / m : Nat) : Int)) = some (.int .u32 (((r * 4294967296 + l[j]) / m : Nat) : Int)) := by rw [conv_int, wrap_u32 (Int.natCast_nonneg _) (Int.ofNat_lt.2 hq)]
      have w6 : (((r * 4294967296 + l[j] : Nat) : Int).tmod (m : Int)) = (((r * 4294967296 + l[j]) % m : Nat) : Int) := rfl
      have w7 : IntKind.i64.wrap ((j : Int) - 1) = (j : Int) - 1 := wrap_i64 (by omega) (by omega)
      have hidx := idx_ms (sz := 1) (id := H.length) (n := l.length) (K := .i64) (g := 0) (off := 0) (cap := l.length) (ex := true) (i := j) hj
      simp only [Nat.zero_add, Nat.mul_one] at hidx
      have hst := store_el (f := cU) (sz := 1) (l := O) (i := j) (a := (r * 4294967296 + l[j]) / m) (v := .int .u32 (((r * 4294967296 + l[j]) / m : Nat) : Int)) (H := H ++ [Blk.cel 0 (flat cU O)]) (id := H.length) (get_cel last_cel) (by omega) rfl
      rw [Nat.mul_one, setC_cel last_cel, last_set] at hst
      have hge : ((j : Int) ≥ 0) := by omega
      have hmz : (m : Int) ≠ 0 := hm0'
      have := hrec (j, O.set j ((r * 4294967296 + l[j]) / m)) ⟨by omega, by simp [h2], fun x hxx => by
          rcases List.mem_or_eq_of_mem_set hxx with h | h
          · exact h3 x h
          · rw [h]; exact hq, by
          dsimp only
          rw [hd, val_cons, s1, List.drop_set, if_neg (by omega), Nat.sub_self, List.drop_eq_getElem_cons (by omega : j < O.length), List.set_cons_zero, val_cons, h4]⟩ (by dsimp only; omega)
      dsimp only at this
      rw [hd, val_cons, s2] at this
      rw [hi]
      simp only [GMb, joinPt, decide_true, decide_false, if_true, if_false, ag_succ, hge, w1, idx_enL hj, load_cptr, List.getElem?_cons_zero, w2, w3, hcm 0, bin_quo hmz, w4, w5, hidx, hst, and_true, eq_self, bin_rem hmz, w6, w7]
      exact this
end Go.Gm
/- Chapter 3 of the document: numbers as texts. -/
namespace Go.Gm
set_option linter.unusedVariables false
set_option linter.unusedSimpArgs false
/-- The digits of a number. -/
def decN (n : Nat) : List UInt8 := if h : n < 10 then [UInt8.ofNat (48 + n)] else decN (n / 10) ++ [UInt8.ofNat (48 + n % 10)]
termination_by n
decreasing_by omega
def decZ (z : Int) : List UInt8 := if z < 0 then 45 :: decN z.natAbs else decN z.natAbs
theorem decN_len : ∀ n, (decN n).length ≤ n + 1 := by
  intro n
  induction n using Nat.strongRecOn with
  | ind n ih =>
    unfold decN
    split
    · simp
    · have := ih (n / 10) (by omega)
      simp; omega
theorem decN_log : ∀ (k n : Nat), n < 10 ^ (k + 1) → (decN n).length ≤ k + 1 := by
  intro k
  induction k with
  | zero => intro n h; unfold decN; rw [dif_pos (by omega)]; simp
  | succ k ih =>
    intro n h
    unfold decN
    split
    · simp
    · have h2 : n / 10 < 10 ^ (k + 1) := by
        rw [Nat.div_lt_iff_lt_mul (by omega), ← Nat.pow_succ]; exact h
      have := ih (n / 10) h2
      simp; omega
theorem decN_log2 (k n : Nat) (h : n < 10 ^ k) : (decN n).length ≤ k + (if k = 0 then 1 else 0) := by
  cases k with
  | zero => have := decN_log 0 n (by omega); simpa using this
  | succ k => have := decN_log k n h; simpa using this
theorem digit_u8 {d : Nat} (h : d < 10) : convInt .u8 (.int .u32 (IntKind.u32.wrap (48 + (d : Int)))) = some (.int .u8 ((UInt8.ofNat (48 + d)).toNat : Int)) := by
  rw [conv_int, wrap_u32 (by omega) (by omega), wrap_u8 (by omega) (by omega), UInt8.toNat_ofNat_of_lt' (show 48 + d < 256 by omega)]
  rfl
theorem pow10_32 (k : Nat) : 10 ^ k ≤ 4294967296 ^ k := Nat.pow_le_pow_left (by omega) k
theorem lims_short {n : Nat} (h : n < 10 ^ 4096) : (lims n).length ≤ 4096 := lims_len (Nat.lt_of_lt_of_le h (pow10_32 4096))
theorem q03_text (z : Int) (H : AHeap) (hz : z.natAbs < 10 ^ 4096) : Sh.gliderref03_Text (big z) H = some (.ret (.str (decZ z)), H) := by
  unfold Sh.gliderref03_Text
  have g0 : loadA false 1 (.ptr H.length 0 0) (H ++ [Blk.cel 0 (bigC z)]) = some (.bool (decide (z < 0))) := by simp only [loadA, get_cel last_cel, Option.bind_some]; rfl
  have g1 : loadA false 1 (.ptr H.length 0 1) (H ++ [Blk.cel 0 (bigC z)]) = some (.sl (enL cU (lims z.natAbs)) .no) := by simp only [loadA, get_cel last_cel, Option.bind_some]; rfl
  simp only [GMb, joinPt, decide_true, decide_false, if_true, if_false, boxBig, fieldAddr_ptr, Nat.zero_add, g1]
  have hmeas : ∀ n : Nat, n < 10 ^ 4096 → (decN n).length ≤ 4096 := fun n h => decN_log2 4096 n h
  have key := loop_fun (G := fun rec1 vs H1 => Sh.gliderref03_Text_l1 H rec1 (ag vs 0) (ag vs 1) (ag vs 2) H1) (σ := Nat × List UInt8) (fun s => s.1 < 10 ^ 4096 ∧ s.2.length + (decN s.1).length ≤ 5000)
    (fun s => [.ptr H.length 0 0, .str s.2, .sl (enL cU (lims s.1)) .no]) (fun _ => H ++ [.cel 0 (bigC z)]) (fun s => (decN s.1).length)
    (fun s => some (.ret (.str ((if z < 0 then [45] else []) ++ decN s.1 ++ s.2)), H)) (fun s rec hs hrec => ?_) (z.natAbs, []) ⟨hz, by have := hmeas _ hz; simp; omega⟩ (by have := hmeas _ hz; dsimp only; omega)
  · refine key.trans ?_
    unfold decZ
    dsimp only
    split <;> simp
  · obtain ⟨n, s⟩ := s
    obtain ⟨h1, h2⟩ := hs
    simp only at h1 h2 hrec ⊢
    have hdiv := fun H => q01_div (lims n) .no 10 H (by have := lims_short h1; omega) (lim_lims n) (by omega) (by omega)
    simp only [val_lims, show ((10 : Nat) : Int) = 10 from rfl] at hdiv
    have hd : n % 10 < 10 := Nat.mod_lt _ (by omega)
    have hdig := digit_u8 hd
    unfold Sh.gliderref03_Text_l1
    simp only [GMb, joinPt, decide_true, decide_false, if_true, if_false, ag_succ, hdiv, extract_0, extract_1, hdig, build_Y, toStr_enL]
    rw [bin_sadd (by simp; omega)]
    simp only [GMb, joinPt, decide_true, decide_false, if_true, if_false, len_enL]
    by_cases hn : n < 10
    · have h0 : n / 10 = 0 := by omega
      have hm : n % 10 = n := by omega
      have hdn : decN n = [UInt8.ofNat (48 + n)] := by unfold decN; rw [dif_pos hn]
      rw [hdn, h0, lims_zero, hm]
      simp only [GMb, joinPt, decide_true, decide_false, if_true, if_false, List.length_nil, show ((0 : Nat) : Int) = 0 from rfl, fieldAddr_ptr, Nat.add_zero, g0]
      by_cases hz0 : z < 0
      · simp only [hz0, GMb, joinPt, decide_true, decide_false, if_true, if_false]
        rw [bin_sadd (by simp; omega)]
        simp only [GMb, joinPt, decide_true, decide_false, if_true, if_false, rP_str]
        simp
      · simp only [hz0, GMb, joinPt, decide_true, decide_false, if_true, if_false, rP_str]
        simp
    · have h0 : n / 10 ≠ 0 := by omega
      have hne : ¬ ((lims (n / 10)).length : Int) = 0 := by
        have := List.length_pos_iff.2 (lims_ne h0); omega
      have hdn : decN n = decN (n / 10) ++ [UInt8.ofNat (48 + n % 10)] := by
        conv => lhs; unfold decN
        rw [dif_neg hn]
      have hlen : (decN n).length = (decN (n / 10)).length + 1 := by rw [hdn]; simp
      have := hrec (n / 10, [UInt8.ofNat (48 + n % 10)] ++ s) ⟨Nat.lt_of_le_of_lt (Nat.div_le_self _ _) h1, by simp; omega⟩ (by dsimp only; omega)
      simp only [hne, GMb, joinPt, decide_true, decide_false, if_true, if_false]
      rw [this, hdn]
      simp
end Go.Gm
/- Chapter 12 of the document: Life 1.05: its rows. -/
namespace Go.Gm
set_option linter.unusedVariables false
set_option linter.unusedSimpArgs false
def row5 (r : List UInt8) : List UInt8 := if rowT 42 r = [] then [46] else rowT 42 r
def life5R (s0 : List UInt8) (rows : List (List UInt8)) : List UInt8 := rows.foldl (fun s r => s ++ row5 r ++ [10]) s0
theorem life5R_take (s0 : List UInt8) (rows : List (List UInt8)) {i : Nat} (hi : i < rows.length) : life5R s0 (rows.take (i + 1)) = life5R s0 (rows.take i) ++ row5 rows[i] ++ [10] := by
  unfold life5R
  rw [List.take_succ_eq_append_getElem hi, List.foldl_append]; rfl
theorem row5_len (r : List UInt8) : (row5 r).length ≤ r.length + 1 := by
  have := rowT_len 42 r
  unfold row5
  split
  · simp
  · omega
theorem life5R_len (s0 : List UInt8) (rows : List (List UInt8)) (h : ∀ r ∈ rows, r.length ≤ 1000) : ∀ i, i ≤ rows.length → (life5R s0 (rows.take i)).length ≤ s0.length + i * 1002
  | 0, _ => by simp [life5R]
  | i + 1, hi => by
    have ih := life5R_len s0 rows h i (by omega)
    have h1 := row5_len rows[i]
    have h2 := h rows[i] (List.getElem_mem hi)
    rw [life5R_take s0 rows hi]
    simp only [List.length_append, List.length_singleton]
    omega
theorem life5_loop (H Hc : AHeap) (G : AHeap) (s0 : List UInt8) (X Y : Int) (rows : List (List UInt8)) (p : Nat) (hr : s0.length < 70368744177664) (hn : rows.length ≤ 1000) (h : ∀ r ∈ rows, r.length ≤ 1000)
    (hp : Hc[p]? = some (.cel 0 (gridT X Y (.sl (enL cS rows) .no)))) (hH : Hc = H ++ G) :
    Sh.gliderref12_Life5_j1 H (.ptr p 0 0) (.str s0) Hc = some (.ret (.tup [.str (life5R s0 rows), .int .i64 0]), H) := by
  have hld : loadA false 1 (.ptr p 0 4) Hc = some (.sl (enL cS rows) .no) := by simp only [loadA, get_cel hp, Option.bind_some]; rfl
  unfold Sh.gliderref12_Life5_j1
  refine loop_up (G := fun rec2 vs H1 => Sh.gliderref12_Life5_l2 H rec2 (ag vs 0) (ag vs 1) (ag vs 2) H1) rows.length (fun i => [.ptr p 0 0, .str (life5R s0 (rows.take i)), .int .i64 (i : Int)]) (fun _ => Hc) _ (by omega) (fun rec i hi => ?_) (fun rec => ?_)
  · have hi' : (i : Int) < (rows.length : Int) := by omega
    have hws := wrap_succ (show i < 9223372036854775807 by omega)
    have hb := life5R_len s0 rows h i (by omega)
    have h1 := row5_len rows[i]
    have h2 := h rows[i] (List.getElem_mem hi)
    have hrow := fun H => q12_row rows[i] 42 H (by omega)
    simp only [show ((42 : UInt8).toNat : Int) = 42 from rfl] at hrow
    have j3 : ∀ t : List UInt8, t = row5 rows[i] → Sh.gliderref12_Life5_j3 H rec (.ptr p 0 0) (.str (life5R s0 (rows.take i))) (.int .i64 (i : Int)) (.str t) Hc = rec [.ptr p 0 0, .str (life5R s0 (rows.take i) ++ row5 rows[i] ++ [10]), .int .i64 ((i + 1 : Nat) : Int)] Hc := by
      intro t ht
      subst ht
      unfold Sh.gliderref12_Life5_j3
      rw [bin_sadd (by omega)]
      simp only [GMb, joinPt, decide_true, decide_false, if_true, if_false]
      rw [bin_sadd (by simp only [List.length_append, List.length_singleton]; omega)]
      simp only [GMb, joinPt, decide_true, decide_false, if_true, if_false, hws]
    rw [life5R_take s0 rows hi]
    unfold Sh.gliderref12_Life5_l2
    simp only [GMb, joinPt, decide_true, decide_false, if_true, if_false, fieldAddr_ptr, Nat.zero_add, hld, len_enL, hi', idx_enL hi, load_cptr, List.getElem?_cons_zero, hrow, ag_succ, bin_seql]
    by_cases he : rowT 42 rows[i] = []
    · have : (rowT 42 rows[i] == []) = true := by rw [he]; rfl
      rw [this]
      simp only [GMb, joinPt, decide_true, decide_false, if_true, if_false]
      exact j3 [46] (by unfold row5; rw [if_pos he])
    · have : (rowT 42 rows[i] == []) = false := by
        cases hq : rowT 42 rows[i] with
        | nil => exact absurd hq he
        | cons a l => rfl
      rw [this]
      simp only [GMb, joinPt, decide_true, decide_false, if_true, if_false]
      exact j3 _ (by unfold row5; rw [if_neg he])
  · unfold Sh.gliderref12_Life5_l2
    rw [List.take_of_length_le (Nat.le_refl _)]
    simp only [GMb, joinPt, decide_true, decide_false, if_true, if_false, fieldAddr_ptr, Nat.zero_add, hld, len_enL, Int.lt_irrefl]
    rw [hH]
    exact rP_plain (v := .tup [.str (life5R s0 rows), .int .i64 0]) rfl
end Go.Gm
/- Chapter 12 of the document: Life 1.05: all of it. -/
namespace Go.Gm
set_option linter.unusedVariables false
set_option linter.unusedSimpArgs false
def life5Head (rule : List UInt8) : List UInt8 := [35, 76, 105, 102, 101, 32, 49, 46, 48, 53, 10, 35, 82, 32] ++ rule ++ [10]
def life5S (rule : List UInt8) (L : List Nd) : List UInt8 :=
  if rowsO L = [] then life5Head rule else life5Head rule ++ [35, 80, 32] ++ decZ (bx L bxX) ++ [32] ++ decZ (bx L bxY) ++ [10]
theorem sb_lt10 {z : Int} {k m : Nat} (h : SB k z) (hk : 10 * k ≤ m) : z.natAbs < 10 ^ m := Nat.lt_of_lt_of_le h (pow10_le hk)
theorem sb_dec {z : Int} (h : SB 44 z) : z.natAbs < 10 ^ 4096 ∧ (decZ z).length ≤ 5000 := by
  have h1 : z.natAbs < 10 ^ 4096 := sb_lt10 (m := 4096) h (by decide)
  refine ⟨h1, ?_⟩
  have := decN_log2 4096 z.natAbs h1
  simp only [show ¬ ((4096 : Nat) = 0) by decide, if_false] at this
  unfold decZ
  split
  · simp; omega
  · omega
theorem q12_life5 (rule : List UInt8) (L : List Nd) (b n : Int) (H : AHeap) (hr : rule.length < 35184372088832) (hL : L.length < 549755813888) (h0 : -9223372036854775808 ≤ b) (h1 : b ≤ 9223372036854775807) :
    Sh.gliderref12_Life5 (pat rule L) (.agg (limC b n)) H = some (.ret (if checkE 2 rule L b n = 0 then .tup [.str (life5R (life5S rule L) (rowsO L)), .int .i64 0] else .tup [.str [], .int .i64 (checkE 2 rule L b n)]), H) := by
  unfold Sh.gliderref12_Life5
  have hbx : ∀ H, boxA true 2 (.agg (limC b n)) H = some (.ptr H.length 0 0, H ++ [.cel 0 (limC b n)]) := fun H => box_agg rfl rfl
  have e3 : (H ++ [Blk.cel 0 (patC rule L)] ++ [Blk.cel 0 (limC b n)])[H.length]? = some (.cel 0 (patC rule L)) := by simp
  have g5 : loadA true 2 (.ptr (H ++ [Blk.cel 0 (patC rule L)]).length 0 0) (H ++ [Blk.cel 0 (patC rule L)] ++ [Blk.cel 0 (limC b n)]) = some (.agg (limC b n)) := by
    simp only [loadA, get_cel (last_cel (B := H ++ [Blk.cel 0 (patC rule L)])), Option.bind_some]; rfl
  have g6 : loadA false 1 (.ptr (H ++ [Blk.cel 0 (patC rule L)]).length 0 0) (H ++ [Blk.cel 0 (patC rule L)] ++ [Blk.cel 0 (limC b n)]) = some (.int .i64 b) := by
    simp only [loadA, get_cel (last_cel (B := H ++ [Blk.cel 0 (patC rule L)])), Option.bind_some]; rfl
  have hck := fun H => q11_check 2 rule L b n H (by omega) hL h0 h1
  simp only [GMb, joinPt, decide_true, decide_false, if_true, if_false, boxPat, hbx, load_patP e3, g5, hck]
  by_cases he : checkE 2 rule L b n = 0
  · obtain ⟨hl, b0, b1, hw, _, _⟩ := check_ok he (by decide)
    obtain ⟨r1, r2⟩ := rowsO_len hl b0 b1 hw
    have hgo := fun H => q10_of L b H hL hl h0 h1
    simp only [gridO_fits b0 b1 hw] at hgo
    rw [if_pos he]
    simp only [he, GMb, joinPt, decide_true, decide_false, if_true, if_false, fieldAddr_ptr, Nat.zero_add, Nat.add_zero, load_quadP e3, g6, hgo, extract_0, extract_1, alloc_zGrid]
    generalize hB : H ++ [Blk.cel 0 (patC rule L)] ++ [Blk.cel 0 (limC b n)] = B at e3
    have hsx : SB 44 (bx L bxX) ∧ SB 44 (bx L bxY) := by
      unfold bx
      by_cases hn : L = []
      · rw [if_pos hn, if_pos hn]; exact ⟨SB_nat (n := 0) (by omega), SB_nat (n := 0) (by omega)⟩
      · rw [if_neg hn, if_neg hn]; exact bxX_sb hl hn
    obtain ⟨x1, x2⟩ := sb_dec hsx.1
    obtain ⟨y1, y2⟩ := sb_dec hsx.2
    have hstg : storeA 5 (.ptr B.length 0 0) (gridV (bx L bxX) (bx L bxY) (rowsO L)) (B ++ [Blk.cel 0 zGrid]) = some (B ++ [Blk.cel 0 (gridT (bx L bxX) (bx L bxY) (.sl (enL cS (rowsO L)) .no))]) := by
      unfold gridV
      simp only [storeA, get_cel (last_cel (B := B) (cs := zGrid)), Option.bind_some, acells_agg (gridT_scal _ _ _ _), setC_cel (last_cel (B := B) (cs := zGrid)), putN_all (cs := zGrid) (sz := 5) rfl, last_set]
      rfl
    have hrl := load_ruleP (get_left (G := [Blk.cel 0 (gridT (bx L bxX) (bx L bxY) (.sl (enL cS (rowsO L)) .no))]) e3)
    have gx : loadA true 2 (.ptr B.length 0 0) (B ++ [Blk.cel 0 (gridT (bx L bxX) (bx L bxY) (.sl (enL cS (rowsO L)) .no))]) = some (big (bx L bxX)) := by simp only [loadA, get_cel (last_cel (B := B)), Option.bind_some]; rfl
    have gy : loadA true 2 (.ptr B.length 0 2) (B ++ [Blk.cel 0 (gridT (bx L bxX) (bx L bxY) (.sl (enL cS (rowsO L)) .no))]) = some (big (bx L bxY)) := by simp only [loadA, get_cel (last_cel (B := B)), Option.bind_some]; rfl
    have gr : loadA false 1 (.ptr B.length 0 4) (B ++ [Blk.cel 0 (gridT (bx L bxX) (bx L bxY) (.sl (enL cS (rowsO L)) .no))]) = some (.sl (enL cS (rowsO L)) .no) := by simp only [loadA, get_cel (last_cel (B := B)), Option.bind_some]; rfl
    have tx := fun H => q03_text (bx L bxX) H x1
    have ty' := fun H => q03_text (bx L bxY) H y1
    have fin : ∀ s0 : List UInt8, s0.length < 70368744177664 → Sh.gliderref12_Life5_j1 H (.ptr B.length 0 0) (.str s0) (B ++ [Blk.cel 0 (gridT (bx L bxX) (bx L bxY) (.sl (enL cS (rowsO L)) .no))]) = some (.ret (.tup [.str (life5R s0 (rowsO L)), .int .i64 0]), H) := fun s0 hs0 =>
      life5_loop H _ ([Blk.cel 0 (patC rule L)] ++ ([Blk.cel 0 (limC b n)] ++ [Blk.cel 0 (gridT (bx L bxX) (bx L bxY) (.sl (enL cS (rowsO L)) .no))])) s0 (bx L bxX) (bx L bxY) (rowsO L) B.length hs0 r1 r2 last_cel (by rw [← hB]; simp)
    simp only [GMb, joinPt, decide_true, decide_false, if_true, if_false, hstg, fieldAddr_ptr, Nat.add_zero, hrl]
    rw [bin_sadd (by simp; omega)]
    simp only [GMb, joinPt, decide_true, decide_false, if_true, if_false]
    rw [bin_sadd (by simp; omega)]
    simp only [GMb, joinPt, decide_true, decide_false, if_true, if_false, fieldAddr_ptr, Nat.zero_add, gr, len_enL, ag_succ]
    unfold life5S
    by_cases hro : rowsO L = []
    · rw [if_pos hro]
      have : ¬ (((rowsO L).length : Int) > 0) := by rw [hro]; simp
      simp only [this, GMb, joinPt, decide_true, decide_false, if_true, if_false, ag_succ]
      exact fin (life5Head rule) (by unfold life5Head; simp; omega)
    · rw [if_neg hro]
      have hpos := List.length_pos_iff.2 hro
      have : (((rowsO L).length : Int) > 0) := by omega
      simp only [this, GMb, joinPt, decide_true, decide_false, if_true, if_false, ag_succ, fieldAddr_ptr, Nat.zero_add, Nat.add_zero, gx, gy, tx, ty', and_true, eq_self]
      rw [bin_sadd (by simp; omega)]
      simp only [GMb, joinPt, decide_true, decide_false, if_true, if_false]
      rw [bin_sadd (by simp; omega)]
      simp only [GMb, joinPt, decide_true, decide_false, if_true, if_false]
      rw [bin_sadd (by simp; omega)]
      simp only [GMb, joinPt, decide_true, decide_false, if_true, if_false]
      rw [bin_sadd (by simp; omega)]
      simp only [GMb, joinPt, decide_true, decide_false, if_true, if_false]
      rw [bin_sadd (by simp; omega)]
      simp only [GMb, joinPt, decide_true, decide_false, if_true, if_false, ag_succ]
      exact fin _ (by simp; omega)
  · rw [if_neg he]
    simp only [he, GMb, joinPt, decide_true, decide_false, if_true, if_false]
    rw [List.append_assoc]
    exact rP_plain (v := .tup [.str [], .int .i64 (checkE 2 rule L b n)]) rfl
end Go.Gm
/- Chapter 13 of the document: signs, tokens. -/
namespace Go.Gm
set_option linter.unusedVariables false
set_option linter.unusedSimpArgs false
def signS (n : Nat) (two : Bool) : List UInt8 :=
  if two && decide (n = 0) then [98] else if two && decide (n = 1) then [111] else if n = 0 then [46]
  else if n ≤ 24 then [UInt8.ofNat (64 + n)] else [UInt8.ofNat (112 + (n - 25) / 24), UInt8.ofNat (65 + (n - 25) % 24)]
theorem u8_nat {n : Nat} (h : n < 256) : ((UInt8.ofNat n).toNat : Int) = (n : Int) := by rw [UInt8.toNat_ofNat_of_lt' (show n < 256 from h)]
theorem build_YY (a b : UInt8) : buildSl 1 [.int .u8 (a.toNat : Int), .int .u8 (b.toNat : Int)] = some (.sl (enL cY [a, b]) .tight) := by simp [buildSl, seqCells, immC, isImm, AVal.acells, enL]
theorem q13_sign (n : Nat) (two : Bool) (H : AHeap) (hn : n < 256) : Sh.gliderref13_Sign (.int .u8 (n : Int)) (.bool two) H = some (.ret (.str (signS n two)), H) := by
  unfold Sh.gliderref13_Sign signS
  have d0 : decide ((n : Int) = 0) = decide (n = 0) := by rw [Bool.eq_iff_iff]; simp only [decide_eq_true_eq]; omega
  have d1 : decide ((n : Int) = 1) = decide (n = 1) := by rw [Bool.eq_iff_iff]; simp only [decide_eq_true_eq]; omega
  have rest : ((binA .none .eql (.int .u8 (n : Int)) (.int .u8 0)).bind fun x9 => condA x9 (rK H (.str [46]) H) (
     (binA .none .leq (.int .u8 (n : Int)) (.int .u8 24)).bind fun x10 => condA x10 (
     (binA .none .add (.int .u8 65) (.int .u8 (n : Int))).bind fun x11 => (binA .none .sub x11 (.int .u8 1)).bind fun x12 => (buildSl 1 [x12]).bind fun x13 => (convToStr x13 H).bind fun x14 => rK H x14 H) (
     (binA .none .sub (.int .u8 (n : Int)) (.int .u8 25)).bind fun x15 => (binA .none .quo x15 (.int .u8 24)).bind fun x16 => (binA .none .add (.int .u8 112) x16).bind fun x17 =>
     (binA .none .sub (.int .u8 (n : Int)) (.int .u8 25)).bind fun x18 => (binA .none .rem x18 (.int .u8 24)).bind fun x19 => (binA .none .add (.int .u8 65) x19).bind fun x20 =>
     (buildSl 1 [x17, x20]).bind fun x21 => (convToStr x21 H).bind fun x22 => rK H x22 H))) = some (.ret (.str (if n = 0 then [46] else if n ≤ 24 then [UInt8.ofNat (64 + n)] else [UInt8.ofNat (112 + (n - 25) / 24), UInt8.ofNat (65 + (n - 25) % 24)])), H) := by
    by_cases h0 : n = 0
    · subst h0; rfl
    · have h0' : ¬ (n : Int) = 0 := by omega
      by_cases h24 : n ≤ 24
      · have h24' : (n : Int) ≤ 24 := by omega
        have w1 : IntKind.u8.wrap (65 + (n : Int)) = 65 + (n : Int) := wrap_u8 (by omega) (by omega)
        have w2 : IntKind.u8.wrap (65 + (n : Int) - 1) = ((UInt8.ofNat (64 + n)).toNat : Int) := by rw [wrap_u8 (by omega) (by omega), u8_nat (by omega)]; omega
        simp only [GMb, joinPt, decide_true, decide_false, if_true, if_false, h0, h0', h24, h24', w1, w2, build_Y, toStr_enL]
      · have h24' : ¬ (n : Int) ≤ 24 := by omega
        have w1 : IntKind.u8.wrap ((n : Int) - 25) = ((n - 25 : Nat) : Int) := by rw [wrap_u8] <;> omega
        have w2 : IntKind.u8.wrap (((n - 25 : Nat) : Int).tdiv 24) = (((n - 25) / 24 : Nat) : Int) := by rw [show (((n - 25 : Nat) : Int).tdiv 24) = (((n - 25) / 24 : Nat) : Int) from rfl, wrap_u8] <;> omega
        have w3 : IntKind.u8.wrap (112 + (((n - 25) / 24 : Nat) : Int)) = ((UInt8.ofNat (112 + (n - 25) / 24)).toNat : Int) := by rw [wrap_u8 (by omega) (by omega), u8_nat (by omega)]; omega
        have w4 : ((n - 25 : Nat) : Int).tmod 24 = (((n - 25) % 24 : Nat) : Int) := rfl
        have w5 : IntKind.u8.wrap (65 + (((n - 25) % 24 : Nat) : Int)) = ((UInt8.ofNat (65 + (n - 25) % 24)).toNat : Int) := by rw [wrap_u8 (by omega) (by omega), u8_nat (by omega)]; omega
        simp only [GMb, joinPt, decide_true, decide_false, if_true, if_false, h0, h0', h24, h24', w1, bin_quo (show (24 : Int) ≠ 0 by decide), w2, w3, bin_rem (show (24 : Int) ≠ 0 by decide), w4, w5, build_YY, toStr_enL]
  cases two with
  | false =>
    simp only [gk_tf, gk_ft, gk_s, gk_ff, gk_tt, condV_false, obind, condA_false, Bool.false_and, Bool.false_eq_true, if_false]
    exact rest
  | true =>
    simp only [gk_tt, obind, bin_eql, beq_dec, d0, condV_true, d1]
    by_cases h0 : n = 0
    · subst h0; rfl
    · by_cases h1 : n = 1
      · subst h1; rfl
      · simp only [h0, h1, decide_false, condA_false, Bool.and_false, Bool.false_eq_true, if_false]
        simp only [gk_tt, obind, bin_eql, beq_dec, d0, condV_true, d1] at rest
        simp only [h0, h1, decide_false, condA_false, Bool.and_false, Bool.false_eq_true, if_false] at rest
        exact rest
def tokenT (n : Int) (sign : List UInt8) : List UInt8 := if n = 1 then sign else decZ n ++ sign
theorem q13_token (n : Int) (sign : List UInt8) (H : AHeap) (h0 : -1000000000 ≤ n) (h1 : n ≤ 1000000000) (hs : sign.length ≤ 1000) : Sh.gliderref13_token (.int .i64 n) (.str sign) H = some (.ret (.str (tokenT n sign)), H) := by
  unfold Sh.gliderref13_token tokenT
  have hof := fun H => q02_of n H (by omega) (by omega)
  have hsb : SB 44 n := by
    unfold SB
    have : (4294967296 : Nat) ^ 1 ≤ 4294967296 ^ 44 := pow_le32 (by omega)
    omega
  obtain ⟨d1, d2⟩ := sb_dec hsb
  have htx := fun H => q03_text n H d1
  by_cases hn : n = 1
  · simp only [hn, GMb, joinPt, decide_true, decide_false, if_true, if_false]
  · simp only [hn, GMb, joinPt, decide_true, decide_false, if_true, if_false, hof, htx]
    rw [bin_sadd (by omega)]
    simp only [GMb, joinPt, decide_true, decide_false, if_true, if_false]
end Go.Gm
