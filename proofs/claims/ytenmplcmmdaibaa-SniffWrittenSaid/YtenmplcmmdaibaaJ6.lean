/- Texts of this proof, joined. -/
import Derived.Test.YtenmplcmmdaibaaJ3
import Derived.Test.YtenmplcmmdaibaaJ4
import Derived.Test.YtenmplcmmdaibaaJ5
import Derived.ProofKit
import Derived.OpenShut
import Derived.JoinedCond
import Derived.Carry
/- Chapter 13 of the document: how much of a row is used; are all states at most 1? -/
namespace Go.Gm
set_option linter.unusedVariables false
set_option linter.unusedSimpArgs false
theorem u8_zero (b : UInt8) : decide ((b.toNat : Int) = 0) = decide (b = 0) := by
  rw [Bool.eq_iff_iff]; simp only [decide_eq_true_eq]
  constructor
  · intro h; exact UInt8.toNat_inj.1 (by simpa using h)
  · intro h; rw [h]; rfl
theorem q13_used (s : List UInt8) (H : AHeap) (hs : s.length < 70368744177664) : Sh.gliderref13_used (.str s) H = some (.ret (.int .i64 (usedN s : Int)), H) := by
  unfold Sh.gliderref13_used
  refine loop_up (G := fun rec1 vs H1 => Sh.gliderref13_used_l1 H rec1 (ag vs 0) (ag vs 1) (ag vs 2) H1) s.length (fun i => [.str s, .int .i64 (usedN (s.take i) : Int), .int .i64 (i : Int)]) (fun _ => H) _ (by omega) (fun rec i hi => ?_) (fun rec => ?_)
  · have hi' : (i : Int) < (s.length : Int) := by omega
    have hws := wrap_succ (show i < 9223372036854775807 by omega)
    have htl : (s.take i).length = i := by simp; omega
    have hun : usedN (s.take (i + 1)) = if s[i] = 0 then usedN (s.take i) else i + 1 := by
      rw [List.take_succ_eq_append_getElem hi, usedN_snoc, htl]
    rw [hun]
    unfold Sh.gliderref13_used_l1
    simp only [GMb, joinPt, decide_true, decide_false, if_true, if_false, len_str, hi', idx_str hi, u8_zero, ag_succ]
    by_cases h0 : s[i] = 0
    · simp only [h0, GMb, joinPt, decide_true, decide_false, if_true, if_false, ag_succ, Sh.gliderref13_used_j2, hws]
    · simp only [h0, GMb, joinPt, decide_true, decide_false, if_true, if_false, ag_succ, Sh.gliderref13_used_j2, hws]
  · unfold Sh.gliderref13_used_l1
    rw [List.take_of_length_le (Nat.le_refl _)]
    simp only [GMb, joinPt, decide_true, decide_false, if_true, if_false, len_str, Int.lt_irrefl]
end Go.Gm
/- Chapter 13 of the document: are all states at most 1? -/
namespace Go.Gm
set_option linter.unusedVariables false
set_option linter.unusedSimpArgs false
def twoB (rows : List (List UInt8)) : Bool := (List.range rows.length).all fun y => (List.range (rows.getD y []).length).all fun x => decide (((rows.getD y []).getD x 0).toNat ≤ 1)
theorem q13_two (X Y : Int) (rows : List (List UInt8)) (tk : Tok) (H : AHeap) (hn : rows.length < 70368744177664) (h : ∀ r ∈ rows, r.length < 70368744177664) :
    Sh.gliderref13_two (.agg (gridT X Y (.sl (enL cS rows) tk))) H = some (.ret (.bool (twoB rows)), H) := by
  unfold Sh.gliderref13_two
  have hbx : boxA true 5 (.agg (gridT X Y (.sl (enL cS rows) tk))) H = some (.ptr H.length 0 0, H ++ [.cel 0 (gridT X Y (.sl (enL cS rows) tk))]) := box_agg (gridT_scal _ _ _ _) rfl
  have hld : loadA false 1 (.ptr H.length 0 4) (H ++ [Blk.cel 0 (gridT X Y (.sl (enL cS rows) tk))]) = some (.sl (enL cS rows) tk) := by simp only [loadA, get_cel last_cel, Option.bind_some]; rfl
  simp only [hbx, GMb, joinPt, decide_true, decide_false, if_true, if_false]
  have key := loop_all (G := fun rec1 vs H1 => Sh.gliderref13_two_l1 H rec1 (ag vs 0) (ag vs 1) H1) rows.length (fun y => (List.range (rows.getD y []).length).all fun x => decide (((rows.getD y []).getD x 0).toNat ≤ 1)) (fun y => [.ptr H.length 0 0, .int .i64 (y : Int)]) (H ++ [.cel 0 (gridT X Y (.sl (enL cS rows) tk))])
    (some (.ret (.bool true), H)) (some (.ret (.bool false), H)) (by omega) (fun rec y hy => ?_) (fun rec => ?_)
  · refine key.trans ?_
    unfold twoB
    cases (List.range rows.length).all fun y => (List.range (rows.getD y []).length).all fun x => decide (((rows.getD y []).getD x 0).toNat ≤ 1) <;> rfl
  · have hy' : (y : Int) < (rows.length : Int) := by omega
    have hws := wrap_succ (show y < 9223372036854775807 by omega)
    have hrow : rows.getD y [] = rows[y] := by rw [List.getD_eq_getElem?_getD, List.getElem?_eq_getElem hy]; rfl
    have hrl := h rows[y] (List.getElem_mem hy)
    rw [hrow]
    unfold Sh.gliderref13_two_l1
    simp only [GMb, joinPt, decide_true, decide_false, if_true, if_false, fieldAddr_ptr, Nat.zero_add, hld, len_enL, hy']
    refine loop_all (G := fun rec2 vs H1 => Sh.gliderref13_two_l2 H rec rec2 (ag vs 0) (ag vs 1) (ag vs 2) H1) rows[y].length (fun x => decide ((rows[y].getD x 0).toNat ≤ 1)) (fun x => [.ptr H.length 0 0, .int .i64 (y : Int), .int .i64 (x : Int)]) (H ++ [.cel 0 (gridT X Y (.sl (enL cS rows) tk))]) _ _ (by omega) (fun rec2 x hx => ?_) (fun rec2 => ?_)
    · have hx' : (x : Int) < (rows[y].length : Int) := by omega
      have hwx := wrap_succ (show x < 9223372036854775807 by omega)
      have hd : decide ((rows[y][x].toNat : Int) > 1) = !decide ((rows[y].getD x 0).toNat ≤ 1) := by
        rw [List.getD_eq_getElem?_getD, List.getElem?_eq_getElem hx, Bool.eq_iff_iff]; simp; omega
      unfold Sh.gliderref13_two_l2
      simp only [GMb, joinPt, decide_true, decide_false, if_true, if_false, ag_succ, fieldAddr_ptr, Nat.zero_add, hld, idx_enL hy, load_cptr, List.getElem?_cons_zero, len_str, hx', idx_str hx, hd, rP_bool, hwx]
      cases decide ((rows[y].getD x 0).toNat ≤ 1) <;> simp only [GMb, joinPt, decide_true, decide_false, if_true, if_false]
    · unfold Sh.gliderref13_two_l2
      simp only [GMb, joinPt, decide_true, decide_false, if_true, if_false, ag_succ, fieldAddr_ptr, Nat.zero_add, hld, idx_enL hy, load_cptr, List.getElem?_cons_zero, len_str, Int.lt_irrefl, hws]
  · unfold Sh.gliderref13_two_l1
    simp only [GMb, joinPt, decide_true, decide_false, if_true, if_false, fieldAddr_ptr, Nat.zero_add, hld, len_enL, Int.lt_irrefl, rP_bool]
end Go.Gm
/- Chapter 13 of the document: tokens in lines. -/
namespace Go.Gm
set_option linter.unusedVariables false
set_option linter.unusedSimpArgs false
def wrapStep (p : List UInt8 × List UInt8) (t : List UInt8) : List UInt8 × List UInt8 :=
  if p.2.length + t.length > 70 then (p.1 ++ p.2 ++ [10], t) else (p.1, p.2 ++ t)
def wrapAll (l : List (List UInt8)) : List UInt8 × List UInt8 := l.foldl wrapStep ([], [])
def wrapT (l : List (List UInt8)) : List UInt8 := (wrapAll l).1 ++ (wrapAll l).2 ++ [10]
theorem wrapAll_take (l : List (List UInt8)) {i : Nat} (hi : i < l.length) : wrapAll (l.take (i + 1)) = wrapStep (wrapAll (l.take i)) l[i] := by
  unfold wrapAll
  rw [List.take_succ_eq_append_getElem hi, List.foldl_append]; rfl
theorem wrapAll_len (l : List (List UInt8)) (h : ∀ t ∈ l, t.length ≤ 10000) : ∀ i, i ≤ l.length → (wrapAll (l.take i)).1.length + (wrapAll (l.take i)).2.length ≤ i * 10001
  | 0, _ => by simp [wrapAll]
  | i + 1, hi => by
    have ih := wrapAll_len l h i (by omega)
    have h2 := h l[i] (List.getElem_mem hi)
    rw [wrapAll_take l hi]
    unfold wrapStep
    split
    · simp only [List.length_append, List.length_singleton]; omega
    · simp only [List.length_append]; omega
theorem q13_wrap (l : List (List UInt8)) (tk : Tok) (H : AHeap) (hn : l.length < 1099511627776) (h : ∀ t ∈ l, t.length ≤ 10000) : Sh.gliderref13_wrap (.sl (enL cS l) tk) H = some (.ret (.str (wrapT l)), H) := by
  unfold Sh.gliderref13_wrap
  refine loop_up (G := fun rec1 vs H1 => Sh.gliderref13_wrap_l1 H rec1 (ag vs 0) (ag vs 1) (ag vs 2) (ag vs 3) H1) l.length (fun i => [.sl (enL cS l) tk, .str (wrapAll (l.take i)).1, .str (wrapAll (l.take i)).2, .int .i64 (i : Int)]) (fun _ => H) _ (by omega) (fun rec i hi => ?_) (fun rec => ?_)
  · have hi' : (i : Int) < (l.length : Int) := by omega
    have hws := wrap_succ (show i < 9223372036854775807 by omega)
    have hb := wrapAll_len l h i (by omega)
    have h2 := h l[i] (List.getElem_mem hi)
    rw [wrapAll_take l hi]
    generalize wrapAll (l.take i) = p at hb
    obtain ⟨s, line⟩ := p
    dsimp only at hb ⊢
    have hw : IntKind.i64.wrap ((line.length : Int) + (l[i].length : Int)) = ((line.length + l[i].length : Nat) : Int) := by rw [wrap_i64] <;> omega
    unfold Sh.gliderref13_wrap_l1 wrapStep
    simp only [GMb, joinPt, decide_true, decide_false, if_true, if_false, len_enL, hi', len_str, idx_enL hi, load_cptr, List.getElem?_cons_zero, hw, ag_succ]
    by_cases hg : line.length + l[i].length > 70
    · have hg' : (((line.length + l[i].length : Nat) : Int) > 70) := by omega
      rw [if_pos hg]
      simp only [hg', GMb, joinPt, decide_true, decide_false, if_true, if_false]
      rw [bin_sadd (by omega)]
      simp only [GMb, joinPt, decide_true, decide_false, if_true, if_false]
      rw [bin_sadd (by simp only [List.length_append, List.length_singleton]; omega)]
      simp only [GMb, joinPt, decide_true, decide_false, if_true, if_false, ag_succ, Sh.gliderref13_wrap_j2, idx_enL hi, load_cptr, List.getElem?_cons_zero]
      rw [bin_sadd (by simp; omega)]
      simp only [GMb, joinPt, decide_true, decide_false, if_true, if_false, hws, List.nil_append]
    · have hg' : ¬ (((line.length + l[i].length : Nat) : Int) > 70) := by omega
      rw [if_neg hg]
      simp only [hg', GMb, joinPt, decide_true, decide_false, if_true, if_false, ag_succ, Sh.gliderref13_wrap_j2, idx_enL hi, load_cptr, List.getElem?_cons_zero]
      rw [bin_sadd (by omega)]
      simp only [GMb, joinPt, decide_true, decide_false, if_true, if_false, hws]
  · have hb := wrapAll_len l h l.length (Nat.le_refl _)
    unfold Sh.gliderref13_wrap_l1 wrapT
    rw [List.take_of_length_le (Nat.le_refl _)] at *
    simp only [GMb, joinPt, decide_true, decide_false, if_true, if_false, len_enL, Int.lt_irrefl]
    rw [bin_sadd (by omega)]
    simp only [GMb, joinPt, decide_true, decide_false, if_true, if_false]
    rw [bin_sadd (by simp only [List.length_append, List.length_singleton]; omega)]
    simp only [GMb, joinPt, decide_true, decide_false, if_true, if_false]
end Go.Gm
/- Loops that go on while something holds; rows of texts that grow. -/
namespace Go.Gm
set_option linter.unusedVariables false
set_option linter.unusedSimpArgs false
/-- Loops over states of one's own, that end where they are done: all of a family go the same way. -/
theorem loop_whileF {ι : Type} {G : ι → LK → LK} {σ : Type} (I : σ → List AVal → AHeap → Prop) (μ : σ → Nat) (done : σ → Prop)
    (turn : ∀ (s : σ) (vs : List AVal) (H : AHeap), I s vs H → ¬ done s → ∃ s' vs' H', μ s' < μ s ∧ I s' vs' H' ∧ ∀ (i : ι) (rec : LK), G i rec vs H = rec vs' H')
    {s : σ} {vs : List AVal} {H : AHeap} (h0 : I s vs H) (hm : μ s < 1152921504606846976) : ∃ s' vs' H', done s' ∧ I s' vs' H' ∧ ∀ i, ∃ rec, loopGen (G i) FUEL vs H = G i rec vs' H' := by
  have key : ∀ (n : Nat) (s : σ) (vs : List AVal) (H : AHeap), μ s < n → I s vs H → ∃ s' vs' H', done s' ∧ I s' vs' H' ∧ ∀ i, ∃ rec, loopGen (G i) n vs H = G i rec vs' H' := by
    intro n
    induction n with
    | zero => intro s vs H hn _; omega
    | succ n ih =>
      intro s vs H hn hI
      by_cases hd : done s
      · exact ⟨s, vs, H, hd, hI, fun i => ⟨loopGen (G i) n, loop_succ n vs H⟩⟩
      · obtain ⟨s1, vs1, H1, h1, h2, h3⟩ := turn s vs H hI hd
        obtain ⟨s2, vs2, H2, h4, h5, h6⟩ := ih s1 vs1 H1 (by omega) h2
        exact ⟨s2, vs2, H2, h4, h5, fun i => (h6 i).imp fun rec h7 => by rw [loop_succ, h3, h7]⟩
  exact key FUEL s vs H (by rw [fuel_val]; exact hm) h0
theorem loop_while {G : LK → LK} {σ : Type} (I : σ → List AVal → AHeap → Prop) (μ : σ → Nat) (done : σ → Prop)
    (turn : ∀ (s : σ) (vs : List AVal) (H : AHeap), I s vs H → ¬ done s → ∃ s' vs' H', μ s' < μ s ∧ I s' vs' H' ∧ ∀ rec : LK, G rec vs H = rec vs' H')
    {s : σ} {vs : List AVal} {H : AHeap} (h0 : I s vs H) (hm : μ s < 1152921504606846976) : ∃ s' vs' H', done s' ∧ I s' vs' H' ∧ ∃ rec, loopGen G FUEL vs H = G rec vs' H' := by
  obtain ⟨s', vs', H', h1, h2, h3⟩ := loop_whileF (G := fun (_ : Unit) => G) I μ done (fun s vs H hI hd => by
    obtain ⟨s1, vs1, H1, h1, h2, h3⟩ := turn s vs H hI hd
    exact ⟨s1, vs1, H1, h1, h2, fun _ => h3⟩) h0 hm
  exact ⟨s', vs', H', h1, h2, h3 ()⟩
/-! ### The first run of a row -/
theorem tw_cons {b c : UInt8} {l : List UInt8} : (c :: l).takeWhile (· == b) = if c = b then c :: l.takeWhile (· == b) else [] := by
  rw [List.takeWhile_cons]
  by_cases h : c = b
  · simp [h]
  · simp [h]
theorem dw_cons {b c : UInt8} {l : List UInt8} : (c :: l).dropWhile (· == b) = if c = b then l.dropWhile (· == b) else c :: l := by
  rw [List.dropWhile_cons]
  by_cases h : c = b
  · simp [h]
  · simp [h]
theorem tw_lt {b : UInt8} : ∀ {l : List UInt8} {i : Nat}, i < (l.takeWhile (· == b)).length → l[i]? = some b
  | [], i, h => by simp at h
  | c :: l, i, h => by
    rw [tw_cons] at h
    by_cases hc : c = b
    · rw [if_pos hc] at h
      cases i with
      | zero => simp [hc]
      | succ i => simp only [List.length_cons] at h; rw [List.getElem?_cons_succ]; exact tw_lt (by omega)
    · rw [if_neg hc] at h; simp at h
theorem tw_end {b : UInt8} : ∀ (l : List UInt8), l[(l.takeWhile (· == b)).length]? ≠ some b
  | [] => by simp
  | c :: l => by
    rw [tw_cons]
    by_cases hc : c = b
    · rw [if_pos hc, List.length_cons, List.getElem?_cons_succ]; exact tw_end l
    · rw [if_neg hc]
      intro h; simp at h; exact hc h
theorem tw_le {b : UInt8} (l : List UInt8) : (l.takeWhile (· == b)).length ≤ l.length := (List.takeWhile_sublist _).length_le
theorem dw_drop {b : UInt8} : ∀ (l : List UInt8), l.dropWhile (· == b) = l.drop (l.takeWhile (· == b)).length
  | [] => rfl
  | c :: l => by
    rw [tw_cons, dw_cons]
    by_cases hc : c = b
    · rw [if_pos hc, if_pos hc, List.length_cons, List.drop_succ_cons]; exact dw_drop l
    · rw [if_neg hc, if_neg hc]; rfl
/-! ### Rows that grow -/
theorem Kp.get {b p : Nat} {H H' : AHeap} {cs : List AVal} (h : Kp b H H') (hp : H[p]? = some (.cel 0 cs)) : H'[p]? = some (.cel 0 cs) := h.cel p cs hp
end Go.Gm
/- Chapter 13 of the document: the tokens of a grid. -/
namespace Go.Gm
set_option linter.unusedVariables false
set_option linter.unusedSimpArgs false
def runsL (two : Bool) : List UInt8 → List (List UInt8)
  | [] => []
  | b :: l => tokenT (((l.takeWhile (· == b)).length + 1 : Nat) : Int) (signS b.toNat two) :: runsL two (l.dropWhile (· == b))
termination_by l => l.length
decreasing_by
  simp only [List.length_cons]
  exact Nat.lt_succ_of_le (List.dropWhile_sublist _).length_le
theorem runsL_nil (two : Bool) : runsL two [] = [] := by rw [runsL]
theorem runsL_cons (two : Bool) (b : UInt8) (l : List UInt8) : runsL two (b :: l) = tokenT (((l.takeWhile (· == b)).length + 1 : Nat) : Int) (signS b.toNat two) :: runsL two (l.drop (l.takeWhile (· == b)).length) := by
  rw [runsL, dw_drop]
def tokStep (two : Bool) (st : List (List UInt8) × Int) (y : Nat) (row : List UInt8) : List (List UInt8) × Int :=
  if usedN row = 0 then st else (st.1 ++ (if 0 ≤ st.2 then [tokenT ((y : Int) - st.2) [36]] else []) ++ runsL two (row.take (usedN row)), (y : Int))
def toksN (two : Bool) (rows : List (List UInt8)) : Nat → List (List UInt8) × Int
  | 0 => ([], -1)
  | i + 1 => tokStep two (toksN two rows i) i (rows.getD i [])
def tokensT (rows : List (List UInt8)) : List (List UInt8) := (toksN (twoB rows) rows rows.length).1 ++ [[33]]
theorem signS_len (n : Nat) (two : Bool) : (signS n two).length ≤ 2 := by
  unfold signS
  split
  · simp
  · split
    · simp
    · split
      · simp
      · split <;> simp
theorem runsL_len (two : Bool) : ∀ (k : Nat) (l : List UInt8), l.length ≤ k → (runsL two l).length ≤ l.length
  | 0, l, h => by
    have : l = [] := List.length_eq_zero_iff.1 (by omega)
    subst this; rw [runsL_nil]; exact Nat.le_refl _
  | k + 1, [], _ => by rw [runsL_nil]; exact Nat.le_refl _
  | k + 1, b :: l, h => by
    rw [runsL_cons]
    simp only [List.length_cons] at h ⊢
    have := runsL_len two k (l.drop (l.takeWhile (· == b)).length) (by simp; omega)
    simp only [List.length_drop] at this
    omega
theorem toksN_len (two : Bool) (rows : List (List UInt8)) (h : ∀ r ∈ rows, r.length ≤ 1000) : ∀ i, i ≤ rows.length → (toksN two rows i).1.length ≤ i * 1001
  | 0, _ => by simp [toksN]
  | i + 1, hi => by
    have ih := toksN_len two rows h i (by omega)
    have hr : rows.getD i [] = rows[i] := by rw [List.getD_eq_getElem?_getD, List.getElem?_eq_getElem (show i < rows.length by omega)]; rfl
    have h2 := h rows[i] (List.getElem_mem _)
    simp only [toksN, tokStep, hr]
    split
    · exact Nat.le_trans ih (Nat.mul_le_mul_right _ (Nat.le_succ _))
    · have h3 := runsL_len two _ (rows[i].take (usedN rows[i])) (Nat.le_refl _)
      simp only [List.length_append, List.length_take] at h3 ⊢
      split <;> simp <;> omega
theorem toksN_last (two : Bool) (rows : List (List UInt8)) : ∀ i, -1 ≤ (toksN two rows i).2 ∧ (toksN two rows i).2 < (i : Int) ∨ i = 0 ∧ (toksN two rows i).2 = -1
  | 0 => .inr ⟨rfl, rfl⟩
  | i + 1 => by
    have ih := toksN_last two rows i
    left
    simp only [toksN, tokStep]
    split
    · omega
    · exact ⟨by show (-1 : Int) ≤ (i : Int); omega, by show (i : Int) < ((i + 1 : Nat) : Int); omega⟩
/-- A run's end is looked for. -/
theorem tok_run (H : AHeap) (rec4 : LK) (p out last two g : AVal) (row : List UInt8) (n x : Nat) (b : UInt8) (l : List UInt8) (Hd : AHeap) (hn : n ≤ row.length) (hr : row.length ≤ 1000) (hl : (row.take n).drop x = b :: l) :
    ∃ rec5, loopGen (fun rec5 vs H1 => Sh.gliderref13_Tokens_l5 H rec4 rec5 (ag vs 0) (ag vs 1) (ag vs 2) (ag vs 3) (ag vs 4) (ag vs 5) (ag vs 6) (ag vs 7) (ag vs 8) H1) FUEL [p, out, last, two, g, .str row, .int .i64 (n : Int), .int .i64 (x : Int), .int .i64 (x : Int)] Hd
      = Sh.gliderref13_Tokens_l5 H rec4 rec5 p out last two g (.str row) (.int .i64 (n : Int)) (.int .i64 (x : Int)) (.int .i64 ((x + ((l.takeWhile (· == b)).length + 1) : Nat) : Int)) Hd := by
  have hat : ∀ i, (b :: l)[i]? = (row.take n)[x + i]? := fun i => by rw [← hl, List.getElem?_drop]
  have hlen : (b :: l).length = n - x := by rw [← hl]; simp; omega
  have htw := tw_le (b := b) l
  simp only [List.length_cons] at hlen
  have hx : x < row.length := by omega
  have hb : row[x] = b := by
    have h0 := hat 0
    rw [List.getElem?_take, if_pos (by omega), Nat.add_zero, List.getElem?_eq_getElem hx] at h0
    simpa using h0.symm
  have loop := loop_inv (G := fun rec5 vs H1 => Sh.gliderref13_Tokens_l5 H rec4 rec5 (ag vs 0) (ag vs 1) (ag vs 2) (ag vs 3) (ag vs 4) (ag vs 5) (ag vs 6) (ag vs 7) (ag vs 8) H1) ((l.takeWhile (· == b)).length + 1)
    (fun i vs H1 => vs = [p, out, last, two, g, .str row, .int .i64 (n : Int), .int .i64 (x : Int), .int .i64 ((x + i : Nat) : Int)] ∧ H1 = Hd) (by omega) (fun i vs H1 hi hI => ?_) (vs := [p, out, last, two, g, .str row, .int .i64 (n : Int), .int .i64 (x : Int), .int .i64 (x : Int)]) (H := Hd) ⟨rfl, rfl⟩
  · obtain ⟨vs', H', ⟨rfl, rfl⟩, rec, h1⟩ := loop
    exact ⟨rec, h1⟩
  · obtain ⟨rfl, rfl⟩ := hI
    refine ⟨_, _, ⟨rfl, rfl⟩, fun rec => ?_⟩
    have hk : x + i < row.length := by omega
    have hkn : ((x + i : Nat) : Int) < (n : Int) := by omega
    have hbi : row[x + i] = b := by
      have h0 := hat i
      rw [List.getElem?_take, if_pos (by omega), List.getElem?_eq_getElem hk] at h0
      have h1 : (b :: l)[i]? = some b := by
        cases i with
        | zero => rfl
        | succ i => rw [List.getElem?_cons_succ]; exact tw_lt (by omega)
      rw [h1] at h0
      simpa using h0.symm
    have hws := wrap_succ (show x + i < 9223372036854775807 by omega)
    unfold Sh.gliderref13_Tokens_l5
    simp only [GMb, joinPt, decide_true, decide_false, if_true, if_false, ag_succ, hkn, idx_str hk, idx_str hx, hbi, hb, hws]
    rfl
/-- A row's runs. -/
theorem tok_runs (H : AHeap) (p last g : AVal) (two : Bool) (row : List UInt8) (n : Nat) (out0 : List (List UInt8)) (v0 : AVal) (Hd : AHeap) (hn : n ≤ row.length) (hr : row.length ≤ 1000) (ho : out0.length ≤ 2000000)
    (hR : RS cS ty_string 1 H.length out0 v0 Hd) (hH : H.length ≤ Hd.length) :
    ∃ v' H', RS cS ty_string 1 H.length (out0 ++ runsL two (row.take n)) v' H' ∧ Kp H.length Hd H' ∧ ∀ j2 : LK,
      loopGen (fun rec4 vs H1 => Sh.gliderref13_Tokens_l4 H j2 rec4 (ag vs 0) (ag vs 1) (ag vs 2) (ag vs 3) (ag vs 4) (ag vs 5) (ag vs 6) (ag vs 7) H1) FUEL [p, v0, last, .bool two, g, .str row, .int .i64 (n : Int), .int .i64 0] Hd
      = j2 [p, v', last, .bool two, g] H' := by
  have hln : (row.take n).length = n := by simp; omega
  have loop := loop_whileF (ι := LK) (G := fun j2 rec4 vs H1 => Sh.gliderref13_Tokens_l4 H j2 rec4 (ag vs 0) (ag vs 1) (ag vs 2) (ag vs 3) (ag vs 4) (ag vs 5) (ag vs 6) (ag vs 7) H1) (σ := Nat)
    (fun x vs H1 => ∃ v out, x ≤ n ∧ vs = [p, v, last, .bool two, g, .str row, .int .i64 (n : Int), .int .i64 (x : Int)] ∧ RS cS ty_string 1 H.length out v H1 ∧ Kp H.length Hd H1 ∧ out ++ runsL two ((row.take n).drop x) = out0 ++ runsL two (row.take n) ∧ out.length ≤ out0.length + x)
    (fun x => n - x) (fun x => x = n) (fun x vs H1 hI hd => ?_) (s := 0) (vs := [p, v0, last, .bool two, g, .str row, .int .i64 (n : Int), .int .i64 0]) (H := Hd) ⟨v0, out0, Nat.zero_le _, rfl, hR, Kp.refl _ _, rfl, Nat.le_refl _⟩ (by omega)
  · obtain ⟨x, vs', H', rfl, ⟨v, out, _, rfl, h1, h2, h3, _⟩, h4⟩ := loop
    refine ⟨v, H', ?_, h2, fun j2 => ?_⟩
    · rw [← h3, List.drop_of_length_le (by omega), runsL_nil, List.append_nil]; exact h1
    · obtain ⟨rec, h4⟩ := h4 j2
      rw [h4]
      unfold Sh.gliderref13_Tokens_l4
      simp only [GMb, joinPt, decide_true, decide_false, if_true, if_false, ag_succ, Int.lt_irrefl]
  · obtain ⟨v, out, hx, rfl, h1, h2, h3, h5⟩ := hI
    have hxn : (x : Int) < (n : Int) := by omega
    obtain ⟨b, l, hbl⟩ : ∃ b l, (row.take n).drop x = b :: l := by
      cases hq : (row.take n).drop x with
      | nil => have := congrArg List.length hq; simp at this; omega
      | cons b l => exact ⟨b, l, rfl⟩
    have hlen : (b :: l).length = n - x := by rw [← hbl]; simp; omega
    have htw := tw_le (b := b) l
    simp only [List.length_cons] at hlen
    have hxr : x < row.length := by omega
    have hat : ∀ i, (b :: l)[i]? = (row.take n)[x + i]? := fun i => by rw [← hbl, List.getElem?_drop]
    have hb : row[x] = b := by
      have h0 := hat 0
      rw [List.getElem?_take, if_pos (by omega), Nat.add_zero, List.getElem?_eq_getElem hxr] at h0
      simpa using h0.symm
    obtain ⟨k, hk⟩ : ∃ k, k = (l.takeWhile (· == b)).length + 1 := ⟨_, rfl⟩
    obtain ⟨tk, rfl⟩ := h1.sl
    have hsg := signS_len b.toNat two
    have hsign := fun H => q13_sign b.toNat two H b.toNat_lt
    have htok := fun H => q13_token (k : Int) (signS b.toNat two) H (by omega) (by omega) (by omega)
    obtain ⟨v2, H2, a1, a2, a3⟩ := h1.snoc (bytes := 16) (by have := h2.len; omega) (tokenT (k : Int) (signS b.toNat two)) .tight (by omega) (by omega)
    refine ⟨x + k, [p, v2, last, .bool two, g, .str row, .int .i64 (n : Int), .int .i64 ((x + k : Nat) : Int)], H2, by omega, ⟨v2, out ++ [tokenT (k : Int) (signS b.toNat two)], by omega, rfl, a2, h2.trans a3, ?_, ?_⟩, fun j2 rec4 => ?_⟩
    · rw [← h3, hbl, runsL_cons, ← hk, List.append_assoc, List.singleton_append]
      congr 2
      rw [← List.drop_drop, hbl, hk, List.drop_succ_cons]
    · simp; omega
    · obtain ⟨rec5, h6⟩ := tok_run H rec4 p (.sl (enL cS out) tk) last (.bool two) g row n x b l H1 hn hr hbl
      unfold Sh.gliderref13_Tokens_l4
      simp only [ag_zero, ag_succ, ag_1, ag_2, ag_3, ag_4, ag_5, bin_lss, obind, hxn, decide_true, condA_true]
      refine h6.trans ?_
      rw [← hk]
      have hw : IntKind.i64.wrap (((x + k : Nat) : Int) - (x : Int)) = (k : Int) := by rw [wrap_i64] <;> omega
      have exit : (binA .none .sub (.int .i64 ((x + k : Nat) : Int)) (.int .i64 (x : Int))).bind (fun x68 => (idxStr (.str row) (.int .i64 (x : Int))).bind fun x69 => bP H (Sh.gliderref13_Sign x69 (.bool two) H1) fun x70 H71 => bP H (Sh.gliderref13_token x68 x70 H71) fun x72 H73 => (buildSl 1 [x72]).bind fun x74 => bP H (retVH (appendA ty_string 1 16 (.sl (enL cS out) tk) x74 H73)) fun x75 H76 => rec4 [p, x75, last, .bool two, g, .str row, .int .i64 (n : Int), .int .i64 ((x + k : Nat) : Int)] H76)
          = rec4 [p, v2, last, .bool two, g, .str row, .int .i64 (n : Int), .int .i64 ((x + k : Nat) : Int)] H2 := by
        simp only [GMb, joinPt, decide_true, decide_false, if_true, if_false, hw, idx_str hxr, hb, hsign, htok, build_S, a1]
      unfold Sh.gliderref13_Tokens_l5
      by_cases he : x + k < n
      · have hkr : x + k < row.length := by omega
        have he' : ((x + k : Nat) : Int) < (n : Int) := by omega
        have hne : ¬ ((row[x + k].toNat : Int) = (b.toNat : Int)) := by
          intro h0
          have h7 : row[x + k] = b := UInt8.toNat_inj.1 (by omega)
          have h8 := hat k
          rw [List.getElem?_take, if_pos he, List.getElem?_eq_getElem hkr, h7, hk, List.getElem?_cons_succ] at h8
          exact tw_end l h8
        simp only [bin_lss, obind, he', decide_true, gk_tt, idx_str hkr, idx_str hxr, hb, bin_eql, beq_dec, hne, decide_false, condV_true, condA_false]
        simp only [idx_str hxr, obind, hb] at exit
        exact exit
      · have he' : ¬ ((x + k : Nat) : Int) < (n : Int) := by omega
        simp only [bin_lss, obind, he', decide_false, gk_ft, gk_s, condV_false, condA_false]
        exact exit
theorem q13_tokens (X Y : Int) (rows : List (List UInt8)) (tk : Tok) (H : AHeap) (hn : rows.length ≤ 1000) (h : ∀ r ∈ rows, r.length ≤ 1000) :
    Sh.gliderref13_Tokens (.agg (gridT X Y (.sl (enL cS rows) tk))) H = some (.ret (.sl (enL cS (tokensT rows)) .no), H) := by
  unfold Sh.gliderref13_Tokens
  have hbx : boxA true 5 (.agg (gridT X Y (.sl (enL cS rows) tk))) H = some (.ptr H.length 0 0, H ++ [.cel 0 (gridT X Y (.sl (enL cS rows) tk))]) := box_agg (gridT_scal _ _ _ _) rfl
  have hg : (H ++ [Blk.cel 0 (gridT X Y (.sl (enL cS rows) tk))])[H.length]? = some (.cel 0 (gridT X Y (.sl (enL cS rows) tk))) := last_cel
  generalize hHc : H ++ [Blk.cel 0 (gridT X Y (.sl (enL cS rows) tk))] = Hc at hbx hg
  have hlc : H.length ≤ Hc.length := by rw [← hHc]; simp
  have hwhole : loadA true 5 (.ptr H.length 0 0) Hc = some (.agg (gridT X Y (.sl (enL cS rows) tk))) := by simp only [loadA, get_cel hg, Option.bind_some]; rfl
  have htwo := q13_two X Y rows tk Hc (by omega) (fun r hr => by have := h r hr; omega)
  simp only [hbx, afterA_some, hwhole, obind, htwo, bP_ret]
  obtain ⟨two, htw⟩ : ∃ two, two = twoB rows := ⟨_, rfl⟩
  rw [← htw]
  have loop := loop_inv (G := fun rec1 vs H1 => Sh.gliderref13_Tokens_l1 H rec1 (ag vs 0) (ag vs 1) (ag vs 2) (ag vs 3) (ag vs 4) H1) rows.length
    (fun y vs Hd => ∃ v, vs = [.ptr H.length 0 0, v, .int .i64 (toksN two rows y).2, .bool two, .int .i64 (y : Int)] ∧ RS cS ty_string 1 H.length (toksN two rows y).1 v Hd ∧ Kp H.length Hc Hd)
    (by omega) (fun y vs Hd hy hI => ?_) (vs := [.ptr H.length 0 0, .sl [] .tight, .int .i64 (-1), .bool two, .int .i64 0]) (H := Hc) ⟨_, rfl, .inl ⟨rfl, rfl⟩, Kp.refl _ _⟩
  · obtain ⟨vs', Hd, ⟨v, rfl, gR, gk⟩, rec, hloop⟩ := loop
    rw [hloop]
    have hld : loadA false 1 (.ptr H.length 0 4) Hd = some (.sl (enL cS rows) tk) := by simp only [loadA, get_cel (gk.get hg), Option.bind_some]; rfl
    have hlen := toksN_len two rows h rows.length (Nat.le_refl _)
    obtain ⟨v2, H2, a1, a2, a3⟩ := gR.snoc (bytes := 16) (by have := gk.len; omega) ([33] : List UInt8) .tight (by omega) (by omega)
    obtain ⟨tk2, rfl⟩ := a2.sl
    have hold : H2.take H.length = H := take_of_old fun i hi => by rw [a3.old i hi, gk.old i hi, ← hHc, List.getElem?_append_left hi]
    have hb33 := build_S [33]
    unfold Sh.gliderref13_Tokens_l1
    simp only [GMb, joinPt, decide_true, decide_false, if_true, if_false, ag_succ, fieldAddr_ptr, Nat.zero_add, hld, len_enL, Int.lt_irrefl, hb33, a1, rPN_eq hold, fall_sl, Option.map_some, tokensT, htw]
  · obtain ⟨v, rfl, gR, gk⟩ := hI
    have hy' : (y : Int) < (rows.length : Int) := by omega
    have hws := wrap_succ (show y < 9223372036854775807 by omega)
    have hld : loadA false 1 (.ptr H.length 0 4) Hd = some (.sl (enL cS rows) tk) := by simp only [loadA, get_cel (gk.get hg), Option.bind_some]; rfl
    have hrow : rows.getD y [] = rows[y] := by rw [List.getD_eq_getElem?_getD, List.getElem?_eq_getElem hy]; rfl
    have hrl := h rows[y] (List.getElem_mem hy)
    have hus := fun H => q13_used rows[y] H (by omega)
    have hul := usedN_le rows[y]
    have hlen := toksN_len two rows h y (by omega)
    have hlast := toksN_last two rows y
    have hstep : toksN two rows (y + 1) = tokStep two (toksN two rows y) y rows[y] := by rw [toksN, hrow]
    rw [hstep]
    generalize toksN two rows y = st at *
    obtain ⟨out, last⟩ := st
    dsimp only at *
    have hHd : H.length ≤ Hd.length := by have := gk.len; omega
    have hj2 : ∀ (rec1 : LK) (v : AVal) (l : Int) (H1 : AHeap), Sh.gliderref13_Tokens_j2 H rec1 (.ptr H.length 0 0) v (.int .i64 l) (.bool two) (.int .i64 (y : Int)) H1 = rec1 [.ptr H.length 0 0, v, .int .i64 l, .bool two, .int .i64 ((y + 1 : Nat) : Int)] H1 := by
      intro rec1 v l H1
      unfold Sh.gliderref13_Tokens_j2
      simp only [GMb, joinPt, decide_true, decide_false, if_true, if_false, hws]
    by_cases hu : usedN rows[y] = 0
    · refine ⟨_, Hd, ⟨v, rfl, ?_, gk⟩, fun rec => ?_⟩
      · unfold tokStep; rw [if_pos hu]; exact gR
      · unfold Sh.gliderref13_Tokens_l1 tokStep
        rw [if_pos hu]
        simp only [GMb, joinPt, decide_true, decide_false, if_true, if_false, ag_succ, fieldAddr_ptr, Nat.zero_add, hld, len_enL, hy', idx_enL hy, load_cptr, List.getElem?_cons_zero, hus, hu, Int.natCast_zero, hj2]
    · have hu' : ¬ ((usedN rows[y] : Nat) : Int) = 0 := by omega
      have htail : ∀ (o : List (List UInt8)) (v1 : AVal) (H1 : AHeap), o.length ≤ y * 1001 + 1 → RS cS ty_string 1 H.length o v1 H1 → Kp H.length Hd H1 →
          ∃ v2 H2, RS cS ty_string 1 H.length (o ++ runsL two (rows[y].take (usedN rows[y]))) v2 H2 ∧ Kp H.length Hc H2 ∧ ∀ rec1 : LK,
            Sh.gliderref13_Tokens_j3 H (fun vs H1 => Sh.gliderref13_Tokens_j2 H rec1 (ag vs 0) (ag vs 1) (ag vs 2) (ag vs 3) (ag vs 4) H1) (.ptr H.length 0 0) v1 (.bool two) (.int .i64 (y : Int)) (.str rows[y]) (.int .i64 (usedN rows[y] : Int)) H1
              = rec1 [.ptr H.length 0 0, v2, .int .i64 (y : Int), .bool two, .int .i64 ((y + 1 : Nat) : Int)] H2 := by
        intro o v1 H1 ho hR1 hK1
        obtain ⟨v2, H2, b1, b2, b3⟩ := tok_runs H (.ptr H.length 0 0) (.int .i64 (y : Int)) (.int .i64 (y : Int)) two rows[y] (usedN rows[y]) o v1 H1 hul hrl (by omega) hR1 (by have := hK1.len; omega)
        refine ⟨v2, H2, b1, gk.trans (hK1.trans b2), fun rec1 => ?_⟩
        unfold Sh.gliderref13_Tokens_j3
        rw [b3]
        simp only [ag_zero, ag_succ, ag_1, ag_2, ag_3, ag_4]
        exact hj2 _ _ _ _
      by_cases hl : 0 ≤ last
      · have htok := fun H => q13_token ((y : Int) - last) [36] H (by omega) (by omega) (by decide)
        have hwd : IntKind.i64.wrap ((y : Int) - last) = (y : Int) - last := by rw [wrap_i64] <;> omega
        obtain ⟨tk0, rfl⟩ := gR.sl
        obtain ⟨v1, H1, a1, a2, a3⟩ := gR.snoc (bytes := 16) hHd (tokenT ((y : Int) - last) [36]) .tight (by omega) (by omega)
        obtain ⟨v2, H2, b1, b2, b3⟩ := htail _ v1 H1 (by simp; omega) a2 a3
        refine ⟨[.ptr H.length 0 0, v2, .int .i64 (y : Int), .bool two, .int .i64 ((y + 1 : Nat) : Int)], H2, ⟨v2, ?_, ?_, b2⟩, fun rec => ?_⟩
        · unfold tokStep; rw [if_neg hu]
        · unfold tokStep; rw [if_neg hu, if_pos hl]; exact b1
        · unfold Sh.gliderref13_Tokens_l1
          simp only [GMb, joinPt, decide_true, decide_false, if_true, if_false, ag_succ, fieldAddr_ptr, Nat.zero_add, hld, len_enL, hy', idx_enL hy, load_cptr, List.getElem?_cons_zero, hus, hu', hl, ge_iff_le, hwd, htok, build_S, a1]
          exact b3 rec
      · obtain ⟨v2, H2, b1, b2, b3⟩ := htail _ v Hd (Nat.le_succ_of_le hlen) gR (Kp.refl _ _)
        refine ⟨[.ptr H.length 0 0, v2, .int .i64 (y : Int), .bool two, .int .i64 ((y + 1 : Nat) : Int)], H2, ⟨v2, ?_, ?_, b2⟩, fun rec => ?_⟩
        · unfold tokStep; rw [if_neg hu]
        · unfold tokStep; rw [if_neg hu, if_neg hl, List.append_nil]; exact b1
        · unfold Sh.gliderref13_Tokens_l1
          simp only [GMb, joinPt, decide_true, decide_false, if_true, if_false, ag_succ, fieldAddr_ptr, Nat.zero_add, hld, len_enL, hy', idx_enL hy, load_cptr, List.getElem?_cons_zero, hus, hu', hl, ge_iff_le]
          exact b3 rec
end Go.Gm
/- Chapter 13 of the document: the text of a pattern, as runs. -/
namespace Go.Gm
set_option linter.unusedVariables false
set_option linter.unusedSimpArgs false
theorem tokenT_len {n : Int} {s : List UInt8} (h0 : -1000000000 ≤ n) (h1 : n ≤ 1000000000) (hs : s.length ≤ 1000) : (tokenT n s).length ≤ 10000 := by
  have hsb : SB 44 n := by
    unfold SB
    have : (4294967296 : Nat) ^ 1 ≤ 4294967296 ^ 44 := pow_le32 (by omega)
    omega
  have h := (sb_dec hsb).2
  unfold tokenT
  split
  · omega
  · simp; omega
theorem runsL_each (two : Bool) : ∀ (k : Nat) (l : List UInt8), l.length ≤ k → k ≤ 1000000 → ∀ t ∈ runsL two l, t.length ≤ 10000
  | 0, l, h, _, t, ht => by
    have : l = [] := List.length_eq_zero_iff.1 (by omega)
    subst this; rw [runsL_nil] at ht; cases ht
  | k + 1, [], _, _, t, ht => by rw [runsL_nil] at ht; cases ht
  | k + 1, b :: l, h, hk, t, ht => by
    rw [runsL_cons] at ht
    simp only [List.length_cons] at h
    have htw := tw_le (b := b) l
    rcases List.mem_cons.1 ht with rfl | ht
    · have := signS_len b.toNat two
      exact tokenT_len (by omega) (by omega) (by omega)
    · exact runsL_each two k _ (by simp; omega) (by omega) t ht
theorem toksN_each (two : Bool) (rows : List (List UInt8)) (hn : rows.length ≤ 1000) (h : ∀ r ∈ rows, r.length ≤ 1000) : ∀ i, i ≤ rows.length → ∀ t ∈ (toksN two rows i).1, t.length ≤ 10000
  | 0, _, t, ht => by cases ht
  | i + 1, hi, t, ht => by
    have ih := toksN_each two rows hn h i (by omega)
    have hl := toksN_last two rows i
    have hr : rows.getD i [] = rows[i] := by rw [List.getD_eq_getElem?_getD, List.getElem?_eq_getElem (show i < rows.length by omega)]; rfl
    have h2 := h rows[i] (List.getElem_mem _)
    rw [toksN, hr] at ht
    unfold tokStep at ht
    split at ht
    · exact ih t ht
    · simp only [List.mem_append] at ht
      rcases ht with (ht | ht) | ht
      · exact ih t ht
      · split at ht
        · rw [List.mem_singleton] at ht
          rw [ht]; exact tokenT_len (by omega) (by omega) (by decide)
        · cases ht
      · exact runsL_each two 1000 _ (by simp; omega) (by omega) t ht
theorem tokensT_len (rows : List (List UInt8)) (hn : rows.length ≤ 1000) (h : ∀ r ∈ rows, r.length ≤ 1000) : (tokensT rows).length ≤ 2000000 ∧ ∀ t ∈ tokensT rows, t.length ≤ 10000 := by
  have h1 := toksN_len (twoB rows) rows h rows.length (Nat.le_refl _)
  unfold tokensT
  refine ⟨by simp; omega, fun t ht => ?_⟩
  rcases List.mem_append.1 ht with ht | ht
  · exact toksN_each _ rows hn h _ (Nat.le_refl _) t ht
  · rw [List.mem_singleton] at ht; rw [ht]; decide
def rleW (rows : List (List UInt8)) : Nat := match rows with | [] => 0 | r :: _ => r.length
def rleHead (X Y : Int) (w h : Nat) (rule : List UInt8) : List UInt8 :=
  [35, 67, 88, 82, 76, 69, 32, 80, 111, 115, 61] ++ decZ X ++ [44] ++ decZ Y ++ [10] ++ [120, 32, 61, 32] ++ decZ (w : Int) ++ [44, 32, 121, 32, 61, 32] ++ decZ (h : Int) ++ [44, 32, 114, 117, 108, 101, 32, 61, 32] ++ rule ++ [10]
def rleT (rule : List UInt8) (L : List Nd) : List UInt8 := rleHead (bx L bxX) (bx L bxY) (rleW (rowsO L)) (rowsO L).length rule ++ wrapT (tokensT (rowsO L))
theorem bx_sb {L : List Nd} (hl : looseB L = true) : SB 44 (bx L bxX) ∧ SB 44 (bx L bxY) := by
  unfold bx
  by_cases hn : L = []
  · rw [if_pos hn, if_pos hn]; exact ⟨SB_nat (n := 0) (by omega), SB_nat (n := 0) (by omega)⟩
  · rw [if_neg hn, if_neg hn]; exact bxX_sb hl hn
theorem q13_text (rule : List UInt8) (L : List Nd) (b n : Int) (H : AHeap) (hr : rule.length < 35184372088832) (hL : L.length < 549755813888) (h0 : -9223372036854775808 ≤ b) (h1 : b ≤ 9223372036854775807) :
    Sh.gliderref13_Text (pat rule L) (.agg (limC b n)) H = some (.ret (if checkE 4 rule L b n = 0 then .tup [.str (rleT rule L), .int .i64 0] else .tup [.str [], .int .i64 (checkE 4 rule L b n)]), H) := by
  unfold Sh.gliderref13_Text
  have hbx : ∀ H, boxA true 2 (.agg (limC b n)) H = some (.ptr H.length 0 0, H ++ [.cel 0 (limC b n)]) := fun H => box_agg rfl rfl
  have e3 : (H ++ [Blk.cel 0 (patC rule L)] ++ [Blk.cel 0 (limC b n)])[H.length]? = some (.cel 0 (patC rule L)) := by simp
  have g5 : loadA true 2 (.ptr (H ++ [Blk.cel 0 (patC rule L)]).length 0 0) (H ++ [Blk.cel 0 (patC rule L)] ++ [Blk.cel 0 (limC b n)]) = some (.agg (limC b n)) := by
    simp only [loadA, get_cel (last_cel (B := H ++ [Blk.cel 0 (patC rule L)])), Option.bind_some]; rfl
  have g6 : loadA false 1 (.ptr (H ++ [Blk.cel 0 (patC rule L)]).length 0 0) (H ++ [Blk.cel 0 (patC rule L)] ++ [Blk.cel 0 (limC b n)]) = some (.int .i64 b) := by
    simp only [loadA, get_cel (last_cel (B := H ++ [Blk.cel 0 (patC rule L)])), Option.bind_some]; rfl
  have hck := fun H => q11_check 4 rule L b n H (by omega) hL h0 h1
  simp only [GMb, joinPt, decide_true, decide_false, if_true, if_false, boxPat, hbx, load_patP e3, g5, hck]
  by_cases he : checkE 4 rule L b n = 0
  · obtain ⟨hl, b0, b1, hw, _, _⟩ := check_ok he (by decide)
    obtain ⟨r1, r2⟩ := rowsO_len hl b0 b1 hw
    have hgo := fun H => q10_of L b H hL hl h0 h1
    simp only [gridO_fits b0 b1 hw] at hgo
    rw [if_pos he]
    simp only [he, GMb, joinPt, decide_true, decide_false, if_true, if_false, fieldAddr_ptr, Nat.zero_add, Nat.add_zero, load_quadP e3, g6, hgo, extract_0, extract_1, alloc_zGrid]
    generalize hB : H ++ [Blk.cel 0 (patC rule L)] ++ [Blk.cel 0 (limC b n)] = B at e3
    obtain ⟨sx, sy⟩ := bx_sb hl
    obtain ⟨x1, x2⟩ := sb_dec sx
    obtain ⟨y1, y2⟩ := sb_dec sy
    have hstg : storeA 5 (.ptr B.length 0 0) (gridV (bx L bxX) (bx L bxY) (rowsO L)) (B ++ [Blk.cel 0 zGrid]) = some (B ++ [Blk.cel 0 (gridT (bx L bxX) (bx L bxY) (.sl (enL cS (rowsO L)) .no))]) := by
      unfold gridV
      simp only [storeA, get_cel (last_cel (B := B) (cs := zGrid)), Option.bind_some, acells_agg (gridT_scal _ _ _ _), setC_cel (last_cel (B := B) (cs := zGrid)), putN_all (cs := zGrid) (sz := 5) rfl, last_set]
      rfl
    have hrl := load_ruleP (get_left (G := [Blk.cel 0 (gridT (bx L bxX) (bx L bxY) (.sl (enL cS (rowsO L)) .no))]) e3)
    have gx : loadA true 2 (.ptr B.length 0 0) (B ++ [Blk.cel 0 (gridT (bx L bxX) (bx L bxY) (.sl (enL cS (rowsO L)) .no))]) = some (big (bx L bxX)) := by simp only [loadA, get_cel (last_cel (B := B)), Option.bind_some]; rfl
    have gy : loadA true 2 (.ptr B.length 0 2) (B ++ [Blk.cel 0 (gridT (bx L bxX) (bx L bxY) (.sl (enL cS (rowsO L)) .no))]) = some (big (bx L bxY)) := by simp only [loadA, get_cel (last_cel (B := B)), Option.bind_some]; rfl
    have gr : loadA false 1 (.ptr B.length 0 4) (B ++ [Blk.cel 0 (gridT (bx L bxX) (bx L bxY) (.sl (enL cS (rowsO L)) .no))]) = some (.sl (enL cS (rowsO L)) .no) := by simp only [loadA, get_cel (last_cel (B := B)), Option.bind_some]; rfl
    have gw : loadA true 5 (.ptr B.length 0 0) (B ++ [Blk.cel 0 (gridT (bx L bxX) (bx L bxY) (.sl (enL cS (rowsO L)) .no))]) = some (.agg (gridT (bx L bxX) (bx L bxY) (.sl (enL cS (rowsO L)) .no))) := by simp only [loadA, get_cel (last_cel (B := B)), Option.bind_some]; rfl
    have tx := fun H => q03_text (bx L bxX) H x1
    have ty' := fun H => q03_text (bx L bxY) H y1
    simp only [GMb, joinPt, decide_true, decide_false, if_true, if_false, hstg, fieldAddr_ptr, Nat.zero_add, gr, len_enL]
    generalize hbX : bx L bxX = X at *
    generalize hbY : bx L bxY = Y at *
    generalize hro : rowsO L = rows at *
    have hBl : ∀ (G : AHeap) (v : AVal), plainV v = true → rP H v (B ++ G) = some (.ret v, H) := fun G v hv => by
      rw [← hB, List.append_assoc, List.append_assoc]; exact rP_plain hv
    have key : ∀ w : Nat, w ≤ 1000 → w = rleW rows → Sh.gliderref13_Text_j1 H (.ptr H.length 0 0) (.ptr B.length 0 0) (.int .i64 (w : Int)) (B ++ [Blk.cel 0 (gridT X Y (.sl (enL cS rows) .no))]) = some (.ret (.tup [.str (rleT rule L), .int .i64 0]), H) := by
      intro w hw1 hw2
      have hofw := fun H => q02_of (w : Int) H (by omega) (by omega)
      have hofh := fun H => q02_of (rows.length : Int) H (by omega) (by omega)
      have sw : SB 44 (w : Int) := SB_nat (n := w) (by have : (4294967296 : Nat) ^ 1 ≤ 4294967296 ^ 44 := pow_le32 (by omega); omega)
      have sh : SB 44 (rows.length : Int) := SB_nat (n := rows.length) (by have : (4294967296 : Nat) ^ 1 ≤ 4294967296 ^ 44 := pow_le32 (by omega); omega)
      obtain ⟨w1, w2⟩ := sb_dec sw
      obtain ⟨hh1, hh2⟩ := sb_dec sh
      have tw := fun H => q03_text (w : Int) H w1
      have th := fun H => q03_text (rows.length : Int) H hh1
      have htoks := fun H => q13_tokens X Y rows .no H r1 r2
      obtain ⟨k1, k2⟩ := tokensT_len rows r1 r2
      have hwr := fun H => q13_wrap (tokensT rows) .no H (by omega) k2
      have hwl := wrapAll_len (tokensT rows) k2 (tokensT rows).length (Nat.le_refl _)
      rw [List.take_of_length_le (Nat.le_refl _)] at hwl
      have hwl2 : (wrapT (tokensT rows)).length ≤ 100000000000 := by unfold wrapT; simp; omega
      unfold Sh.gliderref13_Text_j1 rleT
      rw [hbX, hbY, hro, ← hw2]
      unfold rleHead
      simp only [GMb, joinPt, decide_true, decide_false, if_true, if_false, fieldAddr_ptr, Nat.zero_add, Nat.add_zero, gx, gy, gr, hrl, gw, tx, ty', and_true, eq_self, len_enL, hofw, hofh, tw, th]
      iterate 11
        rw [bin_sadd (by simp; omega)]
        simp only [GMb, joinPt, decide_true, decide_false, if_true, if_false, htoks, hwr]
      rw [bin_sadd (by simp; omega)]
      simp only [GMb, joinPt, decide_true, decide_false, if_true, if_false]
      exact hBl _ _ rfl
    cases hrows : rows with
    | nil =>
      rw [hrows] at key
      have h9 : ¬ ((([] : List (List UInt8)).length : Int) > 0) := by simp
      simp only [GMb, joinPt, decide_true, decide_false, if_true, if_false, h9, ag_succ]
      exact key 0 (by omega) rfl
    | cons r rest =>
      have h9 : ((r :: rest : List (List UInt8)).length : Int) > 0 := by simp
      have hidx := idx_enL (f := cS) (l := r :: rest) (tk := .no) (i := 0) (K := .i64) (by simp)
      simp only [Int.natCast_zero, List.getElem_cons_zero] at hidx
      rw [hrows] at key gr
      simp only [GMb, joinPt, decide_true, decide_false, if_true, if_false, h9, gr, hidx, load_cptr, List.getElem?_cons_zero, len_str, ag_succ]
      exact key r.length (r2 r (by rw [hrows]; simp)) rfl
  · rw [if_neg he]
    simp only [he, GMb, joinPt, decide_true, decide_false, if_true, if_false]
    rw [List.append_assoc]
    exact rP_plain (v := .tup [.str [], .int .i64 (checkE 4 rule L b n)]) rfl
end Go.Gm
/- Chapter 7 of the document: how many cells nodes have. -/
namespace Go.Gm
set_option linter.unusedVariables false
set_option linter.unusedSimpArgs false
def cntK (E : List (Option Int)) (x : Nd) : Nat → Option Int
  | 0 => none
  | k + 1 => if 1 < x.lv then some (bo (cntK E x k) + bo (E.getD (x.kid k).toNat none)) else if 0 < x.kid k then some (bo (cntK E x k) + 1) else cntK E x k
def cntL (L : List Nd) : List (Option Int) := L.foldl (fun E x => E ++ [cntK E x 4]) [none]
theorem cntL_snoc (L : List Nd) (x : Nd) : cntL (L ++ [x]) = cntL L ++ [cntK (cntL L) x 4] := by simp [cntL]
theorem cntL_len (L : List Nd) : (cntL L).length = L.length + 1 := by
  rcases snoc_cases L with rfl | ⟨l, a, rfl⟩
  · rfl
  · rw [cntL_snoc]; have := cntL_len l; simp [this]
termination_by L.length
decreasing_by (subst_vars; simp)
theorem cntL_take (L : List Nd) {i : Nat} (hi : i < L.length) : cntL (L.take (i + 1)) = cntL (L.take i) ++ [cntK (cntL (L.take i)) L[i] 4] := by
  rw [List.take_succ_eq_append_getElem hi, cntL_snoc]
/-- A node's number is one of those ahead of it, one level below. -/
theorem cntL_le {L : List Nd} (hl : looseB L = true) : ∀ i, i ≤ L.length → ∀ j, j ≤ i → 0 ≤ bo ((cntL (L.take i)).getD j none) ∧ bo ((cntL (L.take i)).getD j none) ≤ 4 ^ ((match j with | 0 => 0 | j + 1 => match L[j]? with | some y => y.lv.toNat | none => 0) : Nat)
  | 0, _, j, hj => by
    have : j = 0 := by omega
    subst this
    simp [cntL, bo]
  | i + 1, hi, j, hj => by
    have ih := cntL_le hl i (by omega)
    have hlen : (cntL (L.take i)).length = i + 1 := by rw [cntL_len]; simp; omega
    rw [cntL_take L (show i < L.length by omega)]
    by_cases hji : j ≤ i
    · have := ih j hji
      rw [List.getD_eq_getElem?_getD] at this ⊢
      rw [List.getElem?_append_left (by omega)]
      exact this
    · have e : j = i + 1 := by omega
      subst e
      have hi' : i < L.length := by omega
      have hg : (cntL (L.take i) ++ [cntK (cntL (L.take i)) L[i] 4]).getD (i + 1) none = cntK (cntL (L.take i)) L[i] 4 := by
        rw [List.getD_eq_getElem?_getD, List.getElem?_append_right (by omega), hlen]; simp
      rw [hg]
      simp only [List.getElem?_eq_getElem hi']
      obtain ⟨l1, l2, l3⟩ := loose_get hl hi'
      generalize hx : L[i] = x at *
      obtain ⟨v, hv⟩ : ∃ v : Nat, x.lv = (v : Int) + 1 := ⟨(x.lv - 1).toNat, by omega⟩
      have hvn : x.lv.toNat = v + 1 := by omega
      have hone : (1 : Int) ≤ 4 ^ v := by have := Nat.one_le_pow v 4 (by omega); exact_mod_cast this
      have step : ∀ k, k < 4 → 1 < x.lv → 0 ≤ bo ((cntL (L.take i)).getD (x.kid k).toNat none) ∧ bo ((cntL (L.take i)).getD (x.kid k).toNat none) ≤ 4 ^ v := by
        intro k hk h1
        obtain ⟨q1, q2, q3⟩ := l3 k hk
        by_cases h0 : 0 < x.kid k
        · obtain ⟨q4, q5⟩ := q3 h1 h0
          have h6 := ih (x.kid k).toNat (by omega)
          obtain ⟨m, hm⟩ : ∃ m, (x.kid k).toNat = m + 1 := ⟨(x.kid k).toNat - 1, by omega⟩
          rw [hm] at h6 ⊢
          have hml : m < L.length := by omega
          simp only [List.getElem?_eq_getElem hml] at h6
          have h7 := q5 L[m] (by rw [show (x.kid k - 1).toNat = m by omega]; exact List.getElem?_eq_getElem hml)
          rw [show L[m].lv.toNat = v by omega] at h6
          exact h6
        · have h8 : (x.kid k).toNat = 0 := by omega
          have h6 := ih 0 (by omega)
          rw [h8]
          simp only [Int.pow_zero] at h6
          exact ⟨h6.1, by omega⟩
      have part : ∀ k, k ≤ 4 → 0 ≤ bo (cntK (cntL (L.take i)) x k) ∧ bo (cntK (cntL (L.take i)) x k) ≤ k * 4 ^ v := by
        intro k
        induction k with
        | zero => intro _; simp [cntK, bo]
        | succ k ihk =>
          intro hk
          have ih2 := ihk (by omega)
          have e1 : ((k + 1 : Nat) : Int) * 4 ^ v = (k : Int) * 4 ^ v + 4 ^ v := by push_cast; rw [Int.add_mul, Int.one_mul]
          rw [e1]
          unfold cntK
          generalize (k : Int) * 4 ^ v = kp at *
          by_cases h1 : 1 < x.lv
          · have h2 := step k (by omega) h1
            rw [if_pos h1]
            simp only [bo, Option.getD_some] at h2 ih2 ⊢
            omega
          · rw [if_neg h1]
            by_cases h0 : 0 < x.kid k
            · rw [if_pos h0]; simp only [bo, Option.getD_some] at ih2 ⊢; omega
            · rw [if_neg h0]; omega
      have := part 4 (Nat.le_refl _)
      rw [hvn, Int.pow_succ, Int.mul_comm]
      exact this
theorem SB_fourk {z : Int} {v w k : Nat} (h0 : 0 ≤ z) (h : z ≤ 4 ^ v) (hv : v ≤ w) (hk : 2 * w < 32 * k) : SB k z := by
  have h1 := pow4_le hv
  have h2 : z.natAbs ≤ 2 ^ (2 * w) := by omega
  exact Nat.lt_of_le_of_lt h2 (pow32_lt hk)
theorem SB_four {z : Int} {v : Nat} (h0 : 0 ≤ z) (h : z ≤ 4 ^ v) (hv : v ≤ 1400) : SB 100 z := by
  exact SB_fourk (w := 1400) (k := 100) h0 h hv (by decide)
theorem q07_counts (L : List Nd) (tk : Tok) (H : AHeap) (hL : L.length < 549755813888) (hl : looseB L = true) : Sh.gliderref07_counts (.sl (enL cNd L) tk) H = some (.ret (.sl (enL cBO (cntL L)) .no), H) := by
  have hmk := make_flat (f := cBO) (a := none) (n := L.length + 1) (bytes := 32) (H := H) (by omega) (by omega)
  rw [show cBO none = [AVal.bool false, .sl [] .tight] from rfl] at hmk
  unfold Sh.gliderref07_counts
  simp only [len_enL, obind, bin_add, wrap_succ (show L.length < 9223372036854775807 by omega), hmk, afterA_some]
  have key := loop_up (G := fun rec1 vs H1 => Sh.gliderref07_counts_l1 H rec1 (ag vs 0) (ag vs 1) (ag vs 2) H1) L.length (fun i => [.sl (enL cNd L) tk, .ms H.length 0 0 (L.length + 1) (L.length + 1) 2 true, .int .i64 (i : Int)]) (fun i => H ++ [.cel 0 (flat cBO (cntL (L.take i) ++ List.replicate (L.length - i) none))]) (some (.ret (.sl (enL cBO (cntL L)) .no), H)) (by omega) (fun rec i hi => ?_) (fun rec => ?_)
  · have e : List.replicate (L.length + 1) none = cntL (L.take 0) ++ List.replicate (L.length - 0) none := by simp [List.replicate_succ, cntL]
    rw [e]; exact key
  · have hi' : (i : Int) < (L.length : Int) := by omega
    obtain ⟨l1, l2, l3⟩ := loose_get hl hi
    have hle := cntL_le hl i (by omega)
    have hle2 := (cntL_le hl (i + 1) (by omega) (i + 1) (Nat.le_refl _))
    rw [cntL_take L hi] at hle2
    have hEl : (cntL (L.take i)).length = i + 1 := by rw [cntL_len]; simp; omega
    unfold Sh.gliderref07_counts_l1
    simp only [ag_zero, ag_1, ag_2, len_enL, obind, bin_lss, hi', decide_true, condA_true]
    have hb : ∀ k, k < 4 → 1 < L[i].lv → (L[i].kid k).toNat ≤ i := by
      intro k hk h1
      obtain ⟨q1, q2, q3⟩ := l3 k hk
      by_cases h0 : 0 < L[i].kid k
      · have := (q3 h1 h0).1; omega
      · omega
    have hset : ∀ a, (cntL (L.take i) ++ List.replicate (L.length - i) none).set (i + 1) a = cntL (L.take i) ++ a :: List.replicate (L.length - (i + 1)) none := by
      intro a
      rw [List.set_append_right _ _ (by omega), hEl, Nat.sub_self, show L.length - i = (L.length - (i + 1)) + 1 from by omega, List.replicate_succ, List.set_cons_zero]
    have hpart : ∀ k, k ≤ 4 → SB 100 (bo (cntK (cntL (L.take i)) L[i] k)) := by
      intro k hk
      -- a part is at most the whole
      have mono : ∀ d, k + d ≤ 4 → bo (cntK (cntL (L.take i)) L[i] k) ≤ bo (cntK (cntL (L.take i)) L[i] (k + d)) := by
        intro d
        induction d with
        | zero => intro _; exact Int.le_refl _
        | succ d ihd =>
          intro hd
          refine Int.le_trans (ihd (by omega)) ?_
          show _ ≤ bo (cntK (cntL (L.take i)) L[i] (k + d + 1))
          rw [show cntK (cntL (L.take i)) L[i] (k + d + 1) = (if 1 < L[i].lv then some (bo (cntK (cntL (L.take i)) L[i] (k + d)) + bo ((cntL (L.take i)).getD (L[i].kid (k + d)).toNat none)) else if 0 < L[i].kid (k + d) then some (bo (cntK (cntL (L.take i)) L[i] (k + d)) + 1) else cntK (cntL (L.take i)) L[i] (k + d)) from rfl]
          by_cases h1 : 1 < L[i].lv
          · have := (hle (L[i].kid (k + d)).toNat (hb (k + d) (by omega) h1)).1
            rw [if_pos h1]; simp only [bo, Option.getD_some] at this ⊢; omega
          · rw [if_neg h1]
            split
            · simp only [bo, Option.getD_some]; omega
            · exact Int.le_refl _
      have nn : ∀ k, k ≤ 4 → 0 ≤ bo (cntK (cntL (L.take i)) L[i] k) := by
        intro k
        induction k with
        | zero => intro _; simp [cntK, bo]
        | succ k ihk =>
          intro hk
          have ih2 := ihk (by omega)
          unfold cntK
          by_cases h1 : 1 < L[i].lv
          · have := (hle (L[i].kid k).toNat (hb k (by omega) h1)).1
            rw [if_pos h1]; simp only [bo, Option.getD_some] at this ih2 ⊢; omega
          · rw [if_neg h1]
            split
            · simp only [bo, Option.getD_some] at ih2 ⊢; omega
            · exact ih2
      have hg : (cntL (L.take i) ++ [cntK (cntL (L.take i)) L[i] 4]).getD (i + 1) none = cntK (cntL (L.take i)) L[i] 4 := by
        rw [List.getD_eq_getElem?_getD, List.getElem?_append_right (by omega), hEl]; simp
      rw [hg] at hle2
      simp only [List.getElem?_eq_getElem hi] at hle2
      have h5 := mono (4 - k) (by omega)
      rw [show k + (4 - k) = 4 by omega] at h5
      exact SB_four (nn k hk) (Int.le_trans h5 hle2.2) (by omega)
    have hkidSB : ∀ k, k < 4 → 1 < L[i].lv → LB (bo ((cntL (L.take i)).getD (L[i].kid k).toNat none)) := by
      intro k hk h1
      have h2 := hle (L[i].kid k).toNat (hb k hk h1)
      refine (SB_four h2.1 h2.2 ?_).lb (by omega)
      cases hq : (L[i].kid k).toNat with
      | zero => simp
      | succ m =>
        simp only
        have hml : m < L.length := by have := hb k hk h1; omega
        rw [List.getElem?_eq_getElem hml]
        have := (loose_get hl hml).2.1
        simp only; omega
    have hgetE : ∀ (a : Option Int) (c : Nat), c ≤ i → (cntL (L.take i) ++ a :: List.replicate (L.length - (i + 1)) none).getD c none = (cntL (L.take i)).getD c none := by
      intro a c hc
      simp only [List.getD_eq_getElem?_getD]
      rw [List.getElem?_append_left (by omega)]
    have hfin : cntL (L.take (i + 1)) ++ List.replicate (L.length - (i + 1)) none = cntL (L.take i) ++ cntK (cntL (L.take i)) L[i] 4 :: List.replicate (L.length - (i + 1)) none := by rw [cntL_take L hi]; simp
    have hini : cntL (L.take i) ++ List.replicate (L.length - i) none = cntL (L.take i) ++ cntK (cntL (L.take i)) L[i] 0 :: List.replicate (L.length - (i + 1)) none := by
      rw [show L.length - i = (L.length - (i + 1)) + 1 from by omega, List.replicate_succ]; rfl
    rw [hfin, hini]
    generalize hC : cntL (L.take i) = C at *
    generalize hx : L[i] = x at *
    have hset2 : ∀ a b : Option Int, (C ++ a :: List.replicate (L.length - (i + 1)) none).set (i + 1) b = C ++ b :: List.replicate (L.length - (i + 1)) none := by
      intro a b; rw [List.set_append_right _ _ (by omega), hEl, Nat.sub_self, List.set_cons_zero]
    have hlenE : ∀ a : Option Int, (C ++ a :: List.replicate (L.length - (i + 1)) none).length = L.length + 1 := by intro a; simp [hEl]; omega
    have hgetI : ∀ a : Option Int, (C ++ a :: List.replicate (L.length - (i + 1)) none)[i + 1]? = some a := by
      intro a; rw [List.getElem?_append_right (by omega), hEl]; simp
    refine loop_up (G := fun rec2 vs H1 => Sh.gliderref07_counts_l2 H rec rec2 (ag vs 0) (ag vs 1) (ag vs 2) (ag vs 3) H1) 4 (fun k => [.sl (enL cNd L) tk, .ms H.length 0 0 (L.length + 1) (L.length + 1) 2 true, .int .i64 (i : Int), .int .i64 (k : Int)]) (fun k => H ++ [.cel 0 (flat cBO (C ++ cntK C x k :: List.replicate (L.length - (i + 1)) none))]) _ (by decide) (fun rec2 k hk => ?_) (fun rec2 => ?_)
    · have hk' : (k : Int) < 4 := by omega
      have hwk := wrap_succ (show k < 9223372036854775807 by omega)
      have hwi := wrap_succ (show i < 9223372036854775807 by omega)
      obtain ⟨q1, q2, q3⟩ := l3 k hk
      have hb' := hb k hk
      have hsb := (hpart k (by omega)).lb (by omega)
      have hgc : getCells (H ++ [.cel 0 (flat cBO (C ++ cntK C x k :: List.replicate (L.length - (i + 1)) none))]) H.length 0 = some (flat cBO (C ++ cntK C x k :: List.replicate (L.length - (i + 1)) none)) := by simp
      have hidi := idx_ms (sz := 2) (id := H.length) (n := L.length + 1) (K := .i64) (g := 0) (off := 0) (cap := L.length + 1) (ex := true) (i := i + 1) (by omega)
      simp only [Nat.zero_add] at hidi
      have hldi : loadA true 2 (.ptr H.length 0 ((i + 1) * 2)) (H ++ [.cel 0 (flat cBO (C ++ cntK C x k :: List.replicate (L.length - (i + 1)) none))]) = some (.agg (cBO (cntK C x k))) := by
        have h1 := load_elA (f := cBO) (sz := 2) hgc (i := i + 1) (by rw [hlenE]; omega)
        rw [h1]
        have h2 := hgetI (cntK C x k)
        rw [List.getElem?_eq_getElem (by rw [hlenE]; omega)] at h2
        simp only [Option.some.injEq] at h2
        rw [h2]
      have hsti : ∀ z : Int, storeA 2 (.ptr H.length 0 ((i + 1) * 2)) (big z) (H ++ [.cel 0 (flat cBO (C ++ cntK C x k :: List.replicate (L.length - (i + 1)) none))]) = some (H ++ [.cel 0 (flat cBO (C ++ some z :: List.replicate (L.length - (i + 1)) none))]) := by
        intro z
        have h1 := store_el (f := cBO) (sz := 2) (a := some z) (v := big z) hgc (i := i + 1) (by rw [hlenE]; omega) (acells_BO z)
        rw [h1, hset2, setC_app0, setC_zero]
      have hcs : cntK C x (k + 1) = if 1 < x.lv then some (bo (cntK C x k) + bo (C.getD (x.kid k).toNat none)) else if 0 < x.kid k then some (bo (cntK C x k) + 1) else cntK C x k := rfl
      rw [hcs]
      have hof1 : ∀ H, Sh.gliderref02_Of (.int .i64 1) H = some (.ret (big 1), H) := fun H => q02_of 1 H (by omega) (by omega)
      unfold Sh.gliderref07_counts_l2
      simp only [GMb, joinPt, decide_true, decide_false, if_true, if_false, hk', idx_enL hi, hx, fieldAddr_cptr, idx_kid hk, load_cptr, Nat.zero_add, Nat.mul_one, cNd_kid hk, cNd_0, hwi, hidi, hldi]
      by_cases h1 : 1 < x.lv
      · have hcn := hb' h1
        obtain ⟨c, hc⟩ := Int.eq_ofNat_of_zero_le q1
        rw [hc] at hcn ⊢
        simp only [Int.toNat_natCast] at hcn ⊢
        have hidc := idx_ms (sz := 2) (id := H.length) (n := L.length + 1) (K := .i64) (g := 0) (off := 0) (cap := L.length + 1) (ex := true) (i := c) (by omega)
        simp only [Nat.zero_add] at hidc
        have hldc : loadA true 2 (.ptr H.length 0 (c * 2)) (H ++ [.cel 0 (flat cBO (C ++ cntK C x k :: List.replicate (L.length - (i + 1)) none))]) = some (.agg (cBO (C.getD c none))) := by
          have h2 := load_elA (f := cBO) (sz := 2) hgc (i := c) (by rw [hlenE]; omega)
          rw [h2]
          have h3 := hgetE (cntK C x k) c hcn
          rw [List.getD_eq_getElem?_getD, List.getElem?_eq_getElem (by rw [hlenE]; omega), Option.getD_some] at h3
          rw [h3]
        have hkSB := hkidSB k hk h1
        rw [hc, Int.toNat_natCast] at hkSB
        have hadd := fun H => addO (cntK C x k) (C.getD c none) H hsb hkSB
        simp only [h1, if_true, GMb, joinPt, decide_true, decide_false, if_true, if_false, gt_iff_lt, hwi, hidi, hldi, hidc, hldc, hadd, hsti, Sh.gliderref07_counts_j3, hwk, ag_succ]
      · by_cases h0 : 0 < x.kid k
        · have hadd := fun H => addO (cntK C x k) (some 1) H hsb LB_one
          simp only [h1, h0, if_false, if_true, GMb, joinPt, decide_true, decide_false, if_true, if_false, gt_iff_lt, hof1, hwi, hidi, hldi, eq_self, and_true, big_BO, hadd, Sh.gliderref07_counts_j3, hwk, ag_succ]
          simp only [← big_BO, hsti, GMb, joinPt, decide_true, decide_false, if_true, if_false, ag_succ, hwk]
          rfl
        · simp only [h1, h0, if_false, GMb, joinPt, decide_true, decide_false, if_true, if_false, gt_iff_lt, Sh.gliderref07_counts_j3, hwk, ag_succ]
    · have hf : ¬ (((4 : Nat) : Int) < 4) := by decide
      unfold Sh.gliderref07_counts_l2
      simp only [ag_zero, ag_1, ag_2, ag_3, ag_4, obind, bin_lss, hf, decide_false, condA_false, bin_add, wrap_succ (show i < 9223372036854775807 by omega)]
  · unfold Sh.gliderref07_counts_l1
    have hgc : getCells (H ++ [.cel 0 (flat cBO (cntL L))]) H.length 0 = some (flat cBO (cntL L)) := by simp
    have hfa := fall_ms (f := cBO) (b := H.length) (d := 5) (cap := L.length + 1) (ex := true) hgc (Nat.le_refl _)
    rw [cntL_len] at hfa
    have ht : L.take L.length = L := List.take_of_length_le (Nat.le_refl _)
    simp only [ag_zero, ag_1, ag_2, len_enL, obind, bin_lss, Int.lt_irrefl, decide_false, condA_false, ht, Nat.sub_self, List.replicate_zero, List.append_nil, rPN_app, hfa, Option.map_some]
def countZ (L : List Nd) : Int := bo ((cntL L).getD L.length none)
theorem q07_count (L : List Nd) (H : AHeap) (hL : L.length < 549755813888) (hl : looseB L = true) : Sh.gliderref07_Count (quad L) H = some (.ret (big (countZ L)), H) := by
  unfold Sh.gliderref07_Count
  have e3 : (H ++ [Blk.cel 0 (quadC L)] ++ [Blk.cel 0 (cBO none)])[H.length]? = some (.cel 0 (quadC L)) := by simp
  have halloc : ∀ Hc, allocA (some [.bool false, .sl [] .tight]) Hc = some (.ptr Hc.length 0 0, Hc ++ [.cel 0 (cBO none)]) := fun Hc => allocBig Hc
  have hcs := fun H => q07_counts L .no H hL hl
  have hlt : L.length < (cntL L).length := by rw [cntL_len]; omega
  have hst : ∀ (B : AHeap) (a : Option Int), storeA 2 (.ptr B.length 0 0) (.agg (cBO a)) (B ++ [Blk.cel 0 (cBO none)]) = some (B ++ [Blk.cel 0 (cBO a)]) := fun B a => by rw [store_BOP last_cel rfl, last_set]
  have hldB : ∀ (B : AHeap) (a : Option Int), loadA true 2 (.ptr B.length 0 0) (B ++ [Blk.cel 0 (cBO a)]) = some (.agg (cBO a)) := fun B a => load_BOP last_cel
  have hcp : ∀ (a : Option Int) (H : AHeap), loadA true 2 (.cptr (cBO a) 0) H = some (.agg (cBO a)) := fun a H => by cases a <;> rfl
  simp only [GMb, joinPt, decide_true, decide_false, if_true, if_false, boxQ, halloc, fieldAddr_ptr, Nat.zero_add, Nat.add_zero, load_nodesP e3, hcs, and_true, eq_self, len_enL, idx_enL hlt, hcp, hst, hldB]
  have hc : (cntL L)[L.length] = (cntL L).getD L.length none := by rw [List.getD_eq_getElem?_getD, List.getElem?_eq_getElem hlt]; rfl
  rw [hc, List.append_assoc, rPN_app]
  unfold countZ
  have hSB : bo ((cntL L).getD L.length none) = bo ((cntL L).getD L.length none) := rfl
  generalize (cntL L).getD L.length none = o
  cases o with
  | none => simp [cBO, bo, big, bigC, lims_zero, enL]
  | some z =>
    simp [cBO, bo, big, bigC]
    rfl
end Go.Gm
/- Chapter 7 of the document: the cells of a node. -/
namespace Go.Gm
set_option linter.unusedVariables false
set_option linter.unusedSimpArgs false
def cellsK (rec : Int → Int → Int → List Cl) (v : Nat) (x : Nd) (a b : Int) (k : Nat) : List Cl :=
  if 1 < x.lv then rec (x.kid k) (qa v a k) (qb v b k) else if 0 < x.kid k then [⟨qa v a k, qb v b k, UInt8.ofNat (x.kid k).toNat⟩] else []
def cellsN (L : List Nd) : Nat → Int → Int → Int → List Cl
  | 0, _, _, _ => []
  | v + 1, n, x, y => if n = 0 then [] else (List.range 4).flatMap fun k => cellsK (cellsN L v) (v + 1) (ndAt L n) x y k
theorem cellsN_zero (L : List Nd) (v : Nat) (x y : Int) : cellsN L v 0 x y = [] := by cases v <;> simp [cellsN]
theorem RS.app {α : Type} {f : α → List AVal} {ty : TypeId} {sz : Nat} [hf : Sz f sz] {bytes b : Nat} {out : List α} {v : AVal} {H : AHeap} (h : RS f ty sz b out v H) (hb : b ≤ H.length) (m : List α) (tk : Tok) (hl : (out.length + m.length) * bytes ≤ 140737488355328) (hl2 : out.length + m.length ≤ 140737488355328) :
    ∃ v' H', appendA ty sz bytes v (.sl (enL f m) tk) H = some (v', H') ∧ RS f ty sz b (out ++ m) v' H' ∧ Kp b H H' := by
  by_cases hm : m = []
  · subst hm
    have hx : (elemsA sz v H).isSome = true := by
      obtain ⟨tk', rfl⟩ := h.sl
      rw [elems_sl]; rfl
    refine ⟨v, H, append_nothing hx, by rw [List.append_nil]; exact h, Kp.refl _ _⟩
  · rcases h with ⟨rfl, rfl⟩ | ⟨t, h1, rfl, h3⟩
    · have := append_tight (f := f) (l := []) (m := m) (ty := ty) (bytes := bytes) (tk := tk) (H := H) hm (by simpa using hl) (by simpa using hl2)
      exact ⟨_, _, this, .inr ⟨H.length, hb, rfl, by simp⟩, Kp.app hb _⟩
    · have := append_own (f := f) (l := out) (m := m) (ty := ty) (bytes := bytes) (tk := tk) (H := H) (t := t) hm h3 hl hl2
      have htl := (List.getElem?_eq_some_iff.1 h3).1
      refine ⟨_, _, this, .inr ⟨t, h1, rfl, by simp [htl]⟩, ⟨by simp, fun i cs hc => ?_, fun i hi => ?_⟩⟩
      · have : t ≠ i := fun e => by rw [← e, h3] at hc; cases hc
        rw [List.getElem?_set_ne this]; exact hc
      · rw [List.getElem?_set_ne (by omega)]
theorem sb_k {x : Int} {v k m : Nat} (h : x.natAbs + 2 ^ v ≤ 2 ^ k) (hk : k ≤ 32 * m) : SB m x := by
  have h1 : 0 < 2 ^ v := Nat.pow_pos (by omega)
  have h2 : x.natAbs < 2 ^ k := by omega
  exact Nat.lt_of_lt_of_le h2 (pow32_le hk)
theorem sb_1340 {x : Int} {v : Nat} (h : x.natAbs + 2 ^ v ≤ 2 ^ 1340) : SB 42 x := sb_k (k := 1340) h (by decide)
theorem qa_abs {x : Int} {u k : Nat} (h : x.natAbs + 2 ^ (u + 1) ≤ 2 ^ 1340) : (qa (u + 1) x k).natAbs + 2 ^ u ≤ 2 ^ 1340 := by
  have h2 : x.natAbs + 2 ^ u * 2 ≤ 2 ^ 1340 := by rw [← Nat.pow_succ]; exact h
  obtain ⟨q, hq⟩ : ∃ q : Nat, q = 2 ^ 1340 := ⟨_, rfl⟩
  rw [← hq] at h2 ⊢
  clear hq h
  unfold qa
  rw [Nat.add_sub_cancel]
  have e : ((2 : Int) ^ u) = ((2 ^ u : Nat) : Int) := by push_cast; rfl
  rw [e]
  generalize 2 ^ u = p at *
  split <;> omega
theorem qb_abs {x : Int} {u k : Nat} (h : x.natAbs + 2 ^ (u + 1) ≤ 2 ^ 1340) : (qb (u + 1) x k).natAbs + 2 ^ u ≤ 2 ^ 1340 := by
  have h2 : x.natAbs + 2 ^ u * 2 ≤ 2 ^ 1340 := by rw [← Nat.pow_succ]; exact h
  obtain ⟨q, hq⟩ : ∃ q : Nat, q = 2 ^ 1340 := ⟨_, rfl⟩
  rw [← hq] at h2 ⊢
  clear hq h
  unfold qb
  rw [Nat.add_sub_cancel]
  have e : ((2 : Int) ^ u) = ((2 ^ u : Nat) : Int) := by push_cast; rfl
  rw [e]
  generalize 2 ^ u = p at *
  split <;> omega
abbrev zBig : List AVal := [.bool false, .sl [] .tight]
theorem two_a {Hd : AHeap} {A B : List AVal} {z : Int} (hA : A.length = 2) : storeA 2 (.ptr Hd.length 0 0) (big z) (Hd ++ [.cel 0 A] ++ [.cel 0 B]) = some (Hd ++ [.cel 0 (bigC z)] ++ [.cel 0 B]) := by
  rw [store_bigP (cs := A) (by simp) hA]; simp
theorem two_b {Hd : AHeap} {A B : List AVal} {z : Int} (hB : B.length = 2) : storeA 2 (.ptr (Hd.length + 1) 0 0) (big z) (Hd ++ [.cel 0 A] ++ [.cel 0 B]) = some (Hd ++ [.cel 0 A] ++ [.cel 0 (bigC z)]) := by
  rw [store_bigP (cs := B) (by simp) hB]
  have : Hd.length + 1 = (Hd ++ [Blk.cel 0 A]).length := by simp
  rw [this, last_set]
theorem build_cell (a b : Int) (c : Int) (h0 : 0 < c) (h1 : c ≤ 255) : buildA (some [(.bool false), (.sl [] .tight), (.bool false), (.sl [] .tight), (.int .u8 0)]) [(0, 2, big a), (2, 2, big b), (4, 1, .int .u8 c)] = some (.agg (cCl ⟨a, b, UInt8.ofNat c.toNat⟩)) := by
  have e : ((UInt8.ofNat c.toNat).toNat : Int) = c := by rw [u8_nat (by omega)]; omega
  unfold cCl
  simp only [e]
  simp [buildA, fillA, putN, big, bigC, AVal.acells]
theorem list_turn {L : List Nd} {tk : Tok} {H Hd : AHeap} {self : AVal → AVal → AVal → AVal → AHeap → Out} {n u k p5 p7 p17 : Nat} {x y : Int} {out : List Cl} {vo : AVal} (hL : L.length < 549755813888) (hl : looseB L = true) (hn0 : 0 < n) (hn : n ≤ L.length) (hv : (ndAt L n).lv = ((u + 1 : Nat) : Int))
    (hk : k < 4) (hu : u + 1 ≤ 1329) (hx : x.natAbs + 2 ^ (u + 1) ≤ 2 ^ 1340) (hy : y.natAbs + 2 ^ (u + 1) ≤ 2 ^ 1340) (b5 : H.length ≤ p5) (b7 : H.length ≤ p7) (b17 : H.length ≤ p17)
    (f5 : Hd[p5]? = some (.cel 0 (bigC x))) (f7 : Hd[p7]? = some (.cel 0 (bigC y))) (f17 : Hd[p17]? = some (.cel 0 (bigC (2 ^ u)))) (hR : RS cCl ty_api_Cell 5 H.length out vo Hd) (hold : ∀ i, i < H.length → Hd[i]? = H[i]?) (hlen : H.length ≤ Hd.length)
    (hs : ∀ (c : Int) (a b : Int) (H1 : AHeap), c = (ndAt L n).kid k → 0 < u → a = qa (u + 1) x k → b = qb (u + 1) y k → self (.sl (enL cNd L) tk) (.int .i64 c) (big a) (big b) H1 = some (.ret (.sl (enL cCl (cellsN L u c a b)) .no), H1))
    (hcnt : out.length + (cellsK (cellsN L u) (u + 1) (ndAt L n) x y k).length ≤ 1000000000000) :
    ∃ v' H', RS cCl ty_api_Cell 5 H.length (out ++ cellsK (cellsN L u) (u + 1) (ndAt L n) x y k) v' H' ∧ H'[p5]? = some (.cel 0 (bigC x)) ∧ H'[p7]? = some (.cel 0 (bigC y)) ∧ H'[p17]? = some (.cel 0 (bigC (2 ^ u))) ∧ (∀ i, i < H.length → H'[i]? = H[i]?) ∧ H.length ≤ H'.length ∧
      ∀ rec : LK, Sh.gliderref07_list_l1 H self rec (.sl (enL cNd L) tk) (.int .i64 (n : Int)) (.ptr p5 0 0) (.ptr p7 0 0) (.ptr p17 0 0) vo (.int .i64 (k : Int)) Hd = rec [.sl (enL cNd L) tk, .int .i64 (n : Int), .ptr p5 0 0, .ptr p7 0 0, .ptr p17 0 0, v', .int .i64 ((k + 1 : Nat) : Int)] H' := by
  have hk' : (k : Int) < 4 := by omega
  have hwk := wrap_succ (show k < 9223372036854775807 by omega)
  have hwn := wrap_pred hn0 (show n < 9223372036854775807 by omega)
  have hni : n - 1 < L.length := by omega
  have hnd : ndAt L (n : Int) = L[n - 1] := ndAt_eq (by omega) hni
  have sx := sb_1340 hx
  have sy := sb_1340 hy
  have sa := sb_1340 (qa_abs (k := k) hx)
  have sb := sb_1340 (qb_abs (k := k) hy)
  have sp : LB (2 ^ u) := LB_pow u (by omega)
  obtain ⟨l1, l2, l3⟩ := loose_get hl hni
  obtain ⟨q1, q2, q3⟩ := l3 k hk
  rw [hnd] at hv hs hcnt ⊢
  have rest : ∀ a b : Int, a = qa (u + 1) x k → b = qb (u + 1) y k → ∃ v' H', RS cCl ty_api_Cell 5 H.length (out ++ cellsK (cellsN L u) (u + 1) L[n - 1] x y k) v' H' ∧ H'[p5]? = some (.cel 0 (bigC x)) ∧ H'[p7]? = some (.cel 0 (bigC y)) ∧ H'[p17]? = some (.cel 0 (bigC (2 ^ u))) ∧ (∀ i, i < H.length → H'[i]? = H[i]?) ∧ H.length ≤ H'.length ∧
      ∀ rec : LK, Sh.gliderref07_list_j4 H self (fun vs H1 => Sh.gliderref07_list_j2 H rec (ag vs 0) (ag vs 1) (ag vs 2) (ag vs 3) (ag vs 4) (ag vs 5) (ag vs 6) H1) (.sl (enL cNd L) tk) (.int .i64 (n : Int)) (.ptr p5 0 0) (.ptr p7 0 0) (.ptr p17 0 0) vo (.int .i64 (k : Int)) (.ptr Hd.length 0 0) (.ptr (Hd.length + 1) 0 0) (Hd ++ [.cel 0 (bigC a)] ++ [.cel 0 (bigC b)]) = rec [.sl (enL cNd L) tk, .int .i64 (n : Int), .ptr p5 0 0, .ptr p7 0 0, .ptr p17 0 0, v', .int .i64 ((k + 1 : Nat) : Int)] H' := by
    intro a b ha hb
    have la : loadA true 2 (.ptr Hd.length 0 0) (Hd ++ [.cel 0 (bigC a)] ++ [.cel 0 (bigC b)]) = some (big a) := load_bigP (by simp)
    have lb : loadA true 2 (.ptr (Hd.length + 1) 0 0) (Hd ++ [.cel 0 (bigC a)] ++ [.cel 0 (bigC b)]) = some (big b) := load_bigP (by simp)
    have hR' : RS cCl ty_api_Cell 5 H.length out vo (Hd ++ [.cel 0 (bigC a)] ++ [.cel 0 (bigC b)]) := (hR.left _).left _
    have hkp : Kp H.length Hd (Hd ++ [.cel 0 (bigC a)] ++ [.cel 0 (bigC b)]) := (Kp.app hlen _).trans (Kp.app (by simp; omega) _)
    generalize Hd ++ [Blk.cel 0 (bigC a)] ++ [Blk.cel 0 (bigC b)] = He at la lb hR' hkp
    have hHe : H.length ≤ He.length := Nat.le_trans hlen hkp.len
    by_cases h1 : 1 < L[n - 1].lv
    · have hu0 : 0 < u := by omega
      have hself := hs (L[n - 1].kid k) a b He rfl hu0 ha hb
      have hck : cellsK (cellsN L u) (u + 1) L[n - 1] x y k = cellsN L u (L[n - 1].kid k) a b := by unfold cellsK; rw [if_pos h1, ha, hb]
      rw [hck] at hcnt ⊢
      obtain ⟨v', H', a1, a2, a3⟩ := hR'.app (bytes := 72) hHe (cellsN L u (L[n - 1].kid k) a b) .no (by omega) (by omega)
      refine ⟨v', H', a2, (hkp.trans a3).get f5, (hkp.trans a3).get f7, (hkp.trans a3).get f17, fun i hi => by rw [(hkp.trans a3).old i hi]; exact hold i hi, Nat.le_trans hHe a3.len, fun rec => ?_⟩
      unfold Sh.gliderref07_list_j4
      simp only [GMb, joinPt, decide_true, decide_false, if_true, if_false, hwn, idx_enL hni, fieldAddr_cptr, idx_kid hk, load_cptr, Nat.zero_add, Nat.mul_one, cNd_kid hk, cNd_0, h1, gt_iff_lt, la, lb, hself, a1, ag_succ, Sh.gliderref07_list_j2, hwk]
    · have hu0 : u = 0 := by omega
      by_cases h0 : 0 < L[n - 1].kid k
      · have h255 := q2 (by omega)
        have hck : cellsK (cellsN L u) (u + 1) L[n - 1] x y k = [⟨a, b, UInt8.ofNat (L[n - 1].kid k).toNat⟩] := by unfold cellsK; rw [if_neg h1, if_pos h0, ha, hb]
        rw [hck] at hcnt ⊢
        simp only [List.length_singleton] at hcnt
        obtain ⟨v', H', a1, a2, a3⟩ := hR'.app (bytes := 72) hHe [⟨a, b, UInt8.ofNat (L[n - 1].kid k).toNat⟩] .tight (by simp only [List.length_singleton]; omega) (by simp only [List.length_singleton]; omega)
        have hcv : convInt .u8 (.int .i64 (L[n - 1].kid k)) = some (.int .u8 (L[n - 1].kid k)) := by rw [conv_int, wrap_u8 q1 (by omega)]
        have hbc := build_cell a b (L[n - 1].kid k) h0 h255
        refine ⟨v', H', a2, (hkp.trans a3).get f5, (hkp.trans a3).get f7, (hkp.trans a3).get f17, fun i hi => by rw [(hkp.trans a3).old i hi]; exact hold i hi, Nat.le_trans hHe a3.len, fun rec => ?_⟩
        unfold Sh.gliderref07_list_j4
        simp only [GMb, joinPt, decide_true, decide_false, if_true, if_false, hwn, idx_enL hni, fieldAddr_cptr, idx_kid hk, load_cptr, Nat.zero_add, Nat.mul_one, cNd_kid hk, cNd_0, h1, h0, gt_iff_lt, la, lb, hcv, hbc, build_cl, a1, ag_succ, Sh.gliderref07_list_j2, hwk]
      · have hck : cellsK (cellsN L u) (u + 1) L[n - 1] x y k = [] := by unfold cellsK; rw [if_neg h1, if_neg h0]
        rw [hck, List.append_nil]
        refine ⟨vo, He, hR', hkp.get f5, hkp.get f7, hkp.get f17, fun i hi => by rw [hkp.old i hi]; exact hold i hi, hHe, fun rec => ?_⟩
        unfold Sh.gliderref07_list_j4
        simp only [GMb, joinPt, decide_true, decide_false, if_true, if_false, hwn, idx_enL hni, fieldAddr_cptr, idx_kid hk, load_cptr, Nat.zero_add, Nat.mul_one, cNd_kid hk, cNd_0, h1, h0, gt_iff_lt, la, lb, ag_succ, Sh.gliderref07_list_j2, hwk]
  have al1 := allocBig Hd
  have al2 : ∀ A, allocA (some [.bool false, .sl [] .tight]) (Hd ++ [.cel 0 A]) = some (.ptr (Hd.length + 1) 0 0, Hd ++ [.cel 0 A] ++ [.cel 0 zBig]) := fun A => by rw [allocBig]; simp
  have lx : ∀ G, loadA true 2 (.ptr p5 0 0) (Hd ++ G) = some (big x) := fun G => load_bigP (get_left f5)
  have ly : ∀ G, loadA true 2 (.ptr p7 0 0) (Hd ++ G) = some (big y) := fun G => load_bigP (get_left f7)
  have lh : ∀ G, loadA true 2 (.ptr p17 0 0) (Hd ++ G) = some (big (2 ^ u)) := fun G => load_bigP (get_left f17)
  have lx2 : ∀ G G', loadA true 2 (.ptr p5 0 0) (Hd ++ G ++ G') = some (big x) := fun G G' => by rw [List.append_assoc]; exact lx _
  have ly2 : ∀ G G', loadA true 2 (.ptr p7 0 0) (Hd ++ G ++ G') = some (big y) := fun G G' => by rw [List.append_assoc]; exact ly _
  have lh2 : ∀ G G', loadA true 2 (.ptr p17 0 0) (Hd ++ G ++ G') = some (big (2 ^ u)) := fun G G' => by rw [List.append_assoc]; exact lh _
  have lx0 : loadA true 2 (.ptr p5 0 0) Hd = some (big x) := load_bigP f5
  have ly0 : loadA true 2 (.ptr p7 0 0) Hd = some (big y) := load_bigP f7
  have addx := fun H => q02_addZ x (2 ^ u) H (sx.lb (by omega)) sp
  have addy := fun H => q02_addZ y (2 ^ u) H (sy.lb (by omega)) sp
  have hrem : (k : Int).tmod 2 = ((k % 2 : Nat) : Int) := rfl
  have hmod : decide (((k % 2 : Nat) : Int) = 1) = decide (k % 2 = 1) := by rw [Bool.eq_iff_iff]; simp only [decide_eq_true_eq]; omega
  have hgt : decide ((k : Int) > 1) = decide (1 < k) := by rw [Bool.eq_iff_iff]; simp only [decide_eq_true_eq]; omega
  have zl : zBig.length = 2 := rfl
  have bl : ∀ z : Int, (bigC z).length = 2 := fun z => rfl
  obtain ⟨v', H', r1, r2, r3, r4, r5, r6, r7⟩ := rest (qa (u + 1) x k) (qb (u + 1) y k) rfl rfl
  refine ⟨v', H', r1, r2, r3, r4, r5, r6, fun rec => ?_⟩
  have s1 : ∀ z, storeA 2 (.ptr Hd.length 0 0) (big z) (Hd ++ [.cel 0 zBig] ++ [.cel 0 zBig]) = some (Hd ++ [.cel 0 (bigC z)] ++ [.cel 0 zBig]) := fun z => two_a zl
  have s2 : ∀ z A, storeA 2 (.ptr (Hd.length + 1) 0 0) (big z) (Hd ++ [.cel 0 A] ++ [.cel 0 zBig]) = some (Hd ++ [.cel 0 A] ++ [.cel 0 (bigC z)]) := fun z A => two_b zl
  have s3 : ∀ z z' B, storeA 2 (.ptr Hd.length 0 0) (big z) (Hd ++ [.cel 0 (bigC z')] ++ [.cel 0 B]) = some (Hd ++ [.cel 0 (bigC z)] ++ [.cel 0 B]) := fun z z' B => two_a (bl z')
  have s4 : ∀ z z' A, storeA 2 (.ptr (Hd.length + 1) 0 0) (big z) (Hd ++ [.cel 0 A] ++ [.cel 0 (bigC z')]) = some (Hd ++ [.cel 0 A] ++ [.cel 0 (bigC z)]) := fun z z' A => two_b (bl z')
  have j3 : ∀ a : Int, a = qa (u + 1) x k → Sh.gliderref07_list_j3 H self (fun vs H1 => Sh.gliderref07_list_j2 H rec (ag vs 0) (ag vs 1) (ag vs 2) (ag vs 3) (ag vs 4) (ag vs 5) (ag vs 6) H1) (.sl (enL cNd L) tk) (.int .i64 (n : Int)) (.ptr p5 0 0) (.ptr p7 0 0) (.ptr p17 0 0) vo (.int .i64 (k : Int)) (.ptr Hd.length 0 0) (.ptr (Hd.length + 1) 0 0) (Hd ++ [.cel 0 (bigC a)] ++ [.cel 0 (bigC y)]) = rec [.sl (enL cNd L) tk, .int .i64 (n : Int), .ptr p5 0 0, .ptr p7 0 0, .ptr p17 0 0, v', .int .i64 ((k + 1 : Nat) : Int)] H' := by
    intro a ha
    subst ha
    unfold Sh.gliderref07_list_j3
    have hqb : qb (u + 1) y k = if 1 < k then y + 2 ^ u else y := by unfold qb; rw [Nat.add_sub_cancel]
    have r7' := r7 rec
    rw [hqb] at r7'
    by_cases hk1 : 1 < k
    · rw [if_pos hk1] at r7'
      simp only [GMb, joinPt, decide_true, decide_false, if_true, if_false, hgt, hk1, ly2, lh2, addy, s4, ag_succ]
      exact r7'
    · rw [if_neg hk1] at r7'
      simp only [GMb, joinPt, decide_true, decide_false, if_true, if_false, hgt, hk1, ag_succ]
      exact r7'
  have hqa : qa (u + 1) x k = if k % 2 = 1 then x + 2 ^ u else x := by unfold qa; rw [Nat.add_sub_cancel]
  rw [hqa] at j3
  unfold Sh.gliderref07_list_l1
  simp only [GMb, joinPt, decide_true, decide_false, if_true, if_false, hk', al1, al2, lx0, ly0, lx2, ly2, s1, s2, and_true, eq_self, bin_rem (show (2 : Int) ≠ 0 by decide), hrem, hmod, ag_succ]
  by_cases hk2 : k % 2 = 1
  · rw [if_pos hk2] at j3
    simp only [GMb, joinPt, decide_true, decide_false, if_true, if_false, hk2, lx2, lh2, addx, s3, ag_succ]
    exact j3 _ rfl
  · rw [if_neg hk2] at j3
    simp only [GMb, joinPt, decide_true, decide_false, if_true, if_false, hk2, ag_succ]
    exact j3 _ rfl
theorem q07_listN {L : List Nd} {tk : Tok} (hL : L.length < 549755813888) (hl : looseB L = true) : ∀ (v n : Nat) (x y : Int) (d : Nat) (H : AHeap), Lv L v n → v ≤ d → v ≤ 1329 → x.natAbs + 2 ^ v ≤ 2 ^ 1340 → y.natAbs + 2 ^ v ≤ 2 ^ 1340 → (cellsN L v n x y).length ≤ 1000000000000 →
    Sh.gliderref07_list (d + 1) (.sl (enL cNd L) tk) (.int .i64 (n : Int)) (big x) (big y) H = some (.ret (.sl (enL cCl (cellsN L v n x y)) .no), H) := by
  intro v
  induction v with
  | zero =>
    intro n x y d H hLv _ _ _ _ _
    have hn : n = 0 := by
      rcases Nat.eq_zero_or_pos n with h | h
      · exact h
      · have := (hLv.num h hl).2; omega
    subst hn
    show Sh.gliderref07_list_F (Sh.gliderref07_list d) _ _ _ _ H = _
    unfold Sh.gliderref07_list_F
    simp only [GMb, joinPt, decide_true, decide_false, if_true, if_false, boxBig, Int.natCast_zero, cellsN_zero, enL_nil]
    rw [List.append_assoc, rPN_app]
    simp only [fall_sl, Option.map_some]
  | succ u ih =>
    intro n x y d H hLv hd hv hx hy hlen
    show Sh.gliderref07_list_F (Sh.gliderref07_list d) _ _ _ _ H = _
    unfold Sh.gliderref07_list_F
    by_cases hn : n = 0
    · subst hn
      simp only [GMb, joinPt, decide_true, decide_false, if_true, if_false, boxBig, Int.natCast_zero, cellsN_zero, enL_nil]
      rw [List.append_assoc, rPN_app]
      simp only [fall_sl, Option.map_some]
    · have hn0 : 0 < n := by omega
      have hn' : ¬ (n : Int) = 0 := by omega
      have hnL := hLv.1
      have hni : n - 1 < L.length := by omega
      have hnd : ndAt L (n : Int) = L[n - 1] := ndAt_eq (by omega) hni
      obtain ⟨hlv, _⟩ := hLv.num hn0 hl
      have hwn := wrap_pred hn0 (show n < 9223372036854775807 by omega)
      have hlv2 : L[n - 1].lv = ((u + 1 : Nat) : Int) := by rw [← hnd]; exact hlv
      have hwl : IntKind.i64.wrap (((u + 1 : Nat) : Int) - 1) = ((u : Nat) : Int) := by rw [wrap_i64] <;> omega
      have hpow := fun H => q02_pow u H (by omega)
      have hcells : cellsN L (u + 1) n x y = (List.range 4).flatMap fun k => cellsK (cellsN L u) (u + 1) (ndAt L n) x y k := by
        show (if (n : Int) = 0 then _ else _) = _
        rw [if_neg hn']
      have h5 : (H ++ [Blk.cel 0 (bigC x)] ++ [Blk.cel 0 (bigC y)] ++ [Blk.cel 0 (bigC (2 ^ u))])[H.length]? = some (.cel 0 (bigC x)) := by simp
      have h7 : (H ++ [Blk.cel 0 (bigC x)] ++ [Blk.cel 0 (bigC y)] ++ [Blk.cel 0 (bigC (2 ^ u))])[(H ++ [Blk.cel 0 (bigC x)]).length]? = some (.cel 0 (bigC y)) := get_left last_cel
      have h17 : (H ++ [Blk.cel 0 (bigC x)] ++ [Blk.cel 0 (bigC y)] ++ [Blk.cel 0 (bigC (2 ^ u))])[(H ++ [Blk.cel 0 (bigC x)] ++ [Blk.cel 0 (bigC y)]).length]? = some (.cel 0 (bigC (2 ^ u))) := last_cel
      have hst : storeA 2 (.ptr (H ++ [Blk.cel 0 (bigC x)] ++ [Blk.cel 0 (bigC y)]).length 0 0) (big (2 ^ u)) (H ++ [Blk.cel 0 (bigC x)] ++ [Blk.cel 0 (bigC y)] ++ [Blk.cel 0 zBig]) = some (H ++ [Blk.cel 0 (bigC x)] ++ [Blk.cel 0 (bigC y)] ++ [Blk.cel 0 (bigC (2 ^ u))]) := by
        rw [store_bigP last_cel rfl, last_set]
      have hold : ∀ i, i < H.length → (H ++ [Blk.cel 0 (bigC x)] ++ [Blk.cel 0 (bigC y)] ++ [Blk.cel 0 (bigC (2 ^ u))])[i]? = H[i]? := fun i hi => by rw [List.append_assoc, List.append_assoc, List.getElem?_append_left hi]
      have hlen0 : H.length ≤ (H ++ [Blk.cel 0 (bigC x)] ++ [Blk.cel 0 (bigC y)] ++ [Blk.cel 0 (bigC (2 ^ u))]).length := by simp
      simp only [GMb, joinPt, decide_true, decide_false, if_true, if_false, boxBig, hn', hwn, idx_enL hni, fieldAddr_cptr, load_cptr, Nat.zero_add, cNd_0, hlv2, hwl, hpow, allocBig, hst]
      have b7 : H.length ≤ (H ++ [Blk.cel 0 (bigC x)]).length := by simp
      have b17 : H.length ≤ (H ++ [Blk.cel 0 (bigC x)] ++ [Blk.cel 0 (bigC y)]).length := by simp
      generalize (H ++ [Blk.cel 0 (bigC x)] ++ [Blk.cel 0 (bigC y)]).length = p17 at *
      generalize (H ++ [Blk.cel 0 (bigC x)]).length = p7 at *
      generalize H ++ [Blk.cel 0 (bigC x)] ++ [Blk.cel 0 (bigC y)] ++ [Blk.cel 0 (bigC (2 ^ u))] = Hc at *
      obtain ⟨d', rfl⟩ : ∃ d', d = d' + 1 := ⟨d - 1, by omega⟩
      have hpre : ∀ k, k ≤ 4 → ((List.range k).flatMap fun k => cellsK (cellsN L u) (u + 1) (ndAt L n) x y k).length ≤ (cellsN L (u + 1) n x y).length := by
        intro k hk
        rw [hcells, show (4 : Nat) = k + (4 - k) by omega, List.range_add, List.flatMap_append, List.length_append]
        omega
      have loop := loop_inv (G := fun rec1 vs H1 => Sh.gliderref07_list_l1 H (Sh.gliderref07_list (d' + 1)) rec1 (ag vs 0) (ag vs 1) (ag vs 2) (ag vs 3) (ag vs 4) (ag vs 5) (ag vs 6) H1) 4
        (fun k vs Hd => ∃ vo, vs = [.sl (enL cNd L) tk, .int .i64 (n : Int), .ptr H.length 0 0, .ptr p7 0 0, .ptr p17 0 0, vo, .int .i64 (k : Int)] ∧ RS cCl ty_api_Cell 5 H.length ((List.range k).flatMap fun k => cellsK (cellsN L u) (u + 1) (ndAt L n) x y k) vo Hd ∧ Hd[H.length]? = some (.cel 0 (bigC x)) ∧ Hd[p7]? = some (.cel 0 (bigC y)) ∧ Hd[p17]? = some (.cel 0 (bigC (2 ^ u))) ∧ (∀ i, i < H.length → Hd[i]? = H[i]?) ∧ H.length ≤ Hd.length)
        (by decide) (fun k vs Hd hk hI => ?_) (vs := [.sl (enL cNd L) tk, .int .i64 (n : Int), .ptr H.length 0 0, .ptr p7 0 0, .ptr p17 0 0, .sl [] .tight, .int .i64 0]) (H := Hc) ⟨_, rfl, .inl ⟨rfl, rfl⟩, h5, h7, h17, hold, hlen0⟩
      · obtain ⟨vs', Hd, ⟨vo, rfl, gR, _, _, _, go, gl⟩, rec, hloop⟩ := loop
        rw [hloop]
        obtain ⟨tk2, rfl⟩ := gR.sl
        have hf : ¬ (((4 : Nat) : Int) < 4) := by decide
        unfold Sh.gliderref07_list_l1
        simp only [ag_zero, ag_succ, bin_lss, obind, hf, decide_false, condA_false, rPN_eq (take_of_old go), fall_sl, Option.map_some]
        rw [hcells]
      · obtain ⟨vo, rfl, gR, g5, g7, g17, go, gl⟩ := hI
        have hck := hpre (k + 1) (by omega)
        rw [List.range_succ, List.flatMap_append, List.length_append, List.flatMap_singleton] at hck
        obtain ⟨v', H', a1, a2, a3, a4, a5, a6, a7⟩ := list_turn (self := Sh.gliderref07_list (d' + 1)) hL hl hn0 hnL hlv hk hv hx hy (Nat.le_refl _) b7 b17 g5 g7 g17 gR go gl (fun c a b H1 hc hu0 ha hb => by
          subst hc
          have h1 : 1 < (ndAt L n).lv := by rw [hlv]; omega
          obtain ⟨e1, e2, e3⟩ := hLv.kid hl hn0 h1 hk
          obtain ⟨m, hm⟩ := Int.eq_ofNat_of_zero_le e3
          rw [hm] at e1 ⊢
          rw [Int.toNat_natCast] at e1
          refine ih m a b d' H1 e1 (by omega) (by omega) (by rw [ha]; exact qa_abs hx) (by rw [hb]; exact qb_abs hy) ?_
          have h2 : cellsK (cellsN L u) (u + 1) (ndAt L n) x y k = cellsN L u m a b := by unfold cellsK; rw [if_pos h1, ha, hb, hm]
          rw [← h2]; omega) (by omega)
        refine ⟨_, H', ⟨v', rfl, ?_, a2, a3, a4, a5, a6⟩, fun rec => ?_⟩
        · rw [List.range_succ, List.flatMap_append, List.flatMap_singleton]; exact a1
        · exact a7 rec
end Go.Gm
/- Chapter 7 of the document: the list of a quad's cells. -/
namespace Go.Gm
set_option linter.unusedVariables false
set_option linter.unusedSimpArgs false
theorem cntL_old (L : List Nd) : ∀ (d i : Nat), i + d = L.length → ∀ j, j ≤ i → (cntL (L.take i)).getD j none = (cntL L).getD j none
  | 0, i, h, j, hj => by rw [List.take_of_length_le (by omega)]
  | d + 1, i, h, j, hj => by
    rw [← cntL_old L d (i + 1) (by omega) j (by omega), cntL_take L (show i < L.length by omega)]
    have hlen : (cntL (L.take i)).length = i + 1 := by rw [cntL_len]; simp; omega
    simp only [List.getD_eq_getElem?_getD]
    rw [List.getElem?_append_left (by omega)]
theorem cntK_congr {E E' : List (Option Int)} {x : Nd} (h : ∀ k, k < 4 → 1 < x.lv → E.getD (x.kid k).toNat none = E'.getD (x.kid k).toNat none) : ∀ j, j ≤ 4 → cntK E x j = cntK E' x j
  | 0, _ => rfl
  | j + 1, hj => by
    have ih := cntK_congr h j (by omega)
    unfold cntK
    by_cases h1 : 1 < x.lv
    · rw [if_pos h1, if_pos h1, ih, h j (by omega) h1]
    · rw [if_neg h1, if_neg h1, ih]
theorem cntL_get {L : List Nd} (hl : looseB L = true) {m : Nat} (hm : m < L.length) : (cntL L).getD (m + 1) none = cntK (cntL L) L[m] 4 := by
  have hlen : (cntL (L.take m)).length = m + 1 := by rw [cntL_len]; simp; omega
  obtain ⟨l1, l2, l3⟩ := loose_get hl hm
  rw [← cntL_old L (L.length - (m + 1)) (m + 1) (by omega) (m + 1) (Nat.le_refl _), cntL_take L hm]
  have hg : (cntL (L.take m) ++ [cntK (cntL (L.take m)) L[m] 4]).getD (m + 1) none = cntK (cntL (L.take m)) L[m] 4 := by
    rw [List.getD_eq_getElem?_getD, List.getElem?_append_right (by omega), hlen]; simp
  rw [hg]
  refine cntK_congr (fun k hk h1 => ?_) 4 (Nat.le_refl _)
  obtain ⟨q1, q2, q3⟩ := l3 k hk
  have : (L[m].kid k).toNat ≤ m := by
    by_cases h0 : 0 < L[m].kid k
    · have := (q3 h1 h0).1; omega
    · omega
  exact cntL_old L (L.length - m) m (by omega) _ this
theorem cntL_zero (L : List Nd) : (cntL L).getD 0 none = none := by
  rw [← cntL_old L L.length 0 (by omega) 0 (Nat.le_refl _)]; rfl
/-- As many cells are listed as are counted. -/
theorem cellsN_len {L : List Nd} (hl : looseB L = true) : ∀ (v n : Nat) (x y : Int), Lv L v n → ((cellsN L v n x y).length : Int) = bo ((cntL L).getD n none) := by
  intro v
  induction v with
  | zero =>
    intro n x y hLv
    have hn : n = 0 := by
      rcases Nat.eq_zero_or_pos n with h | h
      · exact h
      · have := (hLv.num h hl).2; omega
    subst hn
    rw [cntL_zero]; rfl
  | succ u ih =>
    intro n x y hLv
    by_cases hn : n = 0
    · subst hn
      rw [cntL_zero]
      rw [show ((0 : Nat) : Int) = 0 from rfl, cellsN_zero]; rfl
    · have hn0 : 0 < n := by omega
      have hn' : ¬ (n : Int) = 0 := by omega
      have hnL := hLv.1
      have hni : n - 1 < L.length := by omega
      have hnd : ndAt L (n : Int) = L[n - 1] := ndAt_eq (by omega) hni
      obtain ⟨hlv, _⟩ := hLv.num hn0 hl
      obtain ⟨l1, l2, l3⟩ := loose_get hl hni
      have hcells : cellsN L (u + 1) n x y = (List.range 4).flatMap fun k => cellsK (cellsN L u) (u + 1) (ndAt L n) x y k := by
        show (if (n : Int) = 0 then _ else _) = _
        rw [if_neg hn']
      have hget := cntL_get hl hni
      rw [show n - 1 + 1 = n by omega] at hget
      rw [hcells, hget, ← hnd]
      have part : ∀ k, k ≤ 4 → (((List.range k).flatMap fun k => cellsK (cellsN L u) (u + 1) (ndAt L n) x y k).length : Int) = bo (cntK (cntL L) (ndAt L n) k) := by
        intro k
        induction k with
        | zero => intro _; simp [cntK, bo]
        | succ k ihk =>
          intro hk
          have ih2 := ihk (by omega)
          rw [List.range_succ, List.flatMap_append, List.length_append, List.flatMap_singleton]
          push_cast
          rw [ih2]
          unfold cellsK
          rw [show cntK (cntL L) (ndAt L n) (k + 1) = if 1 < (ndAt L n).lv then some (bo (cntK (cntL L) (ndAt L n) k) + bo ((cntL L).getD ((ndAt L n).kid k).toNat none)) else if 0 < (ndAt L n).kid k then some (bo (cntK (cntL L) (ndAt L n) k) + 1) else cntK (cntL L) (ndAt L n) k from rfl]
          by_cases h1 : 1 < (ndAt L n).lv
          · rw [if_pos h1, if_pos h1]
            obtain ⟨e1, e2, e3⟩ := hLv.kid hl hn0 h1 (show k < 4 by omega)
            obtain ⟨m, hm⟩ := Int.eq_ofNat_of_zero_le e3
            rw [hm] at e1 ⊢
            rw [Int.toNat_natCast] at e1 ⊢
            rw [ih m _ _ e1]; rfl
          · rw [if_neg h1, if_neg h1]
            by_cases h0 : 0 < (ndAt L n).kid k
            · rw [if_pos h0, if_pos h0]; rfl
            · rw [if_neg h0, if_neg h0]; simp
      exact part 4 (Nat.le_refl _)
theorem cellsN_sb {L : List Nd} : ∀ (v : Nat) (n x y : Int), x.natAbs + 2 ^ v ≤ 2 ^ 1340 → y.natAbs + 2 ^ v ≤ 2 ^ 1340 → ∀ c ∈ cellsN L v n x y, SB 42 c.x ∧ SB 42 c.y := by
  intro v
  induction v with
  | zero => intro n x y _ _ c hc; cases hc
  | succ u ih =>
    intro n x y hx hy c hc
    have hc' : c ∈ (if n = 0 then [] else (List.range 4).flatMap fun k => cellsK (cellsN L u) (u + 1) (ndAt L n) x y k) := hc
    split at hc'
    · cases hc'
    · rw [List.mem_flatMap] at hc'
      obtain ⟨k, _, hk⟩ := hc'
      unfold cellsK at hk
      have ha := qa_abs (k := k) hx
      have hb := qb_abs (k := k) hy
      split at hk
      · exact ih _ _ _ ha hb c hk
      · split at hk
        · rw [List.mem_singleton] at hk
          subst hk
          exact ⟨sb_1340 ha, sb_1340 hb⟩
        · cases hk
theorem cellsN_ok {L : List Nd} (v : Nat) (n x y : Int) (hx : x.natAbs + 2 ^ v ≤ 2 ^ 1340) (hy : y.natAbs + 2 ^ v ≤ 2 ^ 1340) : ∀ c ∈ cellsN L v n x y, c.ok := fun c hc => by
  obtain ⟨h1, h2⟩ := cellsN_sb v n x y hx hy c hc
  exact ⟨h1.mono (by omega), h2.mono (by omega)⟩
def cornerZ (L : List Nd) : Int := -(2 ^ ((topLv L).toNat - 1))
def cellsL (L : List Nd) : List Cl := cellsN L (topLv L).toNat L.length (cornerZ L) (cornerZ L)
def listO (L : List Nd) (most : Int) : List Cl × Bool := if countZ L > most then ([], false) else if L = [] then ([], true) else (lastL (cellsL L), true)
theorem countZ_b {L : List Nd} (hl : looseB L = true) : LB (countZ L) := by
  have h := cntL_le hl L.length (Nat.le_refl _) L.length (Nat.le_refl _)
  rw [List.take_of_length_le (Nat.le_refl _)] at h
  unfold countZ
  refine (SB_four h.1 h.2 ?_).lb (by omega)
  cases hq : L.length with
  | zero => simp
  | succ m =>
    simp only
    have hml : m < L.length := by omega
    rw [List.getElem?_eq_getElem hml]
    have := (loose_get hl hml).2.1
    simp only; omega
theorem corner_k {v k : Nat} (h : v + 1 ≤ k) : (-((2 : Int) ^ (v - 1))).natAbs + 2 ^ v ≤ 2 ^ k := by
  have e : ((2 : Int) ^ (v - 1)).natAbs = 2 ^ (v - 1) := by rw [Int.natAbs_pow]; rfl
  rw [Int.natAbs_neg, e]
  have h1 : 2 ^ (v - 1) ≤ 2 ^ v := Nat.pow_le_pow_right (by omega) (by omega)
  have h2 : 2 ^ v * 2 ≤ 2 ^ k := by rw [← Nat.pow_succ]; exact pow2_le h
  omega
theorem corner_abs {L : List Nd} (hl : looseB L = true) (h0 : L ≠ []) : (cornerZ L).natAbs + 2 ^ (topLv L).toNat ≤ 2 ^ 1340 := by
  have hlen : 0 < L.length := List.length_pos_iff.2 h0
  have hle : (topLv L).toNat ≤ 1329 := lv_le hl hlen (Nat.le_refl _)
  unfold cornerZ
  generalize (topLv L).toNat = v at *
  exact corner_k (k := 1340) (by omega)
theorem cellsL_len {L : List Nd} (hl : looseB L = true) (h0 : L ≠ []) : ((cellsL L).length : Int) = countZ L := by
  have hlen : 0 < L.length := List.length_pos_iff.2 h0
  exact cellsN_len hl _ L.length _ _ ⟨Nat.le_refl _, .inr rfl⟩
theorem q07_List (L : List Nd) (most : Int) (H : AHeap) (hL : L.length < 549755813888) (hl : looseB L = true) (h0 : -9223372036854775808 ≤ most) (h1 : most ≤ 500000000000) :
    Sh.gliderref07_List (quad L) (.int .i64 most) H = some (.ret (.tup [.sl (enL cCl (listO L most).1) .no, .bool (listO L most).2]), H) := by
  unfold Sh.gliderref07_List listO
  have e3 : (H ++ [Blk.cel 0 (quadC L)])[H.length]? = some (.cel 0 (quadC L)) := last_cel
  have hct := fun H => q07_count L H hL hl
  have hof := fun H => q02_of most H h0 (by omega)
  have hcmp := fun H => q02_cmpZ (countZ L) most H (countZ_b hl) (LB_i64 (by omega) (by omega))
  have hgt : decide (cmpZ (countZ L) most > 0) = decide (countZ L > most) := by
    unfold cmpZ
    rw [Bool.eq_iff_iff]; simp only [decide_eq_true_eq]
    split
    · omega
    · split <;> omega
  simp only [GMb, joinPt, decide_true, decide_false, if_true, if_false, boxQ, load_qP e3, hct, hof, hcmp, hgt]
  by_cases hc : countZ L > most
  · rw [if_pos hc]
    simp only [hc, GMb, joinPt, decide_true, decide_false, if_true, if_false]
    simp [enL]
  · rw [if_neg hc]
    simp only [hc, GMb, joinPt, decide_true, decide_false, if_true, if_false, fieldAddr_ptr, Nat.zero_add, load_nodesP e3, len_enL]
    by_cases hn : L = []
    · rw [if_pos hn]
      have : ((L.length : Int) = 0) := by rw [hn]; rfl
      simp only [this, GMb, joinPt, decide_true, decide_false, if_true, if_false]
      simp [enL]
    · rw [if_neg hn]
      have hlen : 0 < L.length := List.length_pos_iff.2 hn
      have hne : ¬ ((L.length : Int) = 0) := by omega
      have hLv : Lv L (topLv L).toNat L.length := ⟨Nat.le_refl _, .inr rfl⟩
      obtain ⟨hv1, hv2⟩ := hLv.num hlen hl
      have hv3 : topLv L = ((topLv L).toNat : Int) := hv1
      have hle : (topLv L).toNat ≤ 1329 := lv_le hl hlen (Nat.le_refl _)
      have hlv := fun H => q05_level L .no H (show L.length < 17592186044415 by omega)
      rw [if_neg hn] at hlv
      obtain ⟨v, hv⟩ : ∃ v, v = (topLv L).toNat := ⟨_, rfl⟩
      rw [← hv] at hv2 hle hv3
      have hwl : IntKind.i64.wrap (topLv L - 1) = ((v - 1 : Nat) : Int) := by rw [hv3, wrap_i64] <;> omega
      have hpow := fun H => q02_pow (v - 1) H (by omega)
      have hmin := fun H => q02_minusZ (2 ^ (v - 1)) H (LB_pow _ (by omega))
      have hcz : -(2 ^ (v - 1)) = cornerZ L := by unfold cornerZ; rw [hv]
      rw [hcz] at hmin
      have hst : storeA 2 (.ptr (H ++ [Blk.cel 0 (quadC L)]).length 0 0) (big (cornerZ L)) (H ++ [Blk.cel 0 (quadC L)] ++ [Blk.cel 0 zBig]) = some (H ++ [Blk.cel 0 (quadC L)] ++ [Blk.cel 0 (bigC (cornerZ L))]) := by
        rw [store_bigP last_cel rfl, last_set]
      have hlc : loadA true 2 (.ptr (H ++ [Blk.cel 0 (quadC L)]).length 0 0) (H ++ [Blk.cel 0 (quadC L)] ++ [Blk.cel 0 (bigC (cornerZ L))]) = some (big (cornerZ L)) := load_bigP last_cel
      have hln : ∀ G, loadA false 1 (.ptr H.length 0 0) (H ++ [Blk.cel 0 (quadC L)] ++ G) = some (.sl (enL cNd L) .no) := fun G => load_nodesP (get_left e3)
      have hab := corner_abs hl hn
      have hcl := cellsL_len hl hn
      obtain ⟨F, hF⟩ := fuel_succ 2000 (by omega)
      have hcv : cellsL L = cellsN L v (L.length) (cornerZ L) (cornerZ L) := by unfold cellsL; rw [← hv]
      have hlist : ∀ H, Sh.gliderref07_list FUEL (.sl (enL cNd L) .no) (.int .i64 (L.length : Int)) (big (cornerZ L)) (big (cornerZ L)) H = some (.ret (.sl (enL cCl (cellsL L)) .no), H) := by
        intro H
        rw [hF, show F + 2000 = (F + 1999) + 1 from rfl]
        rw [hcv]
        exact q07_listN hL hl v L.length (cornerZ L) (cornerZ L) (F + 1999) H (by rw [hv]; exact hLv) (by omega) hle (by rw [hv]; exact hab) (by rw [hv]; exact hab) (by rw [← hcv]; omega)
      have hlast := fun H => q07_last (cellsL L) .no H (by omega) (cellsN_ok _ _ _ _ hab hab)
      have hlv' : ∀ H, Sh.gliderref05_Level (quad L) H = some (.ret (.int .i64 (topLv L)), H) := hlv
      simp only [hne, GMb, joinPt, decide_true, decide_false, if_true, if_false, load_qP e3, hlv', hwl, hpow, hmin, allocBig]
      simp only [GMb, joinPt, decide_true, decide_false, if_true, if_false, hst, hln, hlc, fieldAddr_ptr, Nat.zero_add, Nat.add_zero, len_enL, hlist, hlast]
      rw [List.append_assoc, rPN_app]
      simp
end Go.Gm
/- Chapter 12 of the document: Life 1.06. -/
namespace Go.Gm
set_option linter.unusedVariables false
set_option linter.unusedSimpArgs false
def life6R (s0 : List UInt8) (l : List Cl) : List UInt8 := l.foldl (fun s c => s ++ decZ c.x ++ [32] ++ decZ c.y ++ [10]) s0
def life6Head (rule : List UInt8) : List UInt8 := [35, 76, 105, 102, 101, 32, 49, 46, 48, 54, 10, 35, 82, 32] ++ rule ++ [10]
def life6T (rule : List UInt8) (L : List Nd) : List UInt8 := life6R (life6Head rule) (listO L 1000000).1
theorem life6R_take (s0 : List UInt8) (l : List Cl) {i : Nat} (hi : i < l.length) : life6R s0 (l.take (i + 1)) = life6R s0 (l.take i) ++ decZ l[i].x ++ [32] ++ decZ l[i].y ++ [10] := by
  unfold life6R
  rw [List.take_succ_eq_append_getElem hi, List.foldl_append]; rfl
theorem life6R_len (s0 : List UInt8) (l : List Cl) (h : ∀ c ∈ l, (decZ c.x).length ≤ 5000 ∧ (decZ c.y).length ≤ 5000) : ∀ i, i ≤ l.length → (life6R s0 (l.take i)).length ≤ s0.length + i * 10002
  | 0, _ => by simp [life6R]
  | i + 1, hi => by
    have ih := life6R_len s0 l h i (by omega)
    have h2 := h l[i] (List.getElem_mem hi)
    rw [life6R_take s0 l hi]
    simp only [List.length_append, List.length_singleton]
    omega
theorem listO_mem {L : List Nd} (hl : looseB L = true) (most : Int) (h0 : 0 ≤ most) (h1 : most ≤ 500000000000) : ((listO L most).1.length : Int) ≤ most ∧ ∀ c ∈ (listO L most).1, SB 42 c.x ∧ SB 42 c.y := by
  unfold listO
  by_cases hc : countZ L > most
  · rw [if_pos hc]; exact ⟨h0, fun c hc => by cases hc⟩
  · rw [if_neg hc]
    by_cases hn : L = []
    · rw [if_pos hn]; exact ⟨h0, fun c hc => by cases hc⟩
    · rw [if_neg hn]
      have hab := corner_abs hl hn
      have hcl := cellsL_len hl hn
      have hm := lastAll_mem (l := cellsL L) (cellsL L).length (Nat.le_refl _)
      rw [List.take_of_length_le (Nat.le_refl _)] at hm
      have hsb := cellsN_sb (L := L) _ L.length _ _ hab hab
      refine ⟨?_, fun c hc => ?_⟩
      · have h2 : (lastL (cellsL L)).length ≤ (lastAll (cellsL L)).length := List.length_filter_le _ _
        show ((lastL (cellsL L)).length : Int) ≤ most
        omega
      · have h3 : c ∈ lastAll (cellsL L) := (List.mem_filter.1 hc).1
        exact hsb c (hm.2 c h3)
theorem q12_life6 (rule : List UInt8) (L : List Nd) (b n : Int) (H : AHeap) (hr : rule.length < 35184372088832) (hL : L.length < 549755813888) (h0 : -9223372036854775808 ≤ b) (h1 : b ≤ 9223372036854775807) :
    Sh.gliderref12_Life6 (pat rule L) (.agg (limC b n)) H = some (.ret (if checkE 3 rule L b n = 0 then .tup [.str (life6T rule L), .int .i64 0] else .tup [.str [], .int .i64 (checkE 3 rule L b n)]), H) := by
  unfold Sh.gliderref12_Life6
  have hbx : ∀ H, boxA true 2 (.agg (limC b n)) H = some (.ptr H.length 0 0, H ++ [.cel 0 (limC b n)]) := fun H => box_agg rfl rfl
  have e3 : (H ++ [Blk.cel 0 (patC rule L)] ++ [Blk.cel 0 (limC b n)])[H.length]? = some (.cel 0 (patC rule L)) := by simp
  have g5 : loadA true 2 (.ptr (H ++ [Blk.cel 0 (patC rule L)]).length 0 0) (H ++ [Blk.cel 0 (patC rule L)] ++ [Blk.cel 0 (limC b n)]) = some (.agg (limC b n)) := by
    simp only [loadA, get_cel (last_cel (B := H ++ [Blk.cel 0 (patC rule L)])), Option.bind_some]; rfl
  have hck := fun H => q11_check 3 rule L b n H (by omega) hL h0 h1
  simp only [GMb, joinPt, decide_true, decide_false, if_true, if_false, boxPat, hbx, load_patP e3, g5, hck]
  by_cases he : checkE 3 rule L b n = 0
  · obtain ⟨hl, b0, b1, hw, _, _⟩ := check_ok he (by decide)
    rw [if_pos he]
    have hli := fun H => q07_List L 1000000 H hL hl (by omega) (by omega)
    have hrl := load_ruleP e3
    simp only [he, GMb, joinPt, decide_true, decide_false, if_true, if_false, fieldAddr_ptr, Nat.zero_add, Nat.add_zero, load_quadP e3, hli, extract_0, extract_1, hrl]
    rw [bin_sadd (by simp; omega)]
    simp only [GMb, joinPt, decide_true, decide_false, if_true, if_false]
    rw [bin_sadd (by simp; omega)]
    simp only [GMb, joinPt, decide_true, decide_false, if_true, if_false]
    obtain ⟨m1, m2⟩ := listO_mem hl 1000000 (by omega) (by omega)
    unfold life6T
    generalize (listO L 1000000).1 = l at *
    have hd : ∀ c ∈ l, (decZ c.x).length ≤ 5000 ∧ (decZ c.y).length ≤ 5000 := fun c hc => ⟨(sb_dec ((m2 c hc).1.mono (by omega))).2, (sb_dec ((m2 c hc).2.mono (by omega))).2⟩
    have hhl : (life6Head rule).length ≤ 35184372088932 := by unfold life6Head; simp; omega
    rw [List.append_assoc H]
    generalize hG : [Blk.cel 0 (patC rule L)] ++ [Blk.cel 0 (limC b n)] = G
    refine loop_up (G := fun rec1 vs H1 => Sh.gliderref12_Life6_l1 H rec1 (ag vs 0) (ag vs 1) (ag vs 2) H1) l.length (fun i => [.sl (enL cCl l) .no, .str (life6R (life6Head rule) (l.take i)), .int .i64 (i : Int)]) (fun _ => H ++ G) _ (by omega) (fun rec i hi => ?_) (fun rec => ?_)
    · have hi' : (i : Int) < (l.length : Int) := by omega
      have hws := wrap_succ (show i < 9223372036854775807 by omega)
      have hb := life6R_len (life6Head rule) l hd i (by omega)
      have h2 := hd l[i] (List.getElem_mem hi)
      have h3 := m2 l[i] (List.getElem_mem hi)
      have tx := fun H => q03_text l[i].x H (sb_dec (h3.1.mono (show 42 ≤ 44 by omega))).1
      have ty' := fun H => q03_text l[i].y H (sb_dec (h3.2.mono (show 42 ≤ 44 by omega))).1
      rw [life6R_take _ l hi]
      unfold Sh.gliderref12_Life6_l1
      simp only [GMb, joinPt, decide_true, decide_false, if_true, if_false, len_enL, hi', idx_enL hi, fieldAddr_cptr, Nat.zero_add, Nat.add_zero, load_xC, load_yC, tx, ty', and_true, eq_self]
      iterate 4
        rw [bin_sadd (by first | omega | (simp; omega))]
        simp only [GMb, joinPt, decide_true, decide_false, if_true, if_false, hws]
    · unfold Sh.gliderref12_Life6_l1
      rw [List.take_of_length_le (Nat.le_refl _)]
      simp only [GMb, joinPt, decide_true, decide_false, if_true, if_false, len_enL, Int.lt_irrefl]
      exact rP_plain (v := .tup [.str (life6R (life6Head rule) l), .int .i64 0]) rfl
  · rw [if_neg he]
    simp only [he, GMb, joinPt, decide_true, decide_false, if_true, if_false]
    rw [List.append_assoc]
    exact rP_plain (v := .tup [.str [], .int .i64 (checkE 3 rule L b n)]) rfl
end Go.Gm
/- Chapter 6 of the document: nodes grow. -/
namespace Go.Gm
set_option linter.unusedVariables false
set_option linter.unusedSimpArgs false
def ndL (v : Int) : Nd := ⟨v, 0, 0, 0, 0⟩
def growS (o : Nd) (l : List Nd) : Nat → List Nd × Nd
  | 0 => (l, ndL (o.lv + 1))
  | k + 1 => if o.kid k = 0 then growS o l k else ((growS o l k).1 ++ [(ndL o.lv).setKid (3 - k) (o.kid k)], (growS o l k).2.setKid k (((growS o l k).1.length + 1 : Nat) : Int))
def growStep (l : List Nd) : List Nd := (growS (ndAt l l.length) l 4).1 ++ [(growS (ndAt l l.length) l 4).2]
def growF (level : Int) : Nat → List Nd → List Nd
  | 0, l => l
  | d + 1, l => if (ndAt l l.length).lv < level then growF level d (growStep l) else l
def growL (L : List Nd) (level : Int) : List Nd := if level > 1329 ∨ L = [] then L else growF level 1400 L
theorem ndL_kid (v : Int) {k : Nat} (hk : k < 4) : (ndL v).kid k = 0 := by
  match k, hk with
  | 0, _ => rfl
  | 1, _ => rfl
  | 2, _ => rfl
  | 3, _ => rfl
theorem ndOk_mk {L : List Nd} {x : Nd} (h1 : 1 ≤ x.lv) (h2 : x.lv ≤ 1329) (h : ∀ k, k < 4 → 0 ≤ x.kid k ∧ (x.lv = 1 → x.kid k ≤ 255) ∧ (1 < x.lv → 0 < x.kid k → x.kid k ≤ L.length ∧ ∀ y, L[(x.kid k - 1).toNat]? = some y → y.lv = x.lv - 1)) : ndOk (L ++ [x]) L.length = true := by
  have e : (L ++ [x])[L.length]? = some x := by simp
  unfold ndOk
  rw [e]
  simp only [Bool.and_eq_true, decide_eq_true_eq, List.all_eq_true, List.mem_range]
  refine ⟨⟨h1, h2⟩, fun k hk => ?_⟩
  obtain ⟨q1, q2, q3⟩ := h k hk
  simp only [kidOk, Bool.and_eq_true, decide_eq_true_eq]
  refine ⟨⟨q1, q2⟩, fun a b => ⟨(q3 a b).1, fun y hy => (q3 a b).2 y ?_⟩⟩
  rw [List.getElem?_append_left (by have := (q3 a b).1; omega)] at hy
  exact hy
/-- What has been laid when k quarters are done. -/
structure GrowI (o : Nd) (l : List Nd) (k : Nat) (r : List Nd × Nd) : Prop where
  pre : ∃ e, r.1 = l ++ e ∧ e.length ≤ k
  loose : looseB r.1 = true
  lv : r.2.lv = o.lv + 1
  kids : ∀ j, j < 4 → r.2.kid j = 0 ∨ (0 < r.2.kid j ∧ r.2.kid j ≤ r.1.length ∧ ∀ y, r.1[(r.2.kid j - 1).toNat]? = some y → y.lv = o.lv)
theorem growS_ok {l : List Nd} (hl : looseB l = true) (h0 : 0 < l.length) : ∀ k, k ≤ 4 → GrowI (ndAt l l.length) l k (growS (ndAt l l.length) l k)
  | 0, _ => ⟨⟨[], by simp [growS], by simp⟩, hl, rfl, fun j hj => .inl (ndL_kid _ hj)⟩
  | k + 1, hk => by
    have ih := growS_ok hl h0 k (by omega)
    have hnd : ndAt l (l.length : Int) = l[l.length - 1] := ndAt_eq (by omega) (by omega)
    obtain ⟨l1, l2, l3⟩ := loose_get hl (show l.length - 1 < l.length by omega)
    rw [← hnd] at l1 l2 l3
    unfold growS
    generalize ndAt l (l.length : Int) = o at *
    by_cases hc : o.kid k = 0
    · rw [if_pos hc]
      obtain ⟨⟨e, e1, e2⟩, h2, h3, h4⟩ := ih
      exact ⟨⟨e, e1, by omega⟩, h2, h3, h4⟩
    · rw [if_neg hc]
      obtain ⟨⟨e, e1, e2⟩, h2, h3, h4⟩ := ih
      generalize growS o l k = r at *
      have hlen : r.1.length = l.length + e.length := by rw [e1]; simp
      have hlo : looseB (r.1 ++ [(ndL o.lv).setKid (3 - k) (o.kid k)]) = true := by
        refine loose_snoc h2 (ndOk_mk (by rw [setKid_lv]; exact l1) (by rw [setKid_lv]; exact l2) fun j hj => ?_)
        rw [setKid_lv]
        show 0 ≤ _ ∧ (o.lv = 1 → _) ∧ (1 < o.lv → _)
        by_cases hj2 : j = 3 - k
        · rw [hj2, setKid_same _ _ (by omega)]
          obtain ⟨q1, q2, q3⟩ := l3 k (by omega)
          refine ⟨q1, q2, fun a b => ?_⟩
          obtain ⟨q4, q5⟩ := q3 a b
          refine ⟨by omega, fun y hy => q5 y ?_⟩
          rw [e1, List.getElem?_append_left (by omega)] at hy
          exact hy
        · rw [setKid_other _ _ (by omega) hj hj2, ndL_kid _ hj]
          exact ⟨Int.le_refl _, fun _ => by omega, fun _ b => absurd b (by omega)⟩
      refine ⟨⟨e ++ [(ndL o.lv).setKid (3 - k) (o.kid k)], by rw [e1, List.append_assoc], by simp; omega⟩, hlo, by rw [setKid_lv]; exact h3, fun j hj => ?_⟩
      by_cases hj2 : j = k
      · subst hj2
        rw [setKid_same _ _ hj]
        refine .inr ⟨by omega, by simp, fun y hy => ?_⟩
        have : (((r.1.length + 1 : Nat) : Int) - 1).toNat = r.1.length := by omega
        rw [this] at hy
        simp at hy
        rw [← hy, setKid_lv]; rfl
      · rw [setKid_other _ _ (by omega) hj hj2]
        rcases h4 j hj with h5 | ⟨h5, h6, h7⟩
        · exact .inl h5
        · refine .inr ⟨h5, by simp; omega, fun y hy => h7 y ?_⟩
          rw [List.getElem?_append_left (by omega)] at hy
          exact hy
theorem growStep_ok {l : List Nd} (hl : looseB l = true) (h0 : 0 < l.length) (hv : (ndAt l l.length).lv < 1329) : looseB (growStep l) = true ∧ (∃ e, growStep l = l ++ e ∧ e.length ≤ 5) ∧ 0 < (growStep l).length ∧ (ndAt (growStep l) (growStep l).length).lv = (ndAt l l.length).lv + 1 := by
  have hI := growS_ok hl h0 4 (Nat.le_refl _)
  have hnd : ndAt l (l.length : Int) = l[l.length - 1] := ndAt_eq (by omega) (by omega)
  obtain ⟨l1, l2, l3⟩ := loose_get hl (show l.length - 1 < l.length by omega)
  rw [← hnd] at l1 l2 l3
  unfold growStep
  generalize ndAt l (l.length : Int) = o at *
  obtain ⟨⟨e, e1, e2⟩, h2, h3, h4⟩ := hI
  generalize growS o l 4 = r at *
  refine ⟨loose_snoc h2 (ndOk_mk (by rw [h3]; omega) (by rw [h3]; omega) fun j hj => ?_), ⟨e ++ [r.2], by rw [e1, List.append_assoc], by simp; omega⟩, by simp, ?_⟩
  · rw [h3]
    rcases h4 j hj with h5 | ⟨h5, h6, h7⟩
    · rw [h5]; exact ⟨Int.le_refl _, fun _ => by omega, fun _ b => absurd b (by omega)⟩
    · exact ⟨by omega, fun a => by omega, fun _ _ => ⟨h6, fun y hy => by rw [h7 y hy]; omega⟩⟩
  · have : ndAt (r.1 ++ [r.2]) ((r.1 ++ [r.2]).length : Int) = r.2 := by
      rw [ndAt_eq (n := r.1.length) (by simp) (by simp)]; simp
    rw [this, h3]
theorem build_ndL (v : Int) : buildA (some [(.int .i64 0), (.int .i64 0), (.int .i64 0), (.int .i64 0), (.int .i64 0)]) [(0, 1, .int .i64 v)] = some (.agg (cNd (ndL v))) := by
  simp [buildA, fillA, putN, ndL, cNd]
theorem grow_turn {l : List Nd} {o : Nd} {H Hd : AHeap} {vo : AVal} {k p : Nat} {lev : AVal} {r : List Nd × Nd} (hk : k < 4) (hL : l.length < 549755813888) (h0 : 0 < l.length) (ho : l[l.length - 1] = o) (hpre : ∃ e, r.1 = l ++ e ∧ e.length ≤ k)
    (hp : H.length ≤ p) (fp : Hd[p]? = some (.cel 0 (cNd r.2))) (hR : RS cNd ty_api_Node 5 H.length r.1 vo Hd) (hlen : H.length ≤ Hd.length) :
    ∃ v' H', RS cNd ty_api_Node 5 H.length (if o.kid k = 0 then r else (r.1 ++ [(ndL o.lv).setKid (3 - k) (o.kid k)], r.2.setKid k ((r.1.length + 1 : Nat) : Int))).1 v' H' ∧
      H'[p]? = some (.cel 0 (cNd (if o.kid k = 0 then r else (r.1 ++ [(ndL o.lv).setKid (3 - k) (o.kid k)], r.2.setKid k ((r.1.length + 1 : Nat) : Int))).2)) ∧ (∀ i, i < H.length → H'[i]? = Hd[i]?) ∧ H.length ≤ H'.length ∧
      ∀ rec1 rec2 : LK, Sh.gliderref06_Grow_l2 H rec1 rec2 lev vo (.int .i64 (l.length : Int)) (.ptr p 0 0) (.int .i64 (k : Int)) Hd = rec2 [lev, v', .int .i64 (l.length : Int), .ptr p 0 0, .int .i64 ((k + 1 : Nat) : Int)] H' := by
  obtain ⟨e, e1, e2⟩ := hpre
  have hk' : (k : Int) < 4 := by omega
  have hwk := wrap_succ (show k < 9223372036854775807 by omega)
  have hwn := wrap_pred h0 (show l.length < 9223372036854775807 by omega)
  have hrl : r.1.length = l.length + e.length := by rw [e1]; simp
  have hni : l.length - 1 < r.1.length := by omega
  have hro : r.1[l.length - 1] = o := by
    have : r.1[l.length - 1]? = some o := by rw [e1, List.getElem?_append_left (by omega), List.getElem?_eq_getElem (by omega), ho]
    rw [List.getElem?_eq_getElem hni] at this
    exact Option.some.inj this
  obtain ⟨tk, rfl⟩ := hR.sl
  by_cases hc : o.kid k = 0
  · rw [if_pos hc]
    refine ⟨_, Hd, hR, fp, fun i hi => rfl, hlen, fun rec1 rec2 => ?_⟩
    unfold Sh.gliderref06_Grow_l2
    simp only [GMb, joinPt, decide_true, decide_false, if_true, if_false, hk', hwn, idx_enL hni, hro, fieldAddr_cptr, idx_kid hk, load_cptr, Nat.zero_add, Nat.mul_one, cNd_kid hk, hc, ag_succ, Sh.gliderref06_Grow_j3, hwk]
  · rw [if_neg hc]
    have hR' := hR.left [Blk.cel 0 (cNd ((ndL o.lv).setKid (3 - k) (o.kid k)))]
    obtain ⟨v', H', a1, a2, a3⟩ := hR'.snoc (bytes := 40) (by simp; omega) ((ndL o.lv).setKid (3 - k) (o.kid k)) .tight (by omega) (by omega)
    obtain ⟨tk', rfl⟩ := a2.sl
    have fp2 := a3.cel p _ (get_left fp)
    have hpl := (List.getElem?_eq_some_iff.1 fp2).1
    have hlen2 : H.length ≤ H'.length := by have := a3.len; simp at this; omega
    refine ⟨_, H'.set p (.cel 0 (cNd (r.2.setKid k ((r.1.length + 1 : Nat) : Int)))), a2.put fp2, by rw [List.getElem?_set_self hpl], fun i hi => ?_, by simpa using hlen2, fun rec1 rec2 => ?_⟩
    · rw [List.getElem?_set_ne (by omega), a3.old i hi, List.getElem?_append_left (by omega)]
    · have s1 : storeA 5 (.ptr Hd.length 0 0) (.agg (cNd (ndL o.lv))) (Hd ++ [.cel 0 (cNd nd0)]) = some (Hd ++ [.cel 0 (cNd (ndL o.lv))]) := by rw [store_ndP last_cel rfl, last_set]
      have s2 : storeA 1 (.ptr Hd.length 0 (1 + (3 - k))) (.int .i64 (o.kid k)) (Hd ++ [.cel 0 (cNd (ndL o.lv))]) = some (Hd ++ [.cel 0 (cNd ((ndL o.lv).setKid (3 - k) (o.kid k)))]) := by rw [store_kidP last_cel (by omega), last_set]
      have s3 : loadA true 5 (.ptr Hd.length 0 0) (Hd ++ [.cel 0 (cNd ((ndL o.lv).setKid (3 - k) (o.kid k)))]) = some (.agg (cNd ((ndL o.lv).setKid (3 - k) (o.kid k)))) := load_ndP last_cel
      have s4 := store_kidP (c := ((r.1.length + 1 : Nat) : Int)) fp2 hk
      have hw3 : IntKind.i64.wrap (3 - (k : Int)) = ((3 - k : Nat) : Int) := by rw [wrap_i64] <;> omega
      have hi3 : ∀ (id g o : Nat), idxArr 4 1 (.ptr id g o) (.int .i64 ((3 - k : Nat) : Int)) = some (.ptr id g (o + (3 - k))) := fun id g o => idx_kidP (show 3 - k < 4 by omega)
      unfold Sh.gliderref06_Grow_l2
      simp only [GMb, joinPt, decide_true, decide_false, if_true, if_false, hk', hwn, idx_enL hni, hro, fieldAddr_cptr, fieldAddr_ptr, idx_kid hk, load_cptr, Nat.zero_add, Nat.mul_one, cNd_kid hk, cNd_0, hc, build_ndL, alloc_nd, s1, hw3, hi3, s2, s3, build_nd, a1, len_enL, List.length_append, List.length_singleton, idx_kidP hk, s4, ag_succ, Sh.gliderref06_Grow_j3, hwk]
theorem q06_grow (L : List Nd) (level : Int) (H : AHeap) (hL : L.length < 274877906944) (hl : looseB L = true) (h0 : -9223372036854775808 ≤ level) (h1 : level ≤ 9223372036854775807) :
    Sh.gliderref06_Grow (quad L) (.int .i64 level) H = some (.ret (.tup [.sl (enL cNd (growL L level)) .no, .int .i64 ((growL L level).length : Int)]), H) := by
  unfold Sh.gliderref06_Grow growL
  have e3 : (H ++ [Blk.cel 0 (quadC L)])[H.length]? = some (.cel 0 (quadC L)) := last_cel
  have hb0 : buildSl 5 [] = some (.sl [] .tight) := rfl
  have hR0 : RS cNd ty_api_Node 5 H.length [] (.sl [] .tight) (H ++ [Blk.cel 0 (quadC L)]) := .inl ⟨rfl, rfl⟩
  obtain ⟨v, Hc, a1, a2, a3⟩ := hR0.app (bytes := 40) (by simp) L .no (by simp; omega) (by simp; omega)
  rw [List.nil_append] at a2
  have hold : ∀ i, i < H.length → Hc[i]? = H[i]? := fun i hi => by rw [a3.old i hi, List.getElem?_append_left hi]
  have hlc : H.length ≤ Hc.length := by have := a3.len; simp at this; omega
  obtain ⟨tk, rfl⟩ := a2.sl
  simp only [GMb, joinPt, decide_true, decide_false, if_true, if_false, boxQ, hb0, fieldAddr_ptr, Nat.zero_add, load_nodesP e3, a1, len_enL]
  by_cases hbig : level > 1329
  · rw [if_pos (.inl hbig)]
    simp only [hbig, GMb, joinPt, decide_true, decide_false, if_true, if_false, rPN_eq (take_of_old hold)]
    simp
  · by_cases hn : L = []
    · rw [if_pos (.inr hn)]
      have : (L.length : Int) = 0 := by rw [hn]; rfl
      simp only [hbig, this, GMb, joinPt, decide_true, decide_false, if_true, if_false, rPN_eq (take_of_old hold)]
      simp
    · rw [if_neg (by intro h; rcases h with h | h; exact hbig h; exact hn h)]
      have hlen : 0 < L.length := List.length_pos_iff.2 hn
      have hne : ¬ (L.length : Int) = 0 := by omega
      simp only [hbig, hne, GMb, joinPt, decide_true, decide_false, if_true, if_false]
      have loop := loop_while (G := fun rec1 vs H1 => Sh.gliderref06_Grow_l1 H rec1 (ag vs 0) (ag vs 1) (ag vs 2) H1) (σ := List Nd × Nat)
        (fun s vs Hd => ∃ v, vs = [.int .i64 level, v, .int .i64 (s.1.length : Int)] ∧ RS cNd ty_api_Node 5 H.length s.1 v Hd ∧ (∀ i, i < H.length → Hd[i]? = H[i]?) ∧ H.length ≤ Hd.length ∧ looseB s.1 = true ∧ 0 < s.1.length ∧ growF level s.2 s.1 = growF level 1400 L ∧ level ≤ (ndAt s.1 s.1.length).lv + s.2 ∧ s.1.length + 5 * s.2 ≤ L.length + 7000)
        (fun s => s.2) (fun s => ¬ (ndAt s.1 s.1.length).lv < level) (fun s vs Hd hI hd => ?_) (s := (L, 1400)) (vs := [.int .i64 level, .sl (enL cNd L) tk, .int .i64 (L.length : Int)]) (H := Hc)
        ⟨_, rfl, a2, hold, hlc, hl, hlen, rfl, by
          have hnd : ndAt L (L.length : Int) = L[L.length - 1] := ndAt_eq (by omega) (by omega)
          have := (loose_get hl (show L.length - 1 < L.length by omega)).1
          show level ≤ (ndAt L (L.length : Int)).lv + (1400 : Nat)
          rw [hnd]; omega, by simp⟩ (by simp)
      · obtain ⟨s, vs', Hd, hdone, ⟨v, rfl, gR, go, gl, glo, g0, ge, gv, gn⟩, rec, hloop⟩ := loop
        rw [hloop]
        obtain ⟨l, d⟩ := s
        dsimp only at *
        obtain ⟨tk2, rfl⟩ := gR.sl
        have hge : growF level d l = l := by
          cases d with
          | zero => rfl
          | succ d => show (if _ then _ else _) = _; rw [if_neg hdone]
        rw [← ge, hge]
        have hnd : ndAt l (l.length : Int) = l[l.length - 1] := ndAt_eq (by omega) (by omega)
        have hwn := wrap_pred g0 (show l.length < 9223372036854775807 by omega)
        rw [hnd] at hdone
        unfold Sh.gliderref06_Grow_l1
        simp only [GMb, joinPt, decide_true, decide_false, if_true, if_false, hwn, idx_enL (show l.length - 1 < l.length by omega), fieldAddr_cptr, load_cptr, Nat.zero_add, cNd_0, hdone, rPN_eq (take_of_old go)]
        simp
      · obtain ⟨v, rfl, gR, go, gl, glo, g0, ge, gv, gn⟩ := hI
        obtain ⟨l, d⟩ := s
        dsimp only at *
        rw [Decidable.not_not] at hd
        have hnd : ndAt l (l.length : Int) = l[l.length - 1] := ndAt_eq (by omega) (by omega)
        obtain ⟨d', rfl⟩ : ∃ d', d = d' + 1 := ⟨d - 1, by omega⟩
        obtain ⟨k1, ⟨e, k2, k3⟩, k4, k5⟩ := growStep_ok glo g0 (by omega)
        have hgf : growF level (d' + 1) l = growF level d' (growStep l) := by show (if _ then _ else _) = _; rw [if_pos hd]
        have hwn := wrap_pred g0 (show l.length < 9223372036854775807 by omega)
        have l12 := (loose_get glo (show l.length - 1 < l.length by omega))
        have hwl : IntKind.i64.wrap (l[l.length - 1].lv + 1) = l[l.length - 1].lv + 1 := by rw [wrap_i64] <;> omega
        obtain ⟨tk1, rfl⟩ := gR.sl
        have s1 : storeA 5 (.ptr Hd.length 0 0) (.agg (cNd (ndL (l[l.length - 1].lv + 1)))) (Hd ++ [.cel 0 (cNd nd0)]) = some (Hd ++ [.cel 0 (cNd (ndL (l[l.length - 1].lv + 1)))]) := by rw [store_ndP last_cel rfl, last_set]
        have hi2 : l[l.length - 1].lv < level := by rw [← hnd]; exact hd
        have inner := loop_whileF (ι := LK) (G := fun rec1 rec2 vs H1 => Sh.gliderref06_Grow_l2 H rec1 rec2 (ag vs 0) (ag vs 1) (ag vs 2) (ag vs 3) (ag vs 4) H1) (σ := Nat)
          (fun k vs H1 => ∃ v, k ≤ 4 ∧ vs = [.int .i64 level, v, .int .i64 (l.length : Int), .ptr Hd.length 0 0, .int .i64 (k : Int)] ∧ RS cNd ty_api_Node 5 H.length (growS l[l.length - 1] l k).1 v H1 ∧ H1[Hd.length]? = some (.cel 0 (cNd (growS l[l.length - 1] l k).2)) ∧ (∀ i, i < H.length → H1[i]? = H[i]?) ∧ H.length ≤ H1.length)
          (fun k => 4 - k) (fun k => k = 4) (fun k vs H1 hI hdk => ?_) (s := 0) (vs := [.int .i64 level, .sl (enL cNd l) tk1, .int .i64 (l.length : Int), .ptr Hd.length 0 0, .int .i64 0]) (H := Hd ++ [.cel 0 (cNd (ndL (l[l.length - 1].lv + 1)))])
          ⟨_, by omega, rfl, gR.left _, last_cel, fun i hi => by rw [List.getElem?_append_left (by omega)]; exact go i hi, by simp; omega⟩ (by omega)
        · obtain ⟨k, vs', H1, rfl, ⟨v, _, rfl, fR, fp, fo, fl⟩, hrec⟩ := inner
          have hgS : growStep l = (growS l[l.length - 1] l 4).1 ++ [(growS l[l.length - 1] l 4).2] := by unfold growStep; rw [hnd]
          have hl4 : (growS l[l.length - 1] l 4).1.length ≤ l.length + 5 := by
            have := congrArg List.length (hgS.symm.trans k2)
            simp at this; omega
          obtain ⟨v2, H2, b1, b2, b3⟩ := fR.snoc (bytes := 40) fl (growS l[l.length - 1] l 4).2 .tight (by omega) (by omega)
          rw [← hgS] at b2
          obtain ⟨tk2, rfl⟩ := b2.sl
          refine ⟨(growStep l, d'), [.int .i64 level, .sl (enL cNd (growStep l)) tk2, .int .i64 ((growStep l).length : Int)], H2, by simp, ⟨_, rfl, b2, fun i hi => by rw [b3.old i hi]; exact fo i hi, by have := b3.len; omega, k1, k4, by rw [← hgf]; exact ge, by show level ≤ _ + (d' : Int); rw [k5]; omega, ?_⟩, fun rec => ?_⟩
          · have := congrArg List.length k2
            simp at this ⊢; omega
          · obtain ⟨rec2, h9⟩ := hrec rec
            unfold Sh.gliderref06_Grow_l1
            simp only [GMb, joinPt, decide_true, decide_false, if_true, if_false, hwn, idx_enL (show l.length - 1 < l.length by omega), fieldAddr_cptr, load_cptr, Nat.zero_add, cNd_0, hi2, hwl, build_ndL, alloc_nd, s1]
            refine h9.trans ?_
            have hf : ¬ (((4 : Nat) : Int) < 4) := by decide
            unfold Sh.gliderref06_Grow_l2
            simp only [GMb, joinPt, decide_true, decide_false, if_true, if_false, ag_succ, hf, load_ndP fp, build_nd, b1, len_enL]
        · obtain ⟨v, hk4, rfl, fR, fp, fo, fl⟩ := hI
          have hk : k < 4 := by omega
          have hpre := (growS_ok glo g0 k hk4).pre
          rw [hnd] at hpre
          obtain ⟨v', H', c1, c2, c3, c4, c5⟩ := grow_turn (lev := .int .i64 level) hk (by omega) g0 rfl hpre gl fp fR fl
          refine ⟨k + 1, _, H', by omega, ⟨v', by omega, rfl, c1, c2, fun i hi => by rw [c3 i hi]; exact fo i hi, c4⟩, fun rec1 rec2 => c5 rec1 rec2⟩
end Go.Gm
/- Chapter 14 of the document: leaves. -/
namespace Go.Gm
set_option linter.unusedVariables false
set_option linter.unusedSimpArgs false
def onF (L : List Nd) : Nat → Int → Nat → Nat → Bool
  | 0, _, _, _ => false
  | v + 1, n, x, y => if n = 0 then false else if v = 0 then decide (0 < (ndAt L n).kid (2 * (y / 2 ^ v) + x / 2 ^ v)) else onF L v ((ndAt L n).kid (2 * (y / 2 ^ v) + x / 2 ^ v)) (x % 2 ^ v) (y % 2 ^ v)
theorem div_lt2 {x u : Nat} (h : x < 2 ^ (u + 1)) : x / 2 ^ u < 2 := by
  rw [Nat.div_lt_iff_lt_mul (Nat.pow_pos (by omega))]
  rw [Nat.pow_succ] at h; omega
theorem q14_on {L : List Nd} {tk : Tok} (hL : L.length < 549755813888) (hl : looseB L = true) : ∀ (v n x y d : Nat) (H : AHeap), Lv L v n → v ≤ d → v ≤ 60 → x < 2 ^ v → y < 2 ^ v →
    Sh.gliderref14_on (d + 1) (.sl (enL cNd L) tk) (.int .i64 (n : Int)) (.int .i64 (x : Int)) (.int .i64 (y : Int)) H = some (.ret (.bool (onF L v n x y)), H) := by
  intro v
  induction v with
  | zero =>
    intro n x y d H hLv _ _ _ _
    have hn : n = 0 := by
      rcases Nat.eq_zero_or_pos n with h | h
      · exact h
      · have := (hLv.num h hl).2; omega
    subst hn
    show Sh.gliderref14_on_F (Sh.gliderref14_on d) _ _ _ _ H = _
    unfold Sh.gliderref14_on_F
    simp only [GMb, joinPt, decide_true, decide_false, if_true, if_false, Int.natCast_zero, onF]
  | succ u ih =>
    intro n x y d H hLv hd hv hx hy
    show Sh.gliderref14_on_F (Sh.gliderref14_on d) _ _ _ _ H = _
    unfold Sh.gliderref14_on_F
    by_cases hn : n = 0
    · subst hn
      simp only [GMb, joinPt, decide_true, decide_false, if_true, if_false, Int.natCast_zero, onF, if_true]
    · have hn0 : 0 < n := by omega
      have hn' : ¬ (n : Int) = 0 := by omega
      have hnL := hLv.1
      have hni : n - 1 < L.length := by omega
      have hnd : ndAt L (n : Int) = L[n - 1] := ndAt_eq (by omega) hni
      obtain ⟨hlv, _⟩ := hLv.num hn0 hl
      have hwn := wrap_pred hn0 (show n < 9223372036854775807 by omega)
      have hlv2 : L[n - 1].lv = ((u + 1 : Nat) : Int) := by rw [← hnd]; exact hlv
      obtain ⟨q, hq⟩ : ∃ q, q = 2 * (y / 2 ^ u) + x / 2 ^ u := ⟨_, rfl⟩
      have hqx := div_lt2 hx
      have hqy := div_lt2 hy
      have hq4 : q < 4 := by omega
      obtain ⟨d', rfl⟩ : ∃ d', d = d' + 1 := ⟨d - 1, by omega⟩
      have hon : onF L (u + 1) n x y = if u = 0 then decide (0 < L[n - 1].kid q) else onF L u (L[n - 1].kid q) (x % 2 ^ u) (y % 2 ^ u) := by
        show (if (n : Int) = 0 then _ else _) = _
        rw [if_neg hn', hnd, ← hq]
      rw [hon]
      simp only [hn', GMb, joinPt, decide_true, decide_false, if_true, if_false]
      refine loop_up (G := fun rec1 vs H1 => Sh.gliderref14_on_l1 H (Sh.gliderref14_on (d' + 1)) rec1 (ag vs 0) (ag vs 1) (ag vs 2) (ag vs 3) (ag vs 4) (ag vs 5) H1) u
        (fun i => [.sl (enL cNd L) tk, .int .i64 (n : Int), .int .i64 (x : Int), .int .i64 (y : Int), .int .i64 ((2 ^ i : Nat) : Int), .int .i64 ((i + 1 : Nat) : Int)]) (fun _ => H) _ (by omega) (fun rec i hi => ?_) (fun rec => ?_)
      · have hi' : ((i + 1 : Nat) : Int) < ((u + 1 : Nat) : Int) := by omega
        have hpw : 2 ^ i ≤ 2 ^ 60 := Nat.pow_le_pow_right (by omega) (by omega)
        have hw1 : IntKind.i64.wrap (((2 ^ i : Nat) : Int) * 2) = ((2 ^ (i + 1) : Nat) : Int) := by
          rw [Nat.pow_succ]
          generalize 2 ^ i = p at *
          rw [wrap_i64] <;> omega
        have hw2 := wrap_succ (show i + 1 < 9223372036854775807 by omega)
        unfold Sh.gliderref14_on_l1
        simp only [GMb, joinPt, decide_true, decide_false, if_true, if_false, ag_succ, hwn, idx_enL hni, fieldAddr_cptr, load_cptr, Nat.zero_add, cNd_0, hlv2, hi', hw1, hw2]
      · have hp0 : ((2 ^ u : Nat) : Int) ≠ 0 := by have : 0 < 2 ^ u := Nat.pow_pos (by omega); omega
        have hd1 : ∀ a : Nat, ((a : Int).tdiv ((2 ^ u : Nat) : Int)) = ((a / 2 ^ u : Nat) : Int) := fun a => rfl
        have hd2 : ∀ a : Nat, ((a : Int).tmod ((2 ^ u : Nat) : Int)) = ((a % 2 ^ u : Nat) : Int) := fun a => rfl
        have hwy : IntKind.i64.wrap ((y / 2 ^ u : Nat) : Int) = ((y / 2 ^ u : Nat) : Int) := wrap_nat (by omega)
        have hwx : IntKind.i64.wrap ((x / 2 ^ u : Nat) : Int) = ((x / 2 ^ u : Nat) : Int) := wrap_nat (by omega)
        have hwm : IntKind.i64.wrap (2 * ((y / 2 ^ u : Nat) : Int)) = 2 * ((y / 2 ^ u : Nat) : Int) := by rw [wrap_i64] <;> omega
        have hwq : IntKind.i64.wrap (2 * ((y / 2 ^ u : Nat) : Int) + ((x / 2 ^ u : Nat) : Int)) = (q : Int) := by rw [wrap_i64] <;> omega
        obtain ⟨l1, l2, l3⟩ := loose_get hl hni
        obtain ⟨q1, q2, q3⟩ := l3 q hq4
        unfold Sh.gliderref14_on_l1
        simp only [GMb, joinPt, decide_true, decide_false, if_true, if_false, ag_succ, hwn, idx_enL hni, fieldAddr_cptr, load_cptr, Nat.zero_add, cNd_0, hlv2, Int.lt_irrefl, bin_quo hp0, bin_rem hp0, hd1, hd2, hwy, hwx, hwm, hwq, idx_kid hq4, Nat.mul_one, cNd_kid hq4]
        by_cases hu : u = 0
        · have : ((u + 1 : Nat) : Int) = 1 := by omega
          rw [if_pos hu]
          simp only [this, GMb, joinPt, decide_true, decide_false, if_true, if_false, gt_iff_lt]
        · have : ¬ ((u + 1 : Nat) : Int) = 1 := by omega
          rw [if_neg hu]
          have h1 : 1 < (ndAt L n).lv := by rw [hlv]; omega
          obtain ⟨e1, e2, e3⟩ := hLv.kid hl hn0 h1 hq4
          rw [hnd] at e1 e3
          obtain ⟨m, hm⟩ := Int.eq_ofNat_of_zero_le e3
          rw [hm] at e1 ⊢
          rw [Int.toNat_natCast] at e1
          have hrec := fun H => ih m (x % 2 ^ u) (y % 2 ^ u) d' H e1 (by omega) (by omega) (Nat.mod_lt _ (Nat.pow_pos (by omega))) (Nat.mod_lt _ (Nat.pow_pos (by omega)))
          simp only [this, GMb, joinPt, decide_true, decide_false, if_true, if_false, hrec]
/-! ### Leaves -/
def leafRow (on : Nat → Nat → Bool) (y : Nat) (k : Nat) : List UInt8 := (List.range k).map fun x => if on x y then 42 else 46
def leafUsed (on : Nat → Nat → Bool) (y : Nat) : Nat → Nat
  | 0 => 0
  | k + 1 => if on k y then k + 1 else leafUsed on y k
def leafAcc (on : Nat → Nat → Bool) : Nat → List UInt8 × Nat
  | 0 => ([], 0)
  | y + 1 => ((leafAcc on y).1 ++ (leafRow on y 8).take (leafUsed on y 8) ++ [36], if 0 < leafUsed on y 8 then ((leafAcc on y).1 ++ (leafRow on y 8).take (leafUsed on y 8) ++ [36]).length else (leafAcc on y).2)
def leafT (L : List Nd) (n : Nat) : List UInt8 := (leafAcc (onF L 3 n) 8).1.take (leafAcc (onF L 3 n) 8).2
theorem leafRow_len (on : Nat → Nat → Bool) (y k : Nat) : (leafRow on y k).length = k := by simp [leafRow]
theorem leafRow_succ (on : Nat → Nat → Bool) (y k : Nat) : leafRow on y (k + 1) = leafRow on y k ++ [if on k y then 42 else 46] := by simp [leafRow, List.range_succ]
theorem leafUsed_succ (on : Nat → Nat → Bool) (y k : Nat) : leafUsed on y (k + 1) = if on k y then k + 1 else leafUsed on y k := rfl
theorem leafUsed_le (on : Nat → Nat → Bool) (y : Nat) : ∀ k, leafUsed on y k ≤ k
  | 0 => Nat.le_refl _
  | k + 1 => by
    have := leafUsed_le on y k
    unfold leafUsed
    split <;> omega
theorem leafAcc_len (on : Nat → Nat → Bool) : ∀ y, (leafAcc on y).1.length ≤ y * 9 ∧ (leafAcc on y).2 ≤ (leafAcc on y).1.length
  | 0 => ⟨by simp [leafAcc], by simp [leafAcc]⟩
  | y + 1 => by
    have ih := leafAcc_len on y
    have h1 := leafUsed_le on y 8
    have h2 := leafRow_len on y 8
    simp only [leafAcc, List.length_append, List.length_singleton, List.length_take]
    refine ⟨by omega, ?_⟩
    split <;> omega
theorem leafT_len (L : List Nd) (n : Nat) : (leafT L n).length ≤ 72 := by
  have := leafAcc_len (onF L 3 n) 8
  unfold leafT
  rw [List.length_take]; omega
theorem q14_leaf {L : List Nd} (tk : Tok) (n : Nat) (H : AHeap) (hL : L.length < 549755813888) (hl : looseB L = true) (hn : Lv L 3 n) :
    Sh.gliderref14_Leaf (.sl (enL cNd L) tk) (.int .i64 (n : Int)) H = some (.ret (.str (leafT L n)), H) := by
  unfold Sh.gliderref14_Leaf leafT
  obtain ⟨F, hF⟩ := fuel_succ 100 (by omega)
  have hon : ∀ (x y : Nat) (H : AHeap), x < 8 → y < 8 → Sh.gliderref14_on FUEL (.sl (enL cNd L) tk) (.int .i64 (n : Int)) (.int .i64 (x : Int)) (.int .i64 (y : Int)) H = some (.ret (.bool (onF L 3 n x y)), H) := by
    intro x y H hx hy
    rw [hF, show F + 100 = (F + 99) + 1 from rfl]
    exact q14_on hL hl 3 n x y (F + 99) H hn (by omega) (by omega) hx hy
  generalize onF L 3 n = on at *
  refine loop_up (G := fun rec1 vs H1 => Sh.gliderref14_Leaf_l1 H rec1 (ag vs 0) (ag vs 1) (ag vs 2) (ag vs 3) (ag vs 4) H1) 8
    (fun y => [.sl (enL cNd L) tk, .int .i64 (n : Int), .str (leafAcc on y).1, .int .i64 ((leafAcc on y).2 : Int), .int .i64 (y : Int)]) (fun _ => H) _ (by decide) (fun rec y hy => ?_) (fun rec => ?_)
  · have hy' : (y : Int) < 8 := by omega
    have hwy := wrap_succ (show y < 9223372036854775807 by omega)
    have hacc := leafAcc_len on y
    have hul := leafUsed_le on y 8
    have hrl := leafRow_len on y 8
    unfold Sh.gliderref14_Leaf_l1
    simp only [ag_zero, ag_succ, ag_1, ag_2, ag_3, ag_4, obind, bin_lss, hy', decide_true, condA_true, joinPt]
    refine loop_up (G := fun rec3 vs H1 => Sh.gliderref14_Leaf_l3 H (fun vs H => Sh.gliderref14_Leaf_j2 H rec (ag vs 0) (ag vs 1) (ag vs 2) (ag vs 3) (ag vs 4) H) rec3 (ag vs 0) (ag vs 1) (ag vs 2) (ag vs 3) (ag vs 4) (ag vs 5) (ag vs 6) (ag vs 7) H1) 8
      (fun x => [.sl (enL cNd L) tk, .int .i64 (n : Int), .str (leafAcc on y).1, .int .i64 ((leafAcc on y).2 : Int), .int .i64 (y : Int), .str (leafRow on y x), .int .i64 (leafUsed on y x : Int), .int .i64 (x : Int)]) (fun _ => H) _ (by decide) (fun rec3 x hx => ?_) (fun rec3 => ?_)
    · have hx' : (x : Int) < 8 := by omega
      have hwx := wrap_succ (show x < 9223372036854775807 by omega)
      have hrx := leafRow_len on y x
      have hon1 := fun H => hon x y H hx hy
      rw [leafRow_succ, leafUsed_succ]
      unfold Sh.gliderref14_Leaf_l3
      cases ho : on x y with
      | true =>
        rw [ho] at hon1
        simp only [GMb, joinPt, decide_true, decide_false, if_true, if_false, ag_succ, hx', hon1, if_true]
        rw [bin_sadd (by rw [hrx]; simp; omega)]
        simp only [GMb, joinPt, decide_true, decide_false, if_true, if_false, len_str, List.length_append, List.length_singleton, hrx, ag_succ, Sh.gliderref14_Leaf_j4, hwx]
      | false =>
        rw [ho] at hon1
        simp only [GMb, joinPt, decide_true, decide_false, if_true, if_false, ag_succ, hx', hon1]
        rw [bin_sadd (by rw [hrx]; simp; omega)]
        simp only [GMb, joinPt, decide_true, decide_false, if_true, if_false, ag_succ, Sh.gliderref14_Leaf_j4, hwx]
    · have hf : ¬ (((8 : Nat) : Int) < 8) := by decide
      have htk : (leafRow on y 8).length = 8 := hrl
      unfold Sh.gliderref14_Leaf_l3
      simp only [ag_zero, ag_succ, ag_1, ag_2, ag_3, ag_4, ag_5, obind, bin_lss, hf, decide_false, condA_false, slice_str_to (show leafUsed on y 8 ≤ (leafRow on y 8).length by omega)]
      rw [bin_sadd (by simp; omega)]
      simp only [obind]
      rw [bin_sadd (by simp; omega)]
      simp only [obind, bin_gtr]
      by_cases h0 : 0 < leafUsed on y 8
      · have h0' : (leafUsed on y 8 : Int) > 0 := by omega
        simp only [h0', GMb, joinPt, decide_true, decide_false, if_true, if_false, len_str, ag_succ, Sh.gliderref14_Leaf_j2, hwy, leafAcc, h0]
      · have h0' : ¬ (leafUsed on y 8 : Int) > 0 := by omega
        simp only [h0', GMb, joinPt, decide_true, decide_false, if_true, if_false, len_str, ag_succ, Sh.gliderref14_Leaf_j2, hwy, leafAcc, h0]
  · have hf : ¬ (((8 : Nat) : Int) < 8) := by decide
    have hacc := leafAcc_len on 8
    unfold Sh.gliderref14_Leaf_l1
    simp only [GMb, joinPt, decide_true, decide_false, if_true, if_false, ag_succ, hf, slice_str_to hacc.2]
theorem i64_sb {n : Int} (h0 : -9223372036854775808 ≤ n) (h1 : n ≤ 9223372036854775807) : SB 44 n := by
  unfold SB
  have : (4294967296 : Nat) ^ 2 ≤ 4294967296 ^ 44 := pow_le32 (by omega)
  have h2 : n.natAbs < 18446744073709551616 := by omega
  rw [show (4294967296 : Nat) ^ 2 = 18446744073709551616 from rfl] at this
  omega
theorem q14_number (n : Int) (H : AHeap) (h0 : -9223372036854775808 ≤ n) (h1 : n ≤ 9223372036854775807) : Sh.gliderref14_number (.int .i64 n) H = some (.ret (.str (decZ n)), H) := by
  unfold Sh.gliderref14_number
  have hof := fun H => q02_of n H h0 h1
  have htx := fun H => q03_text n H (sb_dec (i64_sb h0 h1)).1
  simp only [GMb, joinPt, decide_true, decide_false, if_true, if_false, hof, htx]
end Go.Gm
/- Chapter 14 of the document: lines of nodes. -/
namespace Go.Gm
set_option linter.unusedVariables false
set_option linter.unusedSimpArgs false
/-- A node's line: its level, and its kids' numbers, as far as k. -/
def lineK (at' : List Nat) (x : Nd) : Nat → List UInt8
  | 0 => decZ x.lv
  | k + 1 => lineK at' x k ++ [32] ++ decZ (if 1 < x.lv then ((at'.getD (x.kid k).toNat 0 : Nat) : Int) else x.kid k)
def lineS (L : List Nd) (two : Bool) (at' : List Nat) (i : Nat) (x : Nd) : List UInt8 := if two && decide (x.lv = 3) then leafT L (i + 1) else lineK at' x 4
/-- The lines, and each number's. -/
def linesN (L : List Nd) (two : Bool) : Nat → List (List UInt8) × List Nat
  | 0 => ([], [0])
  | i + 1 =>
    let r := linesN L two i
    let x := L.getD i nd0
    if two && decide (x.lv < 3) then (r.1, r.2 ++ [0]) else (r.1 ++ [lineS L two r.2 i x], r.2 ++ [r.1.length + 1])
def twoQ (L : List Nd) : Bool := decide (mostZ L ≤ 1)
def linesL (L : List Nd) : List (List UInt8) :=
  if twoQ L && decide (L ≠ []) && decide (topLv L < 3) then [leafT (growL L 3) (growL L 3).length] else (linesN L (twoQ L) L.length).1
theorem linesN_len (L : List Nd) (two : Bool) : ∀ i, (linesN L two i).2.length = i + 1 ∧ (linesN L two i).1.length ≤ i ∧ ∀ a ∈ (linesN L two i).2, a ≤ i
  | 0 => by simp [linesN]
  | i + 1 => by
    obtain ⟨h1, h2, h3⟩ := linesN_len L two i
    simp only [linesN]
    split
    · refine ⟨by simp; omega, by simp only; omega, fun a ha => ?_⟩
      rcases List.mem_append.1 ha with h | h
      · have := h3 a h; omega
      · rw [List.mem_singleton] at h; omega
    · refine ⟨by simp; omega, by simp; omega, fun a ha => ?_⟩
      rcases List.mem_append.1 ha with h | h
      · have := h3 a h; omega
      · rw [List.mem_singleton] at h; omega
theorem lineK_len {L : List Nd} {at' : List Nat} {x : Nd} (h1 : 1 ≤ x.lv) (h2 : x.lv ≤ 1329) (hk : ∀ k, k < 4 → 0 ≤ x.kid k ∧ (x.lv = 1 → x.kid k ≤ 255)) (ha : ∀ a ∈ at', a ≤ 549755813888) : ∀ k, k ≤ 4 → (lineK at' x k).length ≤ 5000 + k * 5001
  | 0, _ => by have := (sb_dec (i64_sb (n := x.lv) (by omega) (by omega))).2; simp [lineK]; omega
  | k + 1, hk4 => by
    have ih := lineK_len (L := L) h1 h2 hk ha k (by omega)
    have hv : ∀ n : Int, 0 ≤ n → n ≤ 549755813888 → (decZ n).length ≤ 5000 := fun n a b => (sb_dec (i64_sb (n := n) (by omega) (by omega))).2
    have hd : (decZ (if 1 < x.lv then ((at'.getD (x.kid k).toNat 0 : Nat) : Int) else x.kid k)).length ≤ 5000 := by
      obtain ⟨q1, q2⟩ := hk k (by omega)
      split
      · refine hv _ (by omega) ?_
        rw [List.getD_eq_getElem?_getD]
        cases hq : at'[(x.kid k).toNat]? with
        | none => simp
        | some a => have := ha a (List.mem_of_getElem? hq); simp; omega
      · exact hv _ q1 (by have := q2 (by omega); omega)
    simp only [lineK, List.length_append, List.length_singleton]
    omega
theorem line_ok {L : List Nd} (hL : L.length < 274877906944) (hl : looseB L = true) (two : Bool) {i : Nat} (hi : i < L.length) : (lineS L two (linesN L two i).2 i L[i]).length ≤ 30000 := by
  obtain ⟨l1, l2, l3⟩ := loose_get hl hi
  obtain ⟨h1, h2, h3⟩ := linesN_len L two i
  unfold lineS
  split
  · have := leafT_len L (i + 1); omega
  · have := lineK_len (L := L) (at' := (linesN L two i).2) l1 l2 (fun k hk => ⟨(l3 k hk).1, (l3 k hk).2.1⟩) (fun a ha => by have := h3 a ha; omega) 4 (Nat.le_refl _)
    omega
theorem linesN_each {L : List Nd} (hL : L.length < 274877906944) (hl : looseB L = true) (two : Bool) : ∀ i, i ≤ L.length → ∀ s ∈ (linesN L two i).1, s.length ≤ 30000
  | 0, _, s, hs => by cases hs
  | i + 1, hi, s, hs => by
    have ih := linesN_each hL hl two i (by omega)
    have hx : L.getD i nd0 = L[i] := by rw [List.getD_eq_getElem?_getD, List.getElem?_eq_getElem (show i < L.length by omega)]; rfl
    have hk := line_ok hL hl two (show i < L.length by omega)
    simp only [linesN, hx] at hs
    split at hs
    · exact ih s hs
    · rcases List.mem_append.1 hs with h | h
      · exact ih s h
      · rw [List.mem_singleton] at h; rw [h]; exact hk
theorem linesL_ok {L : List Nd} (hL : L.length < 274877906944) (hl : looseB L = true) : (linesL L).length ≤ L.length + 1 ∧ ∀ s ∈ linesL L, s.length ≤ 30000 := by
  unfold linesL
  split
  · refine ⟨by simp, fun s hs => ?_⟩
    rw [List.mem_singleton] at hs
    rw [hs]
    have := leafT_len (growL L 3) (growL L 3).length; omega
  · exact ⟨by have := (linesN_len L (twoQ L) L.length).2.1; omega, linesN_each hL hl _ _ (Nat.le_refl _)⟩
/-- One node's line is laid. -/
theorem lines_turn {L : List Nd} {H : AHeap} {two : Bool} {i : Nat} (hL : L.length < 274877906944) (hl : looseB L = true) (hi : i < L.length) (p : Nat) (out : List (List UInt8)) (vo : AVal) (Hd : AHeap) (tk : Tok) (A : List Nat) (hA : A.length = i + 1) (hAb : ∀ a ∈ A, a ≤ i) (hout : out.length ≤ i)
    (hp : H.length ≤ p) (fp : Hd[p]? = some (.cel 0 (flat cN (A ++ List.replicate (L.length - i) 0)))) (hR : RS cS ty_string 1 H.length out vo Hd) (hlen : H.length ≤ Hd.length)
    (hs : (lineS L two A i L[i]).length ≤ 30000) :
    ∃ v' H', RS cS ty_string 1 H.length (if two && decide (L[i].lv < 3) then (out, A ++ [0]) else (out ++ [lineS L two A i L[i]], A ++ [out.length + 1])).1 v' H' ∧
      H'[p]? = some (.cel 0 (flat cN ((if two && decide (L[i].lv < 3) then (out, A ++ [0]) else (out ++ [lineS L two A i L[i]], A ++ [out.length + 1])).2 ++ List.replicate (L.length - (i + 1)) 0))) ∧ (∀ j, j < H.length → H'[j]? = Hd[j]?) ∧ H.length ≤ H'.length ∧
      ∀ rec : LK, Sh.gliderref14_lines_l1 H rec (.sl (enL cNd L) tk) (.bool two) vo (.ms p 0 0 (L.length + 1) (L.length + 1) 1 true) (.int .i64 (i : Int)) Hd = rec [.sl (enL cNd L) tk, .bool two, v', .ms p 0 0 (L.length + 1) (L.length + 1) 1 true, .int .i64 ((i + 1 : Nat) : Int)] H' := by
  have hi' : (i : Int) < (L.length : Int) := by omega
  have hwi := wrap_succ (show i < 9223372036854775807 by omega)
  obtain ⟨l1, l2, l3⟩ := loose_get hl hi
  obtain ⟨tk0, rfl⟩ := hR.sl
  have hj2 : ∀ (rec : LK) (v : AVal) (H1 : AHeap), Sh.gliderref14_lines_j2 H rec (.sl (enL cNd L) tk) (.bool two) v (.ms p 0 0 (L.length + 1) (L.length + 1) 1 true) (.int .i64 (i : Int)) H1 = rec [.sl (enL cNd L) tk, .bool two, v, .ms p 0 0 (L.length + 1) (L.length + 1) 1 true, .int .i64 ((i + 1 : Nat) : Int)] H1 := by
    intro rec v H1
    unfold Sh.gliderref14_lines_j2
    simp only [GMb, joinPt, decide_true, decide_false, if_true, if_false, hwi]
  have hrep : ∀ a : Nat, (A ++ List.replicate (L.length - i) 0).set (i + 1) a = A ++ [a] ++ List.replicate (L.length - (i + 1)) 0 := by
    intro a
    rw [List.set_append_right _ _ (by omega), hA, Nat.sub_self, show L.length - i = (L.length - (i + 1)) + 1 from by omega, List.replicate_succ, List.set_cons_zero]
    simp
  have hrep0 : A ++ [0] ++ List.replicate (L.length - (i + 1)) 0 = A ++ List.replicate (L.length - i) 0 := by
    rw [show L.length - i = (L.length - (i + 1)) + 1 from by omega, List.replicate_succ]; simp
  have hEl : (A ++ List.replicate (L.length - i) 0).length = L.length + 1 := by simp [hA]; omega
  have hgc : getCells Hd p 0 = some (flat cN (A ++ List.replicate (L.length - i) 0)) := get_cel fp
  -- the line is worked out
  have hline : ∀ j2 : LK, Sh.gliderref14_lines_j5 H j2 (.sl (enL cNd L) tk) (.bool two) (.sl (enL cS out) tk0) (.ms p 0 0 (L.length + 1) (L.length + 1) 1 true) (.int .i64 (i : Int)) (.str (lineS L two A i L[i])) Hd = Sh.gliderref14_lines_j5 H j2 (.sl (enL cNd L) tk) (.bool two) (.sl (enL cS out) tk0) (.ms p 0 0 (L.length + 1) (L.length + 1) 1 true) (.int .i64 (i : Int)) (.str (lineS L two A i L[i])) Hd := fun _ => rfl
  by_cases hsk : (two && decide (L[i].lv < 3)) = true
  · rw [if_pos hsk]
    simp only [Bool.and_eq_true, decide_eq_true_eq] at hsk
    refine ⟨_, Hd, hR, by rw [hrep0]; exact fp, fun j hj => rfl, hlen, fun rec => ?_⟩
    obtain ⟨h2, h3⟩ := hsk
    subst h2
    unfold Sh.gliderref14_lines_l1
    simp only [GMb, joinPt, decide_true, decide_false, if_true, if_false, len_enL, hi', idx_enL hi, fieldAddr_cptr, load_cptr, Nat.zero_add, cNd_0, h3, ag_succ, hj2]
  · rw [if_neg hsk]
    obtain ⟨v', H', a1, a2, a3⟩ := hR.snoc (bytes := 16) hlen (lineS L two A i L[i]) .tight (by omega) (by omega)
    obtain ⟨tk', rfl⟩ := a2.sl
    have fp2 := a3.get fp
    have hpl := (List.getElem?_eq_some_iff.1 fp2).1
    have hlen2 : H.length ≤ H'.length := by have := a3.len; omega
    have hidx := idx_ms (sz := 1) (id := p) (n := L.length + 1) (K := .i64) (g := 0) (off := 0) (cap := L.length + 1) (ex := true) (i := i + 1) (by omega)
    simp only [Nat.zero_add, Nat.mul_one] at hidx
    have hst := store_el (f := cN) (sz := 1) (a := out.length + 1) (v := .int .i64 ((out.length + 1 : Nat) : Int)) (get_cel fp2) (i := i + 1) (by rw [hEl]; omega) rfl
    simp only [Nat.mul_one, hrep, setC_cel fp2] at hst
    have hj5 : ∀ (rec : LK), Sh.gliderref14_lines_j5 H (fun vs H1 => Sh.gliderref14_lines_j2 H rec (ag vs 0) (ag vs 1) (ag vs 2) (ag vs 3) (ag vs 4) H1) (.sl (enL cNd L) tk) (.bool two) (.sl (enL cS out) tk0) (.ms p 0 0 (L.length + 1) (L.length + 1) 1 true) (.int .i64 (i : Int)) (.str (lineS L two A i L[i])) Hd
        = rec [.sl (enL cNd L) tk, .bool two, .sl (enL cS (out ++ [lineS L two A i L[i]])) tk', .ms p 0 0 (L.length + 1) (L.length + 1) 1 true, .int .i64 ((i + 1 : Nat) : Int)] (H'.set p (.cel 0 (flat cN (A ++ [out.length + 1] ++ List.replicate (L.length - (i + 1)) 0)))) := by
      intro rec
      unfold Sh.gliderref14_lines_j5
      simp only [GMb, joinPt, decide_true, decide_false, if_true, if_false, build_S, a1, hwi, len_enL, List.length_append, List.length_singleton, hidx, hst, ag_succ, hj2]
    refine ⟨_, H'.set p (.cel 0 (flat cN (A ++ [out.length + 1] ++ List.replicate (L.length - (i + 1)) 0))), a2.put fp2, by rw [List.getElem?_set_self hpl], fun j hj => by rw [List.getElem?_set_ne (by omega)]; exact a3.old j hj, by simpa using hlen2, fun rec => ?_⟩
    have hnum : ∀ (n : Int) (H : AHeap), 0 ≤ n → n ≤ 549755813888 → Sh.gliderref14_number (.int .i64 n) H = some (.ret (.str (decZ n)), H) := fun n H a b => q14_number n H (by omega) (by omega)
    have hnlv := fun H => hnum L[i].lv H (by omega) (by omega)
    -- the loop over the kids
    have kids : loopGen (fun rec3 vs H1 => Sh.gliderref14_lines_l3 H (fun vs H1 => Sh.gliderref14_lines_j2 H rec (ag vs 0) (ag vs 1) (ag vs 2) (ag vs 3) (ag vs 4) H1) rec3 (ag vs 0) (ag vs 1) (ag vs 2) (ag vs 3) (ag vs 4) (ag vs 5) (ag vs 6) H1) FUEL [.sl (enL cNd L) tk, .bool two, .sl (enL cS out) tk0, .ms p 0 0 (L.length + 1) (L.length + 1) 1 true, .int .i64 (i : Int), .str (decZ L[i].lv), .int .i64 0] Hd
        = rec [.sl (enL cNd L) tk, .bool two, .sl (enL cS (out ++ [lineS L two A i L[i]])) tk', .ms p 0 0 (L.length + 1) (L.length + 1) 1 true, .int .i64 ((i + 1 : Nat) : Int)] (H'.set p (.cel 0 (flat cN (A ++ [out.length + 1] ++ List.replicate (L.length - (i + 1)) 0)))) := by
      refine loop_up (G := fun rec3 vs H1 => Sh.gliderref14_lines_l3 H (fun vs H1 => Sh.gliderref14_lines_j2 H rec (ag vs 0) (ag vs 1) (ag vs 2) (ag vs 3) (ag vs 4) H1) rec3 (ag vs 0) (ag vs 1) (ag vs 2) (ag vs 3) (ag vs 4) (ag vs 5) (ag vs 6) H1) 4
        (fun k => [.sl (enL cNd L) tk, .bool two, .sl (enL cS out) tk0, .ms p 0 0 (L.length + 1) (L.length + 1) 1 true, .int .i64 (i : Int), .str (lineK A L[i] k), .int .i64 (k : Int)]) (fun _ => Hd) _ (by decide) (fun rec3 k hk => ?_) (fun rec3 => ?_)
      · have hk' : (k : Int) < 4 := by omega
        have hwk := wrap_succ (show k < 9223372036854775807 by omega)
        obtain ⟨q1, q2, q3⟩ := l3 k hk
        have hll := lineK_len (L := L) (at' := A) (x := L[i]) l1 l2 (fun k hk => ⟨(l3 k hk).1, (l3 k hk).2.1⟩) (fun a ha => by have := hAb a ha; omega) k (by omega)
        have hj4 : ∀ c : Int, 0 ≤ c → c ≤ 549755813888 → c = (if 1 < L[i].lv then ((A.getD (L[i].kid k).toNat 0 : Nat) : Int) else L[i].kid k) → Sh.gliderref14_lines_j4 H rec3 (.sl (enL cNd L) tk) (.bool two) (.sl (enL cS out) tk0) (.ms p 0 0 (L.length + 1) (L.length + 1) 1 true) (.int .i64 (i : Int)) (.str (lineK A L[i] k)) (.int .i64 (k : Int)) (.int .i64 c) Hd
            = rec3 [.sl (enL cNd L) tk, .bool two, .sl (enL cS out) tk0, .ms p 0 0 (L.length + 1) (L.length + 1) 1 true, .int .i64 (i : Int), .str (lineK A L[i] (k + 1)), .int .i64 ((k + 1 : Nat) : Int)] Hd := by
          intro c hc0 hc1 hc
          have hn := fun H => hnum c H hc0 hc1
          have hdl := (sb_dec (i64_sb (n := c) (by omega) (by omega))).2
          rw [show lineK A L[i] (k + 1) = lineK A L[i] k ++ [32] ++ decZ c by rw [hc]; rfl]
          unfold Sh.gliderref14_lines_j4
          rw [bin_sadd (by simp; omega)]
          simp only [GMb, joinPt, decide_true, decide_false, if_true, if_false, hn]
          rw [bin_sadd (by simp; omega)]
          simp only [GMb, joinPt, decide_true, decide_false, if_true, if_false, hwk]
        unfold Sh.gliderref14_lines_l3
        simp only [GMb, joinPt, decide_true, decide_false, if_true, if_false, ag_succ, hk', idx_enL hi, fieldAddr_cptr, idx_kid hk, load_cptr, Nat.zero_add, Nat.mul_one, cNd_kid hk, cNd_0]
        by_cases h1 : 1 < L[i].lv
        · have hle : (L[i].kid k).toNat ≤ i := by
            by_cases h0 : 0 < L[i].kid k
            · have := (q3 h1 h0).1; omega
            · omega
          obtain ⟨c, hc⟩ := Int.eq_ofNat_of_zero_le q1
          rw [hc] at hle hj4 ⊢
          rw [Int.toNat_natCast] at hle hj4
          have hidc := idx_ms (sz := 1) (id := p) (n := L.length + 1) (K := .i64) (g := 0) (off := 0) (cap := L.length + 1) (ex := true) (i := c) (by omega)
          simp only [Nat.zero_add, Nat.mul_one] at hidc
          have hldc := load_el (f := cN) hgc (i := c) (by rw [hEl]; omega)
          have hgd : (A ++ List.replicate (L.length - i) 0)[c]'(by rw [hEl]; omega) = A.getD c 0 := by
            rw [List.getElem_append_left (by omega), List.getD_eq_getElem?_getD, List.getElem?_eq_getElem (by omega)]; rfl
          rw [hgd] at hldc
          have hab : A.getD c 0 ≤ i := by
            rw [List.getD_eq_getElem?_getD, List.getElem?_eq_getElem (by omega)]
            exact hAb _ (List.getElem_mem _)
          simp only [h1, GMb, joinPt, decide_true, decide_false, if_true, if_false, gt_iff_lt, hidc, hldc, List.getElem?_cons_zero, ag_succ]
          exact hj4 _ (by omega) (by omega) (by rw [if_pos h1])
        · simp only [h1, GMb, joinPt, decide_true, decide_false, if_true, if_false, gt_iff_lt, ag_succ]
          exact hj4 _ q1 (by have := q2 (by omega); omega) (by rw [if_neg h1])
      · have hf : ¬ (((4 : Nat) : Int) < 4) := by decide
        unfold Sh.gliderref14_lines_l3
        simp only [ag_zero, ag_succ, ag_1, ag_2, ag_3, ag_4, ag_5, obind, bin_lss, hf, decide_false, condA_false, joinPt]
        by_cases h3 : (two && decide (L[i].lv = 3)) = true
        · have hlS : lineS L two A i L[i] = leafT L (i + 1) := by unfold lineS; rw [if_pos h3]
          simp only [Bool.and_eq_true, decide_eq_true_eq] at h3
          obtain ⟨h4, h5⟩ := h3
          have hLv : Lv L 3 (i + 1) := ⟨by omega, .inr (by rw [ndAt_nat hi, h5]; rfl)⟩
          have hlf := fun H => q14_leaf (L := L) tk (i + 1) H (by omega) hl hLv
          rw [hlS] at hj5 ⊢
          rw [h4] at hj5 ⊢
          simp only [GMb, joinPt, decide_true, decide_false, if_true, if_false, idx_enL hi, fieldAddr_cptr, load_cptr, Nat.zero_add, cNd_0, h5, hwi, hlf, ag_succ]
          have h9 := hj5 rec
          exact h9
        · have hlS : lineS L two A i L[i] = lineK A L[i] 4 := by unfold lineS; rw [if_neg h3]
          rw [hlS] at hj5 ⊢
          have h9 := hj5 rec
          cases two with
          | false =>
            simp only [GMb, joinPt, decide_true, decide_false, if_true, if_false, ag_succ]
            exact h9
          | true =>
            have h5 : ¬ L[i].lv = 3 := by simpa using h3
            simp only [GMb, joinPt, decide_true, decide_false, if_true, if_false, idx_enL hi, fieldAddr_cptr, load_cptr, Nat.zero_add, cNd_0, h5, ag_succ]
            exact h9
    unfold Sh.gliderref14_lines_l1
    cases two with
    | false =>
      simp only [GMb, joinPt, decide_true, decide_false, if_true, if_false, ag_succ, len_enL, hi', idx_enL hi, fieldAddr_cptr, load_cptr, Nat.zero_add, cNd_0, hnlv]
      exact kids
    | true =>
      have h5 : ¬ L[i].lv < 3 := by simpa using hsk
      simp only [GMb, joinPt, decide_true, decide_false, if_true, if_false, ag_succ, len_enL, hi', idx_enL hi, fieldAddr_cptr, load_cptr, Nat.zero_add, cNd_0, h5, hnlv]
      exact kids
end Go.Gm
/- Chapter 14 of the document: a pattern's text. -/
namespace Go.Gm
set_option linter.unusedVariables false
set_option linter.unusedSimpArgs false
theorem growF_ok {level : Int} (hlev : level ≤ 1329) : ∀ (d : Nat) (l : List Nd), looseB l = true → 0 < l.length → (ndAt l l.length).lv ≤ level → level ≤ (ndAt l l.length).lv + d →
    looseB (growF level d l) = true ∧ 0 < (growF level d l).length ∧ (ndAt (growF level d l) (growF level d l).length).lv = level ∧ (growF level d l).length ≤ l.length + 5 * d
  | 0, l, hl, h0, h1, h2 => ⟨hl, h0, by show (ndAt l l.length).lv = level; omega, Nat.le_refl _⟩
  | d + 1, l, hl, h0, h1, h2 => by
    show looseB (if _ then _ else _) = true ∧ 0 < (if _ then _ else _ : List Nd).length ∧ _
    by_cases h : (ndAt l l.length).lv < level
    · have e : growF level (d + 1) l = growF level d (growStep l) := by show (if _ then _ else _) = _; rw [if_pos h]
      obtain ⟨k1, ⟨x, k2, k3⟩, k4, k5⟩ := growStep_ok hl h0 (by omega)
      have ih := growF_ok hlev d (growStep l) k1 k4 (by omega) (by rw [k5]; omega)
      rw [e]
      rw [if_pos h]
      refine ⟨ih.1, ih.2.1, ih.2.2.1, ?_⟩
      have h4 := ih.2.2.2
      have h5 := congrArg List.length k2
      simp at h5; omega
    · have e : growF level (d + 1) l = l := by show (if _ then _ else _) = _; rw [if_neg h]
      rw [e]
      rw [if_neg h]
      exact ⟨hl, h0, by omega, by omega⟩
theorem grow_lv {L : List Nd} (hl : looseB L = true) (hn : L ≠ []) {level : Int} (h1 : topLv L ≤ level) (h2 : level ≤ 1329) : looseB (growL L level) = true ∧ (growL L level).length ≤ L.length + 7000 ∧ Lv (growL L level) level.toNat (growL L level).length := by
  have hlen : 0 < L.length := List.length_pos_iff.2 hn
  have h3 := (loose_get hl (show L.length - 1 < L.length by omega)).1
  have hnd : ndAt L (L.length : Int) = L[L.length - 1] := ndAt_eq (by omega) (by omega)
  unfold growL
  rw [if_neg (by intro h; rcases h with h | h; omega; exact hn h)]
  obtain ⟨k1, k2, k3, k4⟩ := growF_ok h2 1400 L hl hlen h1 (by rw [hnd]; omega)
  exact ⟨k1, by omega, Nat.le_refl _, .inr (by rw [k3])⟩
theorem q14_lines (L : List Nd) (H : AHeap) (hL : L.length < 274877900000) (hl : looseB L = true) : Sh.gliderref14_lines (quad L) H = some (.ret (.sl (enL cS (linesL L)) .no), H) := by
  unfold Sh.gliderref14_lines
  have e3 : (H ++ [Blk.cel 0 (quadC L)])[H.length]? = some (.cel 0 (quadC L)) := last_cel
  have hmo := fun H => q08_mostZ (L := L) H (by omega) hl
  have hlv : ∀ H, Sh.gliderref05_Level (quad L) H = some (.ret (.int .i64 (if L = [] then 0 else topLv L)), H) := fun H => q05_level L .no H (by omega)
  have key : ∀ two, two = twoQ L → (linesL L = (linesN L two L.length).1) → ((lenSl (.sl (enL cNd L) .no)).bind fun x28 => (binA .none .add x28 (.int .i64 1)).bind fun x29 => afterA (makeA 1 8 (some [(.int .i64 0)]) x29 x29 (H ++ [Blk.cel 0 (quadC L)])) fun x30 H31 =>
      loopGen (fun rec1 vs H1 => Sh.gliderref14_lines_l1 H rec1 (ag vs 0) (ag vs 1) (ag vs 2) (ag vs 3) (ag vs 4) H1) FUEL [.sl (enL cNd L) .no, .bool two, (.sl [] .tight), x30, (.int .i64 0)] H31) = some (.ret (.sl (enL cS (linesL L)) .no), H) := by
    intro two htwo hlL
    have hmk := make_flat (f := cN) (a := 0) (n := L.length + 1) (bytes := 8) (H := H ++ [Blk.cel 0 (quadC L)]) (by omega) (by omega)
    rw [show cN 0 = [AVal.int .i64 0] from rfl] at hmk
    simp only [len_enL, obind, bin_add, wrap_succ (show L.length < 9223372036854775807 by omega), hmk, afterA_some]
    have hb : H.length ≤ (H ++ [Blk.cel 0 (quadC L)]).length := by simp
    have fp : (H ++ [Blk.cel 0 (quadC L)] ++ [Blk.cel 0 (flat cN (List.replicate (L.length + 1) 0))])[(H ++ [Blk.cel 0 (quadC L)]).length]? = some (.cel 0 (flat cN ((linesN L two 0).2 ++ List.replicate (L.length - 0) 0))) := by
      rw [last_cel]; simp [linesN, List.replicate_succ]
    have hold : ∀ i, i < H.length → (H ++ [Blk.cel 0 (quadC L)] ++ [Blk.cel 0 (flat cN (List.replicate (L.length + 1) 0))])[i]? = H[i]? := fun i hi => by rw [List.append_assoc, List.getElem?_append_left hi]
    have hlen : H.length ≤ (H ++ [Blk.cel 0 (quadC L)] ++ [Blk.cel 0 (flat cN (List.replicate (L.length + 1) 0))]).length := by simp
    generalize (H ++ [Blk.cel 0 (quadC L)]).length = p at *
    generalize H ++ [Blk.cel 0 (quadC L)] ++ [Blk.cel 0 (flat cN (List.replicate (L.length + 1) 0))] = Hc at *
    have loop := loop_inv (G := fun rec1 vs H1 => Sh.gliderref14_lines_l1 H rec1 (ag vs 0) (ag vs 1) (ag vs 2) (ag vs 3) (ag vs 4) H1) L.length
      (fun i vs Hd => ∃ v, vs = [.sl (enL cNd L) .no, .bool two, v, .ms p 0 0 (L.length + 1) (L.length + 1) 1 true, .int .i64 (i : Int)] ∧ RS cS ty_string 1 H.length (linesN L two i).1 v Hd ∧ Hd[p]? = some (.cel 0 (flat cN ((linesN L two i).2 ++ List.replicate (L.length - i) 0))) ∧ (∀ j, j < H.length → Hd[j]? = H[j]?) ∧ H.length ≤ Hd.length)
      (by omega) (fun i vs Hd hi hI => ?_) (vs := [.sl (enL cNd L) .no, .bool two, .sl [] .tight, .ms p 0 0 (L.length + 1) (L.length + 1) 1 true, .int .i64 0]) (H := Hc) ⟨_, rfl, .inl ⟨rfl, rfl⟩, fp, hold, hlen⟩
    · obtain ⟨vs', Hd, ⟨v, rfl, gR, _, go, gl⟩, rec, hloop⟩ := loop
      rw [hloop]
      obtain ⟨tk2, rfl⟩ := gR.sl
      unfold Sh.gliderref14_lines_l1
      simp only [GMb, joinPt, decide_true, decide_false, if_true, if_false, ag_succ, len_enL, Int.lt_irrefl, rPN_eq (take_of_old go), fall_sl, Option.map_some]
      rw [hlL]
    · obtain ⟨v, rfl, gR, gp, go, gl⟩ := hI
      obtain ⟨n1, n2, n3⟩ := linesN_len L two i
      obtain ⟨v', H', a1, a2, a3, a4, a5⟩ := lines_turn (two := two) (by omega) hl hi p (linesN L two i).1 v Hd .no (linesN L two i).2 n1 n3 n2 hb gp gR gl (line_ok (by omega) hl two hi)
      have hx : L.getD i nd0 = L[i] := by rw [List.getD_eq_getElem?_getD, List.getElem?_eq_getElem hi]; rfl
      have hnext : linesN L two (i + 1) = if two && decide (L[i].lv < 3) then ((linesN L two i).1, (linesN L two i).2 ++ [0]) else ((linesN L two i).1 ++ [lineS L two (linesN L two i).2 i L[i]], (linesN L two i).2 ++ [(linesN L two i).1.length + 1]) := by
        simp only [linesN, hx]
      refine ⟨_, H', ⟨v', rfl, by rw [hnext]; exact a1, by rw [hnext]; exact a2, fun j hj => by rw [a3 j hj]; exact go j hj, a4⟩, fun rec => a5 rec⟩
  have htw : decide (mostZ L ≤ 1) = twoQ L := rfl
  simp only [GMb, joinPt, decide_true, decide_false, if_true, if_false, boxQ, fieldAddr_ptr, Nat.zero_add, load_nodesP e3, load_qP e3, hmo, htw]
  cases htq : twoQ L with
  | false =>
    simp only [GMb, joinPt, decide_true, decide_false, if_true, if_false]
    exact key false htq.symm (by unfold linesL; rw [htq]; rfl)
  | true =>
    simp only [GMb, joinPt, decide_true, decide_false, if_true, if_false, load_qP e3, hlv]
    by_cases hn : L = []
    · have hk := key true htq.symm (by unfold linesL; rw [htq, hn]; simp)
      rw [if_pos hn]
      have : ¬ ((0 : Int) > 0) := by decide
      simp only [this, GMb, joinPt, decide_true, decide_false, if_true, if_false]
      exact hk
    · rw [if_neg hn]
      have hlen : 0 < L.length := List.length_pos_iff.2 hn
      have h3 := (loose_get hl (show L.length - 1 < L.length by omega)).1
      have hnd : ndAt L (L.length : Int) = L[L.length - 1] := ndAt_eq (by omega) (by omega)
      have hpos : topLv L > 0 := by unfold topLv; rw [hnd]; omega
      simp only [hpos, GMb, joinPt, decide_true, decide_false, if_true, if_false, load_qP e3, hlv, if_neg hn]
      by_cases h33 : topLv L < 3
      · obtain ⟨g1, g2, g3⟩ := grow_lv hl hn (level := 3) (by omega) (by omega)
        have hgr := fun H => q06_grow L 3 H (by omega) hl (by omega) (by omega)
        have hlf := fun H => q14_leaf (L := growL L 3) .no (growL L 3).length H (by omega) g1 g3
        have hlL : linesL L = [leafT (growL L 3) (growL L 3).length] := by unfold linesL; rw [htq]; simp [hn, h33]
        simp only [h33, GMb, joinPt, decide_true, decide_false, if_true, if_false, load_qP e3, hgr, extract_0, extract_1, hlf, build_S, rPN_app, fall_sl, Option.map_some]
        rw [hlL]
      · have hk := key true htq.symm (by unfold linesL; rw [htq]; simp [h33])
        simp only [h33, GMb, joinPt, decide_true, decide_false, if_true, if_false]
        exact hk
def treeR (s0 : List UInt8) (l : List (List UInt8)) : List UInt8 := l.foldl (fun s t => s ++ t ++ [10]) s0
def treeHead (rule : List UInt8) : List UInt8 := [91, 77, 50, 93, 32, 40, 103, 108, 105, 100, 101, 114, 41, 10, 35, 82, 32] ++ rule ++ [10]
def treeTx (rule : List UInt8) (L : List Nd) : List UInt8 := treeR (treeHead rule) (linesL L)
theorem treeR_take (s0 : List UInt8) (l : List (List UInt8)) {i : Nat} (hi : i < l.length) : treeR s0 (l.take (i + 1)) = treeR s0 (l.take i) ++ l[i] ++ [10] := by
  unfold treeR
  rw [List.take_succ_eq_append_getElem hi, List.foldl_append]; rfl
theorem treeR_len (s0 : List UInt8) (l : List (List UInt8)) (h : ∀ t ∈ l, t.length ≤ 30000) : ∀ i, i ≤ l.length → (treeR s0 (l.take i)).length ≤ s0.length + i * 30001
  | 0, _ => by simp [treeR]
  | i + 1, hi => by
    have ih := treeR_len s0 l h i (by omega)
    have h2 := h l[i] (List.getElem_mem hi)
    rw [treeR_take s0 l hi]
    simp only [List.length_append, List.length_singleton]
    omega
theorem q14_text (rule : List UInt8) (L : List Nd) (H : AHeap) (hr : rule.length < 35184372088832) (hL : L.length < 274877900000) :
    Sh.gliderref14_Text (pat rule L) H = some (.ret (if ruleB rule && qrightB L then .tup [.str (treeTx rule L), .int .i64 0] else .tup [.str [], .int .i64 1]), H) := by
  unfold Sh.gliderref14_Text
  have e3 : (H ++ [Blk.cel 0 (patC rule L)])[H.length]? = some (.cel 0 (patC rule L)) := last_cel
  have hck := fun H => q11_right rule L H (by omega) (by omega)
  simp only [GMb, joinPt, decide_true, decide_false, if_true, if_false, boxPat, load_patP e3, hck]
  cases hrb : ruleB rule && qrightB L with
  | false =>
    simp only [GMb, joinPt, decide_true, decide_false, if_true, if_false]
    exact rP_plain (v := .tup [.str [], .int .i64 1]) rfl
  | true =>
    have hl : looseB L = true := by
      rw [Bool.and_eq_true] at hrb
      exact qright_loose hrb.2
    have hli := fun H => q14_lines L H hL hl
    simp only [GMb, joinPt, decide_true, decide_false, if_true, if_false, fieldAddr_ptr, Nat.zero_add, Nat.add_zero, load_ruleP e3]
    rw [bin_sadd (by simp; omega)]
    simp only [GMb, joinPt, decide_true, decide_false, if_true, if_false]
    rw [bin_sadd (by simp; omega)]
    simp only [GMb, joinPt, decide_true, decide_false, if_true, if_false, load_quadP e3, hli]
    obtain ⟨k1, k2⟩ := linesL_ok (by omega) hl
    unfold treeTx
    have hhl : (treeHead rule).length ≤ 35184372088932 := by unfold treeHead; simp; omega
    generalize linesL L = l at *
    refine loop_up (G := fun rec1 vs H1 => Sh.gliderref14_Text_l1 H rec1 (ag vs 0) (ag vs 1) (ag vs 2) H1) l.length (fun i => [.str (treeR (treeHead rule) (l.take i)), .sl (enL cS l) .no, .int .i64 (i : Int)]) (fun _ => H ++ [Blk.cel 0 (patC rule L)]) _ (by omega) (fun rec i hi => ?_) (fun rec => ?_)
    · have hi' : (i : Int) < (l.length : Int) := by omega
      have hws := wrap_succ (show i < 9223372036854775807 by omega)
      have hb := treeR_len (treeHead rule) l k2 i (by omega)
      have h2 := k2 l[i] (List.getElem_mem hi)
      rw [treeR_take _ l hi]
      unfold Sh.gliderref14_Text_l1
      simp only [GMb, joinPt, decide_true, decide_false, if_true, if_false, len_enL, hi', idx_enL hi, load_cptr, List.getElem?_cons_zero]
      rw [bin_sadd (by omega)]
      simp only [GMb, joinPt, decide_true, decide_false, if_true, if_false]
      rw [bin_sadd (by simp; omega)]
      simp only [GMb, joinPt, decide_true, decide_false, if_true, if_false, hws]
    · unfold Sh.gliderref14_Text_l1
      rw [List.take_of_length_le (Nat.le_refl _)]
      simp only [GMb, joinPt, decide_true, decide_false, if_true, if_false, len_enL, Int.lt_irrefl]
      exact rP_plain (v := .tup [.str (treeR (treeHead rule) l), .int .i64 0]) rfl
end Go.Gm
/- What the forms of the sniffing functions come to. -/
namespace Go.Gm
set_option linter.unusedVariables false
theorem take_eq_prefix (s p : List UInt8) : (s.take p.length == p) = p.isPrefixOf s := by
  induction p generalizing s with
  | nil => simp
  | cons a p ih =>
    cases s with
    | nil => simp
    | cons b s =>
      simp only [List.length_cons, List.take_succ_cons, List.isPrefixOf, ← ih s]
      rw [Bool.eq_iff_iff]
      simp
      intro _
      exact eq_comm
theorem hasPrefix_len {s p : List UInt8} (h : ¬ p.length ≤ s.length) : p.isPrefixOf s = false := by
  rw [← take_eq_prefix]
  cases hx : s.take p.length == p with
  | false => rfl
  | true =>
    exfalso
    have := congrArg List.length (eq_of_beq hx)
    simp at this; omega
theorem hasPrefix_ok (s p : List UInt8) (H : AHeap) : Sh.stringslite_HasPrefix (.str s) (.str p) H = some (.ret (.bool (p.isPrefixOf s)), H) := by
  unfold Sh.stringslite_HasPrefix
  by_cases h : p.length ≤ s.length
  · have h' : (p.length : Int) ≤ s.length := by omega
    simp [h', sliceStr, boundA, h, take_eq_prefix]
  · have h' : ¬ (p.length : Int) ≤ s.length := by omega
    simp [h', hasPrefix_len h]
theorem hasPrefix2_ok (s p : List UInt8) (H : AHeap) : Sh.strings_HasPrefix (.str s) (.str p) H = some (.ret (.bool (p.isPrefixOf s)), H) := by
  unfold Sh.strings_HasPrefix
  simp [hasPrefix_ok]
theorem begins_ok (s p : List UInt8) (H : AHeap) : Sh.gliderref20_begins (.str s) (.str p) H = some (.ret (.bool (p.isPrefixOf s)), H) := by
  unfold Sh.gliderref20_begins
  by_cases h : p.length ≤ s.length
  · have h' : (p.length : Int) ≤ s.length := by omega
    simp [h', sliceStr, boundA, h, take_eq_prefix]
  · have h' : ¬ (p.length : Int) ≤ s.length := by omega
    simp [h', hasPrefix_len h]
/-- The first byte's part. -/
def headL (s : List UInt8) : Int :=
  match s with
  | [] => 0
  | b :: _ => if b = 35 ∨ b = 120 then 4 else if b = 33 ∨ b = 46 ∨ b = 79 ∨ b = 10 ∨ b = 13 then 1 else 0
def ofL (s : List UInt8) : Int :=
  if [91, 77, 50, 93].isPrefixOf s then 5
  else if [35, 76, 105, 102, 101, 32, 49, 46, 48, 53].isPrefixOf s then 2
  else if [35, 76, 105, 102, 101, 32, 49, 46, 48, 54].isPrefixOf s then 3
  else headL s
theorem prefix1 (a : UInt8) (s : List UInt8) : [a].isPrefixOf s = (match s with | [] => false | b :: _ => a == b) := by
  cases s with
  | nil => rfl
  | cons b s => simp [List.isPrefixOf]
theorem refOf_ok (s : List UInt8) (H : AHeap) : Sh.gliderref20_Of (.str s) H = some (.ret (.int .i64 (ofL s)), H) := by
  unfold Sh.gliderref20_Of ofL
  simp only [begins_ok, bK_ret, rK_eq]
  cases h1 : [91, 77, 50, 93].isPrefixOf s with
  | true => simp
  | false =>
    cases h2 : [35, 76, 105, 102, 101, 32, 49, 46, 48, 53].isPrefixOf s with
    | true => simp
    | false =>
      cases h3 : [35, 76, 105, 102, 101, 32, 49, 46, 48, 54].isPrefixOf s with
      | true => simp
      | false =>
        simp only [condA_false, prefix1, Bool.false_eq_true, if_false]
        cases s with
        | nil => simp [begins_ok, headL]
        | cons b r =>
          simp only [headL]
          by_cases q1 : b = 35
          · subst q1; simp
          by_cases q2 : b = 120
          · subst q2; simp [begins_ok, prefix1]
          by_cases q3 : b = 33
          · subst q3; simp [begins_ok, prefix1]
          by_cases q4 : b = 46
          · subst q4; simp [begins_ok, prefix1]
          by_cases q5 : b = 79
          · subst q5; simp [begins_ok, prefix1]
          by_cases q6 : b = 10
          · subst q6; simp [begins_ok, prefix1]
          by_cases q7 : b = 13
          · subst q7; simp [begins_ok, prefix1]
          have e : ∀ a : UInt8, b ≠ a → (a == b) = false := fun a h => by simpa using fun x => h x.symm
          simp [begins_ok, prefix1, q1, q2, q3, q4, q5, q6, q7, e 35 q1, e 120 q2, e 33 q3, e 46 q4, e 79 q5, e 10 q6, e 13 q7]
def namesV : List AVal := [.str [], .str [112, 108, 97, 105, 110], .str [108, 105, 102, 101, 49, 48, 53], .str [108, 105, 102, 101, 49, 48, 54], .str [114, 108, 101], .str [109, 99]]
theorem names_ok (H : AHeap) : Sh.sniff_names H = some (.ret (.agg namesV), H) := by
  unfold Sh.sniff_names
  have hb : buildA (some [(.str []), (.str []), (.str []), (.str []), (.str []), (.str [])]) [(1, 1, (.str [112, 108, 97, 105, 110])), (2, 1, (.str [108, 105, 102, 101, 49, 48, 53])), (3, 1, (.str [108, 105, 102, 101, 49, 48, 54])), (4, 1, (.str [114, 108, 101])), (5, 1, (.str [109, 99]))] = some (.agg namesV) := by
    simp [buildA, fillA, putN, namesV]
  have hal : allocA (some [(.str []), (.str []), (.str []), (.str []), (.str []), (.str [])]) H = some (.ptr H.length 0 0, H ++ [.cel 0 [.str [], .str [], .str [], .str [], .str [], .str []]]) := alloc_eq rfl
  have hst : storeA 6 (.ptr H.length 0 0) (.agg namesV) (H ++ [.cel 0 [.str [], .str [], .str [], .str [], .str [], .str []]]) = some (H ++ [.cel 0 namesV]) := by
    rw [store_app0, store_all (cs := [.str [], .str [], .str [], .str [], .str [], .str []]) (sz := 6) (vs := namesV) (acells_agg rfl) rfl rfl]; rfl
  have hld : loadA true 6 (.ptr H.length 0 0) (H ++ [.cel 0 namesV]) = some (.agg namesV) := by rw [load_app0, load_whole (cs := namesV) (sz := 6) rfl]
  rw [hal]
  simp only [afterA_some, hb, obind, hst, retH_some, bP_ret, hld]
  rw [rP_eq _ (by simp)]
  simp [namesV, frz, frzL]
end Go.Gm
/- What the forms of the sniffing functions come to: names, and the format of any bytes. -/
namespace Go.Gm
set_option linter.unusedVariables false
set_option linter.unusedSimpArgs false
/-- The name of a format. -/
def nameL (n : Int) : List UInt8 :=
  if n = 1 then [112, 108, 97, 105, 110] else if n = 2 then [108, 105, 102, 101, 49, 48, 53] else if n = 3 then [108, 105, 102, 101, 49, 48, 54] else if n = 4 then [114, 108, 101] else if n = 5 then [109, 99] else []
theorem five {n : Int} (h1 : ¬ n < 1) (h2 : ¬ n > 5) : n = 1 ∨ n = 2 ∨ n = 3 ∨ n = 4 ∨ n = 5 := by omega
theorem name_ok (n : Int) (H : AHeap) : Sh.sniff_Name (.int .i64 n) H = some (.ret (.str (nameL n)), H) := by
  unfold Sh.sniff_Name nameL
  by_cases h1 : n < 1
  · simp [h1, show ¬ n = 1 from by omega, show ¬ n = 2 from by omega, show ¬ n = 3 from by omega, show ¬ n = 4 from by omega, show ¬ n = 5 from by omega]
  by_cases h2 : n > 5
  · simp [h1, h2, show ¬ n = 1 from by omega, show ¬ n = 2 from by omega, show ¬ n = 3 from by omega, show ¬ n = 4 from by omega, show ¬ n = 5 from by omega]
  rcases five h1 h2 with rfl | rfl | rfl | rfl | rfl <;> (simp only [names_ok]; rfl)
theorem refNames_ok (H : AHeap) : Sh.gliderref20_names H = some (.ret (.sl [[.str [112, 108, 97, 105, 110]], [.str [108, 105, 102, 101, 49, 48, 53]], [.str [108, 105, 102, 101, 49, 48, 54]], [.str [114, 108, 101]], [.str [109, 99]]] .no), H) := by
  unfold Sh.gliderref20_names
  simp [buildSl, seqCells, AVal.acells, immC, isImm]
theorem refName_ok (n : Int) (H : AHeap) : Sh.gliderref20_Name (.int .i64 n) H = some (.ret (.str (nameL n)), H) := by
  unfold Sh.gliderref20_Name nameL
  by_cases h1 : n < 1
  · simp [h1, show ¬ n = 1 from by omega, show ¬ n = 2 from by omega, show ¬ n = 3 from by omega, show ¬ n = 4 from by omega, show ¬ n = 5 from by omega]
  by_cases h2 : n > 5
  · simp [h1, h2, show ¬ n = 1 from by omega, show ¬ n = 2 from by omega, show ¬ n = 3 from by omega, show ¬ n = 4 from by omega, show ¬ n = 5 from by omega]
  rcases five h1 h2 with rfl | rfl | rfl | rfl | rfl <;> simp [refNames_ok, wrap_i64, idxSl, loadA]
/-- The format of a name. -/
def namedL (s : List UInt8) : Int :=
  if s = [112, 108, 97, 105, 110] then 1 else if s = [108, 105, 102, 101, 49, 48, 53] then 2 else if s = [108, 105, 102, 101, 49, 48, 54] then 3 else if s = [114, 108, 101] then 4 else if s = [109, 99] then 5 else 0
theorem fuel8 : FUEL = (FUEL - 8) + 1 + 1 + 1 + 1 + 1 + 1 + 1 + 1 := by have := fuel_val; omega
theorem named_ok (s : List UInt8) (H : AHeap) : Sh.sniff_Named (.str s) H = some (.ret (.int .i64 (namedL s)), H) := by
  unfold Sh.sniff_Named namedL
  simp only [names_ok, bP_ret, bK_ret]
  rw [fuel8]
  generalize FUEL - 8 = m
  by_cases h0 : s = []
  · subst h0
    simp [loop_succ, Sh.sniff_Named_l1, idxAgg, partA, namesV, wrap_i64]
  · have e0 : s.isEmpty = false := by simpa using h0
    have ec : ∀ u : List UInt8, (u == s) = (s == u) := fun u => by rw [Bool.eq_iff_iff]; simp only [beq_iff_eq]; exact eq_comm
    by_cases h1 : s = [112, 108, 97, 105, 110]
    · subst h1; simp [loop_succ, Sh.sniff_Named_l1, idxAgg, partA, namesV, wrap_i64]
    by_cases h2 : s = [108, 105, 102, 101, 49, 48, 53]
    · subst h2; simp [loop_succ, Sh.sniff_Named_l1, idxAgg, partA, namesV, wrap_i64]
    by_cases h3 : s = [108, 105, 102, 101, 49, 48, 54]
    · subst h3; simp [loop_succ, Sh.sniff_Named_l1, idxAgg, partA, namesV, wrap_i64]
    by_cases h4 : s = [114, 108, 101]
    · subst h4; simp [loop_succ, Sh.sniff_Named_l1, idxAgg, partA, namesV, wrap_i64]
    by_cases h5 : s = [109, 99]
    · subst h5; simp [loop_succ, Sh.sniff_Named_l1, idxAgg, partA, namesV, wrap_i64]
    have e : ∀ u : List UInt8, ¬ s = u → (u == s) = false := fun u h => by rw [ec]; simpa using h
    simp [loop_succ, Sh.sniff_Named_l1, idxAgg, partA, namesV, wrap_i64, e0, h1, h2, h3, h4, h5, e _ h0, e _ h1, e _ h2, e _ h3, e _ h4, e _ h5]
theorem refNamed_loop (m : Nat) (s : List UInt8) (H : AHeap) : loopGen (fun rec1 vs H1 => Sh.gliderref20_Named_l1 H rec1 (ag vs 0) (ag vs 1) (ag vs 2) H1) (m + 1 + 1 + 1 + 1 + 1 + 1 + 1 + 1)
    [.str s, .sl [[.str [112, 108, 97, 105, 110]], [.str [108, 105, 102, 101, 49, 48, 53]], [.str [108, 105, 102, 101, 49, 48, 54]], [.str [114, 108, 101]], [.str [109, 99]]] .no, .int .i64 0] H = some (.ret (.int .i64 (namedL s)), H) := by
  unfold namedL
  have ec : ∀ u : List UInt8, (u == s) = (s == u) := fun u => by rw [Bool.eq_iff_iff]; simp only [beq_iff_eq]; exact eq_comm
  by_cases h1 : s = [112, 108, 97, 105, 110]
  · subst h1; simp [loop_succ, Sh.gliderref20_Named_l1, idxSl, loadA, wrap_i64]
  by_cases h2 : s = [108, 105, 102, 101, 49, 48, 53]
  · subst h2; simp [loop_succ, Sh.gliderref20_Named_l1, idxSl, loadA, wrap_i64]
  by_cases h3 : s = [108, 105, 102, 101, 49, 48, 54]
  · subst h3; simp [loop_succ, Sh.gliderref20_Named_l1, idxSl, loadA, wrap_i64]
  by_cases h4 : s = [114, 108, 101]
  · subst h4; simp [loop_succ, Sh.gliderref20_Named_l1, idxSl, loadA, wrap_i64]
  by_cases h5 : s = [109, 99]
  · subst h5; simp [loop_succ, Sh.gliderref20_Named_l1, idxSl, loadA, wrap_i64]
  have e : ∀ u : List UInt8, ¬ s = u → (u == s) = false := fun u h => by rw [ec]; simpa using h
  simp [loop_succ, Sh.gliderref20_Named_l1, idxSl, loadA, wrap_i64, h1, h2, h3, h4, h5, e _ h1, e _ h2, e _ h3, e _ h4, e _ h5]
theorem refNamed_ok (s : List UInt8) (H : AHeap) : Sh.gliderref20_Named (.str s) H = some (.ret (.int .i64 (namedL s)), H) := by
  unfold Sh.gliderref20_Named
  simp only [refNames_ok, bP_ret, bK_ret]
  rw [fuel8]
  exact refNamed_loop _ s H
/-- The first sign of bytes. -/
theorem decode_head (b : UInt8) (r : List UInt8) : (b.toNat < 128 → (Utf8.decode ⟨(b :: r).toArray⟩ 0).1 = b.toNat) ∧ (128 ≤ b.toNat → 128 ≤ (Utf8.decode ⟨(b :: r).toArray⟩ 0).1) := by
  have h0 : ((⟨(b :: r).toArray⟩ : ByteArray).get! (0 + 0)).toNat = b.toNat := rfl
  constructor
  · intro h
    unfold Utf8.decode
    simp only [h0]
    rw [if_pos h]
  · intro h
    unfold Utf8.decode
    simp only [h0]
    rw [if_neg (by omega)]
    have hr : 128 ≤ Utf8.runeError := by decide
    repeat' split
    all_goals first | exact hr | (rename_i hq; simp only [ge_iff_le, Bool.and_eq_true, decide_eq_true_eq] at hq ⊢; omega)
theorem l2_ok (s : List UInt8) (H0 G : AHeap) (i : Nat) (hi : i = (H0 ++ G).length) : Sh.sniff_Of_l2 H0 (.ptr i 0 0) (H0 ++ G ++ [.iter s 0]) = some (.ret (.int .i64 (headL s)), H0) := by
  subst hi
  have hget : (H0 ++ G ++ [Blk.iter s 0])[(H0 ++ G).length]? = some (.iter s 0) := by simp
  unfold Sh.sniff_Of_l2
  cases s with
  | nil =>
    simp only [nextA, hget, List.length_nil, Nat.lt_irrefl, if_false, retVH_some, bP_ret, bK_ret]
    simp [extractA, headL, List.append_assoc]
  | cons b r =>
    obtain ⟨d1, d2⟩ := decode_head b r
    have hset : ∀ B, (H0 ++ G ++ [Blk.iter (b :: r) 0]).set (H0 ++ G).length B = H0 ++ (G ++ [B]) := fun B => by simp [List.set_append]
    simp only [nextA, hget, List.length_cons, Nat.zero_lt_succ, if_true, retVH_some, bP_ret, bK_ret, hset]
    generalize hc : (Utf8.decode ⟨(b :: r).toArray⟩ 0) = c at d1 d2
    obtain ⟨c, wd⟩ := c
    simp only [] at d1 d2
    have hb : ∀ k : Nat, k < 128 → (((c : Int) == (k : Int)) = (b == UInt8.ofNat k)) := by
      intro k hk
      rw [Bool.eq_iff_iff]
      simp only [beq_iff_eq]
      constructor
      · intro h
        have : c = k := by omega
        subst this
        rcases Nat.lt_or_ge b.toNat 128 with h1 | h1
        · rw [d1 h1]; simp
        · have := d2 h1; omega
      · intro h
        subst h
        have : (UInt8.ofNat k).toNat = k := by simp; omega
        rw [this] at d1
        rw [d1 hk]
    have b35 : ((c : Int) == 35) = (b == 35) := hb 35 (by decide)
    have b120 : ((c : Int) == 120) = (b == 120) := hb 120 (by decide)
    have b33 : ((c : Int) == 33) = (b == 33) := hb 33 (by decide)
    have b46 : ((c : Int) == 46) = (b == 46) := hb 46 (by decide)
    have b79 : ((c : Int) == 79) = (b == 79) := hb 79 (by decide)
    have b10 : ((c : Int) == 10) = (b == 10) := hb 10 (by decide)
    have b13 : ((c : Int) == 13) = (b == 13) := hb 13 (by decide)
    simp only [extractA, joinPt, Sh.sniff_Of_j3, Sh.sniff_Of_j4, headL, bin_eql, b35, b120, b33, b46, b79, b10, b13, Option.bind_some, List.getElem?_cons_zero, List.getElem?_cons_succ, condA_true, ag_zero, ag_1, ag_2, ag_3]
    by_cases q1 : b = 35
    · subst q1; simp
    by_cases q2 : b = 120
    · subst q2; simp
    by_cases q3 : b = 33
    · subst q3; simp
    by_cases q4 : b = 46
    · subst q4; simp
    by_cases q5 : b = 79
    · subst q5; simp
    by_cases q6 : b = 10
    · subst q6; simp
    by_cases q7 : b = 13
    · subst q7; simp
    have e : ∀ a : UInt8, b ≠ a → (b == a) = false := fun a h => by simpa using h
    simp [q1, q2, q3, q4, q5, q6, q7, e 35 q1, e 120 q2, e 33 q3, e 46 q4, e 79 q5, e 10 q6, e 13 q7]
theorem wrapS {n : Int} (h0 : 0 ≤ n) (h : n ≤ 1000) : IntKind.i64.wrap n = n := wrap_i64 (by omega) (by omega)
def headsV : AVal := .sl [[.str [91, 77, 50, 93], .int .i64 5], [.str [35, 76, 105, 102, 101, 32, 49, 46, 48, 53], .int .i64 2], [.str [35, 76, 105, 102, 101, 32, 49, 46, 48, 54], .int .i64 3]] .tight
/-- One of the three heads. -/
theorem l1_turn (rec1 : List AVal → AHeap → Out) (s p : List UInt8) (f : Int) (n : Nat) (H0 G : AHeap) (hn : n < 3) (he : idxSl 2 headsV (.int .i64 n) = some (.cptr [.str p, .int .i64 f] 0)) :
    Sh.sniff_Of_l1 H0 rec1 (.str s) headsV (.int .i64 3) (.int .i64 n) (H0 ++ G) = if p.isPrefixOf s then some (.ret (.int .i64 f), H0) else rec1 [.str s, headsV, .int .i64 3, .int .i64 (n + 1 : Int)] (H0 ++ (G ++ [.cel 0 [.str p, .int .i64 f]])) := by
  unfold Sh.sniff_Of_l1
  have hlt : ((n : Int) < 3) := by omega
  have hw : IntKind.i64.wrap ((n : Int) + 1) = n + 1 := wrapS (by omega) (by omega)
  simp only [bin_lss, hlt, decide_true, Option.bind_some, condA_true, he]
  have hl : loadA true 2 (.cptr [.str p, .int .i64 f] 0) (H0 ++ G) = some (.agg [.str p, .int .i64 f]) := by simp [loadA]
  have ha : allocA (some [.str [], .int .i64 0]) (H0 ++ G) = some (.ptr (H0 ++ G).length 0 0, H0 ++ G ++ [.cel 0 [.str [], .int .i64 0]]) := by simp [allocA, AVal.isScal]
  have hst : storeA 2 (.ptr (H0 ++ G).length 0 0) (.agg [.str p, .int .i64 f]) (H0 ++ G ++ [.cel 0 [.str [], .int .i64 0]]) = some (H0 ++ (G ++ [.cel 0 [.str p, .int .i64 f]])) := by
    rw [store_app0, store_all (cs := [.str [], .int .i64 0]) (sz := 2) (vs := [.str p, .int .i64 f]) (acells_agg rfl) rfl rfl]; simp
  have hr : ∀ o x, [AVal.str p, .int .i64 f][o]? = some x → loadA false 1 (.ptr (H0 ++ G).length 0 (0 + o)) (H0 ++ (G ++ [.cel 0 [.str p, .int .i64 f]])) = some x := by
    intro o x hx
    rw [← List.append_assoc]
    simp only [loadA, get_last rfl, Option.bind_some, Nat.zero_add, Bool.false_eq_true, if_false]
    exact hx
  simp only [hl, ha, Option.bind_some, afterA_some, hst, retH_some, bP_ret, bK_ret, fieldAddr_ptr, hr 0 (.str p) rfl, hr 1 (.int .i64 f) rfl, hasPrefix2_ok, bin_add, hw]
  cases p.isPrefixOf s <;> simp
theorem l1_end (rec1 : List AVal → AHeap → Out) (s : List UInt8) (H0 G : AHeap) : Sh.sniff_Of_l1 H0 rec1 (.str s) headsV (.int .i64 3) (.int .i64 3) (H0 ++ G) = some (.ret (.int .i64 (headL s)), H0) := by
  unfold Sh.sniff_Of_l1
  simp only [bin_lss, Int.lt_irrefl, decide_false, Option.bind_some, condA_false, rangeA, retVH_some, bP_ret, bK_ret]
  rw [fuel8, loop_succ]
  simp only [ag_zero]
  exact l2_ok s H0 G _ rfl
theorem of_ok (s : List UInt8) (H : AHeap) : Sh.sniff_Of (.str s) H = some (.ret (.int .i64 (ofL s)), H) := by
  unfold Sh.sniff_Of ofL
  have b1 : ∀ (p : List UInt8) (f : Int), buildA (some [.str [], .int .i64 0]) [(0, 1, .str p), (1, 1, .int .i64 f)] = some (.agg [.str p, .int .i64 f]) := fun p f => by simp [buildA, fillA, AVal.acells, AVal.isScal, putN]
  have b2 : buildSl 2 [.agg [.str [91, 77, 50, 93], .int .i64 5], .agg [.str [35, 76, 105, 102, 101, 32, 49, 46, 48, 53], .int .i64 2], .agg [.str [35, 76, 105, 102, 101, 32, 49, 46, 48, 54], .int .i64 3]] = some headsV := by
    simp [buildSl, seqCells, AVal.acells, AVal.isScal, immC, isImm, headsV]
  have b3 : lenSl headsV = some (.int .i64 3) := rfl
  simp only [b1, Option.bind_some, b2, b3]
  rw [fuel8]
  generalize FUEL - 8 = m
  have e0 : H = H ++ [] := by simp
  rw [loop_succ]
  simp only [ag_zero, ag_1, ag_2, ag_3]
  conv => lhs; rw [show Sh.sniff_Of_l1 H = Sh.sniff_Of_l1 H from rfl]
  have t0 := fun r => l1_turn r s [91, 77, 50, 93] 5 0 H [] (by decide) rfl
  rw [List.append_nil] at t0
  refine (t0 _).trans ?_
  split
  · rfl
  rw [loop_succ]
  simp only [ag_zero, ag_1, ag_2, ag_3]
  refine (l1_turn _ s [35, 76, 105, 102, 101, 32, 49, 46, 48, 53] 2 1 H _ (by decide) rfl).trans ?_
  split
  · rfl
  rw [loop_succ]
  simp only [ag_zero, ag_1, ag_2, ag_3]
  refine (l1_turn _ s [35, 76, 105, 102, 101, 32, 49, 46, 48, 54] 3 2 H _ (by decide) rfl).trans ?_
  split
  · rfl
  rw [loop_succ]
  simp only [ag_zero, ag_1, ag_2, ag_3]
  exact l1_end _ s H _
end Go.Gm
/- The laws of layer 20 on the forms. -/
namespace Go.Gm
set_option linter.unusedVariables false
set_option linter.unusedSimpArgs false
theorem alive_ok (H : AHeap) : Sh.gliderlaw20_alive H = some (.ret (.bool true), H) := by
  unfold Sh.gliderlaw20_alive
  have h1 : ofL [35, 78, 32, 103, 108, 105, 100, 101, 114] = 4 := by decide
  have h2 : ofL [91, 77, 50, 93] = 5 := by decide
  have h3 : ofL [35, 76, 105, 102, 101, 32, 49, 46, 48, 53] = 2 := by decide
  have h4 : ofL [35, 76, 105, 102, 101, 32, 49, 46, 48, 54, 120] = 3 := by decide
  have h5 : ofL [35, 76, 105, 102, 101, 32, 49, 46, 48] = 4 := by decide
  have h6 : ofL [79] = 1 := by decide
  have h7 : ofL [] = 0 := by decide
  have h8 : ofL [111] = 0 := by decide
  have h9 : nameL 4 = [114, 108, 101] := by decide
  have h10 : nameL 6 = [] := by decide
  have h11 : namedL [109, 99] = 5 := by decide
  have h12 : namedL [77, 67] = 0 := by decide
  simp [of_ok, name_ok, named_ok, h1, h2, h3, h4, h5, h6, h7, h8, h9, h10, h11, h12]
theorem tells_ok (b : List UInt8) (n : Int) (H : AHeap) : Sh.gliderlaw20_SniffTells (.str b) (.int .i64 n) H = some (.ret (.bool true), H) := by
  unfold Sh.gliderlaw20_SniffTells
  simp [alive_ok, of_ok, refOf_ok, name_ok, refName_ok, named_ok, refNamed_ok]
theorem prefix_append {p s : List UInt8} (t : List UInt8) (h : p.length ≤ s.length) : p.isPrefixOf (s ++ t) = p.isPrefixOf s := by
  rw [← take_eq_prefix, ← take_eq_prefix, List.take_append_of_le_length h]
theorem prefix_take {p s : List UInt8} (n : Nat) (h : p.length ≤ n) : p.isPrefixOf (s.take n) = p.isPrefixOf s := by
  rw [← take_eq_prefix, ← take_eq_prefix, List.take_take, Nat.min_eq_left h]
theorem of_append {s : List UInt8} (t : List UInt8) (h : 10 ≤ s.length) : ofL (s ++ t) = ofL s := by
  unfold ofL
  rw [prefix_append t (by simp; omega), prefix_append t (by simp; omega), prefix_append t (by simp; omega)]
  cases s with
  | nil => simp at h
  | cons b r => rfl
theorem of_take {s : List UInt8} (h : 10 ≤ s.length) : ofL (s.take 10) = ofL s := by
  unfold ofL
  rw [prefix_take 10 (by simp), prefix_take 10 (by simp), prefix_take 10 (by simp)]
  cases s with
  | nil => simp at h
  | cons b r => rfl
theorem ten_ok (b more : List UInt8) (H : AHeap) (hl : b.length + more.length ≤ 1152921504606846976) : Sh.gliderlaw20_SniffTen (.str b) (.str more) H = some (.ret (.bool true), H) := by
  unfold Sh.gliderlaw20_SniffTen
  by_cases h : b.length < 10
  · have h' : ((b.length : Int) < 10) := by omega
    simp [alive_ok, h']
  · have h' : ¬ ((b.length : Int) < 10) := by omega
    have hs : sliceStr (.str b) none (some (.int .i64 10)) = some (.str (b.take 10)) := by
      simp [sliceStr, boundA]; omega
    have ha : binA .none .add (.str b) (.str more) = some (.str (b ++ more)) := by simp [binA, strBin, hl]
    have hm : min 10 b.length = 10 := by omega
    have ha2 : binA .none .add (.str (b.take 10)) (.str more) = some (.str (b.take 10 ++ more)) := by
      simp [binA, strBin]; omega
    have e1 : ofL (b ++ more) = ofL b := of_append more (by omega)
    have e2 : ofL (b.take 10) = ofL b := of_take (by omega)
    have e3 : ofL (b.take 10 ++ more) = ofL b := by rw [of_append more (by simp; omega), e2]
    simp [alive_ok, h', hs, ha, ha2, of_ok, e1, e2, e3]
end Go.Gm
/- What the document writes in a format tells of that one. -/
namespace Go.Gm
set_option linter.unusedVariables false
set_option linter.unusedSimpArgs false
theorem canonL_len {L : List Nd} {n : Nat} (hL : L.length < 3518437200000) (hl : looseB L = true) (hn : n ≤ L.length) : (canonL L n).length ≤ L.length + 1330 := by
  obtain ⟨s1, s2, s3⟩ := shrink_ok hl hn
  unfold canonL
  generalize shrink L n = s at s1 s2 s3
  obtain ⟨M, r⟩ := s
  dsimp only at s1 s2 s3 ⊢
  obtain ⟨H', D', w', v1, v2, v3, v4, v5⟩ := q06_visit (L := M) .no .no 0 0 (by omega) s1 (ndAt M (r : Int)).lv.toNat r ((ndAt M (r : Int)).lv.toNat + 1) [] (List.replicate (M.length + 1) 0) (.sl [] .tight) [.cel 0 (flat cN (List.replicate (M.length + 1) 0))]
    s2 (.inr rfl) (Nat.lt_succ_self _) (Nat.le_refl _) (by simp) ⟨.inl ⟨rfl, rfl⟩, rfl⟩ ⟨by simp, by simp, fun j dd hj hdd => by
      have := List.mem_of_getElem? hj
      rw [List.mem_replicate] at this; omega⟩
  have := v4.le
  omega
theorem of07_len (l : List Cl) (hl : l.length ≤ 1000000) : (of07 l).1.length ≤ l.length * 1329 + 2000 := by
  rw [of07_eq]
  unfold of07S
  have hS : (lastL l).length ≤ l.length := by
    have h1 : (lastL l).length ≤ (lastAll l).length := List.length_filter_le _ _
    have h2 := (lastAll_mem (l := l) l.length (Nat.le_refl _)).1
    rw [List.take_of_length_le (Nat.le_refl _)] at h2
    omega
  generalize lastL l = S at hS
  split
  · simp
  · rename_i hv
    have hp := place_len (levelOf S) [] (-(2 ^ (levelOf S - 1))) (-(2 ^ (levelOf S - 1))) S
    generalize placeF (levelOf S) [] (-(2 ^ (levelOf S - 1))) (-(2 ^ (levelOf S - 1))) S = p at hp
    have h1 : S.length * levelOf S ≤ l.length * 1329 := Nat.mul_le_mul hS (by omega)
    simp only [List.length_nil, Nat.zero_add] at hp
    split
    · rename_i ho
      simp only [ofOk, Bool.and_eq_true, decide_eq_true_eq] at ho
      have := canonL_len (L := p.1) (n := p.2) (by omega) ho.1.1 (by omega)
      show (canonL p.1 p.2).length ≤ _
      omega
    · simp
theorem quad07_len {most : Int} {l : List RC} (hm : most ≤ 1000000) : (quad07 most l).1.length ≤ 1400000000 := by
  unfold quad07
  split
  · simp
  · rename_i hg
    have h1 : (l.length : Int) ≤ most := by
      simp only [greatB, Bool.or_eq_true, not_or, decide_eq_true_eq] at hg
      omega
    split
    · have := of07_len (l.map RC.cl) (by simp; omega)
      simp only [List.length_map] at this
      show (of07 (l.map RC.cl)).1.length ≤ _
      omega
    · simp
theorem quad07_ok {most : Int} {l : List RC} : qrightB (quad07 most l).1 = true := by
  unfold quad07
  split
  · rfl
  · split
    · exact quad07_right (most := most)
    · rfl
/-! ### How the texts begin -/
theorem fold_pre {α : Type} (f : List UInt8 → α → List UInt8) (hf : ∀ s a, ∃ t, f s a = s ++ t) : ∀ (l : List α) (s : List UInt8), ∃ t, l.foldl f s = s ++ t
  | [], s => ⟨[], by simp⟩
  | a :: l, s => by
    obtain ⟨t, ht⟩ := hf s a
    obtain ⟨u, hu⟩ := fold_pre f hf l (f s a)
    exact ⟨t ++ u, by rw [List.foldl_cons, hu, ht, List.append_assoc]⟩
theorem of_plain (rule : List UInt8) (rows : List (List UInt8)) : ofL (plainT rule rows) = 1 := by
  obtain ⟨t, ht⟩ := fold_pre (fun s r => s ++ rowT 79 r ++ [10]) (fun s a => ⟨rowT 79 a ++ [10], by rw [List.append_assoc]⟩) rows (plainHead rule)
  unfold plainT
  rw [ht]
  unfold plainHead
  simp [ofL, List.isPrefixOf, headL]
theorem of_life5 (rule : List UInt8) (L : List Nd) (rows : List (List UInt8)) : ofL (life5R (life5S rule L) rows) = 2 := by
  obtain ⟨t, ht⟩ := fold_pre (fun s r => s ++ row5 r ++ [10]) (fun s a => ⟨row5 a ++ [10], by rw [List.append_assoc]⟩) rows (life5S rule L)
  have h2 : ∃ u, life5S rule L = [35, 76, 105, 102, 101, 32, 49, 46, 48, 53] ++ u := by
    unfold life5S
    split
    · unfold life5Head; exact ⟨[10, 35, 82, 32] ++ rule ++ [10], by simp⟩
    · unfold life5Head; exact ⟨[10, 35, 82, 32] ++ rule ++ [10] ++ [35, 80, 32] ++ decZ (bx L bxX) ++ [32] ++ decZ (bx L bxY) ++ [10], by simp⟩
  obtain ⟨u, hu⟩ := h2
  unfold life5R
  rw [ht, hu]
  simp [ofL, List.isPrefixOf]
theorem of_life6 (rule : List UInt8) (L : List Nd) : ofL (life6T rule L) = 3 := by
  unfold life6T life6R
  obtain ⟨t, ht⟩ := fold_pre (fun s (c : Cl) => s ++ decZ c.x ++ [32] ++ decZ c.y ++ [10]) (fun s c => ⟨decZ c.x ++ [32] ++ decZ c.y ++ [10], by simp⟩) (listO L 1000000).1 (life6Head rule)
  rw [ht]
  unfold life6Head
  simp [ofL, List.isPrefixOf]
theorem of_rle (rule : List UInt8) (L : List Nd) : ofL (rleT rule L) = 4 := by
  unfold rleT rleHead
  simp [ofL, List.isPrefixOf, headL]
theorem of_tree (rule : List UInt8) (L : List Nd) : ofL (treeTx rule L) = 5 := by
  unfold treeTx treeR
  obtain ⟨t, ht⟩ := fold_pre (fun s (r : List UInt8) => s ++ r ++ [10]) (fun s a => ⟨a ++ [10], by rw [List.append_assoc]⟩) (linesL L) (treeHead rule)
  rw [ht]
  unfold treeHead
  simp [ofL, List.isPrefixOf]
theorem patC_len (rule : List UInt8) (L : List Nd) : (patC rule L).length = 2 := rfl
theorem written_ok (rule : List UInt8) (l : List RC) (H : AHeap) (hr : rule.length < 1152921504606846976) (hll : l.length < 1152921504606846976) (hl : ∀ r ∈ l, r.lim) :
    Sh.gliderlaw20_SniffWritten (.str rule) (.sl (enL cRC l) .no) H = some (.ret (.bool true), H) := by
  unfold Sh.gliderlaw20_SniffWritten
  have hbl : buildA (some [(.int .i64 0), (.int .i64 0)]) [(0, 1, (.int .i64 60)), (1, 1, (.int .i64 100000))] = some (.agg (limC 60 100000)) := by simp [buildA, fillA, putN, limC]
  have hal : allocA (some [(.int .i64 0), (.int .i64 0)]) H = some (.ptr H.length 0 0, H ++ [.cel 0 [.int .i64 0, .int .i64 0]]) := alloc_eq rfl
  have hst : storeA 2 (.ptr H.length 0 0) (.agg (limC 60 100000)) (H ++ [.cel 0 [.int .i64 0, .int .i64 0]]) = some (H ++ [.cel 0 (limC 60 100000)]) := by
    rw [store_app0, store_all (cs := [.int .i64 0, .int .i64 0]) (sz := 2) (vs := limC 60 100000) (acells_agg rfl) rfl rfl]; rfl
  have hof := fun H => q11_of rule l .no 30 H hr (by omega) hll hl
  have hq := quad07_len (most := 30) (l := l) (by omega)
  have hqr := quad07_ok (most := 30) (l := l)
  generalize quad07 30 l = Q at hof hq hqr
  obtain ⟨Q, ok⟩ := Q
  dsimp only at hof hq hqr
  simp only [GMb, joinPt, decide_true, decide_false, if_true, if_false, alive_ok, hbl, hal, hst, hof, extract_0, extract_1]
  generalize hB : H ++ [Blk.cel 0 (limC 60 100000)] = B
  have hal2 : allocA (some [(.str []), (.sl [] .tight)]) B = some (.ptr B.length 0 0, B ++ [.cel 0 [.str [], .sl [] .tight]]) := alloc_eq rfl
  have hst2 : storeA 2 (.ptr B.length 0 0) (pat rule Q) (B ++ [.cel 0 [.str [], .sl [] .tight]]) = some (B ++ [.cel 0 (patC rule Q)]) := by
    unfold pat
    rw [store_app0, store_all (cs := [.str [], .sl [] .tight]) (sz := 2) (vs := patC rule Q) (acells_agg rfl) rfl rfl]; rfl
  have hend : ∀ b : Bool, rP H (.bool b) (B ++ [.cel 0 (patC rule Q)]) = some (.ret (.bool b), H) := fun b => by
    rw [← hB, List.append_assoc]; exact rP_bool
  simp only [GMb, joinPt, decide_true, decide_false, if_true, if_false, hal2, hst2]
  have big : ∀ b, b = (ok && ruleB rule) → (b = false ∨ ¬ rule.length > 100 ∨ rule.length > 100) := fun b _ => by omega
  cases hb : ok && ruleB rule with
  | false =>
    simp only [GMb, joinPt, decide_true, decide_false, if_true, if_false]
    exact hend true
  | true =>
    by_cases h100 : (rule.length : Int) > 100
    · simp only [GMb, joinPt, decide_true, decide_false, if_true, if_false, len_str, h100]
      exact hend true
    · rw [Bool.and_eq_true] at hb
      have hrl : rule.length < 35184372088832 := by omega
      have l1 : loadA true 2 (.ptr B.length 0 0) (B ++ [.cel 0 (patC rule Q)]) = some (pat rule Q) := load_patP last_cel
      have l2 : loadA true 2 (.ptr H.length 0 0) (B ++ [.cel 0 (patC rule Q)]) = some (.agg (limC 60 100000)) := by
        have : (B ++ [Blk.cel 0 (patC rule Q)])[H.length]? = some (.cel 0 (limC 60 100000)) := get_left (by rw [← hB]; exact last_cel)
        simp only [loadA, get_cel this, Option.bind_some]; rfl
      have t1 := fun H => q12_plain rule Q 60 100000 H (by omega) (by omega) (by omega) (by omega)
      have t2 := fun H => q12_life5 rule Q 60 100000 H hrl (by omega) (by omega) (by omega)
      have t3 := fun H => q12_life6 rule Q 60 100000 H hrl (by omega) (by omega) (by omega)
      have t4 := fun H => q13_text rule Q 60 100000 H hrl (by omega) (by omega) (by omega)
      have t5 := fun H => q14_text rule Q H hrl (by omega)
      rw [hb.2, hqr] at t5
      simp only [Bool.and_self, if_true] at t5
      have g1 := of_plain rule (rowsO Q)
      have g2 := of_life5 rule Q (rowsO Q)
      have g3 := of_life6 rule Q
      have g4 := of_rle rule Q
      have g5 := of_tree rule Q
      generalize plainT rule (rowsO Q) = T1 at t1 g1
      generalize life5R (life5S rule Q) (rowsO Q) = T2 at t2 g2
      generalize life6T rule Q = T3 at t3 g3
      generalize rleT rule Q = T4 at t4 g4
      generalize treeTx rule Q = T5 at t5 g5
      generalize checkE 1 rule Q 60 100000 = e1 at t1
      generalize checkE 2 rule Q 60 100000 = e2 at t2
      generalize checkE 3 rule Q 60 100000 = e3 at t3
      generalize checkE 4 rule Q 60 100000 = e4 at t4
      have u1 : ∃ s, (∀ H, Sh.gliderref12_Plain (pat rule Q) (.agg (limC 60 100000)) H = some (.ret (.tup [.str s, .int .i64 e1]), H)) ∧ (e1 = 0 → ofL s = 1) := by
        by_cases h : e1 = 0
        · exact ⟨T1, fun H => by rw [t1, if_pos h, h], fun _ => g1⟩
        · exact ⟨[], fun H => by rw [t1, if_neg h], fun h' => absurd h' h⟩
      have u2 : ∃ s, (∀ H, Sh.gliderref12_Life5 (pat rule Q) (.agg (limC 60 100000)) H = some (.ret (.tup [.str s, .int .i64 e2]), H)) ∧ (e2 = 0 → ofL s = 2) := by
        by_cases h : e2 = 0
        · exact ⟨T2, fun H => by rw [t2, if_pos h, h], fun _ => g2⟩
        · exact ⟨[], fun H => by rw [t2, if_neg h], fun h' => absurd h' h⟩
      have u3 : ∃ s, (∀ H, Sh.gliderref12_Life6 (pat rule Q) (.agg (limC 60 100000)) H = some (.ret (.tup [.str s, .int .i64 e3]), H)) ∧ (e3 = 0 → ofL s = 3) := by
        by_cases h : e3 = 0
        · exact ⟨T3, fun H => by rw [t3, if_pos h, h], fun _ => g3⟩
        · exact ⟨[], fun H => by rw [t3, if_neg h], fun h' => absurd h' h⟩
      have u4 : ∃ s, (∀ H, Sh.gliderref13_Text (pat rule Q) (.agg (limC 60 100000)) H = some (.ret (.tup [.str s, .int .i64 e4]), H)) ∧ (e4 = 0 → ofL s = 4) := by
        by_cases h : e4 = 0
        · exact ⟨T4, fun H => by rw [t4, if_pos h, h], fun _ => g4⟩
        · exact ⟨[], fun H => by rw [t4, if_neg h], fun h' => absurd h' h⟩
      clear t1 t2 t3 t4 g1 g2 g3 g4
      obtain ⟨s1, u1, w1⟩ := u1
      obtain ⟨s2, u2, w2⟩ := u2
      obtain ⟨s3, u3, w3⟩ := u3
      obtain ⟨s4, u4, w4⟩ := u4
      simp only [GMb, joinPt, decide_true, decide_false, if_true, if_false, len_str, h100, l1, l2, u1, u2, u3, u4, t5, extract_0, extract_1]
      by_cases h1 : e1 = 0 <;> by_cases h2 : e2 = 0 <;> by_cases h3 : e3 = 0 <;> by_cases h4 : e4 = 0 <;>
        (simp only [h1, h2, h3, h4, w1, w2, w3, w4, GMb, joinPt, decide_true, decide_false, if_true, if_false, of_ok, g5]; exact hend true)
end Go.Gm
/- From a function's form to a law's statement. -/
namespace Go.Gm
open Go.ChangeShapes Go.WideShapes Go.ChangeAt Go.RowKit
set_option linter.unusedVariables false
/-- The start: all that is there is fixed. -/
def Env0 (W : World) : Env := ⟨fun _ _ => none, fun _ _ => none, fun b o => W.cell? ⟨b, o, none⟩⟩
theorem sim0 (W : World) : Sim (Env0 W) [] W :=
  ⟨fun id B h => (by simp at h), fun id g b h => (by cases h), fun id g b h => (by cases h), fun id B n h => (by simp at h), fun id id' b h => (by simp [loc] at h), fun b o v h => h⟩
theorem step_below {E0 : Env} {w0 : World} {E : Env} {H : AHeap} {w : World} (h : Step E0 [] w0 E H w) : Below w0.heap.size w0 w :=
  ⟨h.os, h.tape, h.output, h.size, fun k hk => h.frame k hk (fun ⟨i, hi⟩ => by simp [loc] at hi)⟩
/-- A law that comes to true. -/
theorem calls_law {P : Program} {G : Glob} {g : FuncId} {F : List AVal → AHeap → Out} (hF : FnOk P G g F) {fn : Func} (hf : P.funcs[g]? = some fn) (hb : fn.body.isNone = false) (hn : (fn.name == "runtime.NumGoroutine") = false)
    {W : World} (hG : GlobOk G (Env0 W)) {args : List AVal} {vs : Array Value} (hv : VRels (Env0 W) args vs.toList) (h : F args [] = some (.ret (.bool true), [])) :
    Calls P g vs W fun e W' => e = .returned (.bool true) ∧ Below W.heap.size W W' := by
  rcases hF args [] _ _ h (Env0 W) W vs hG (sim0 W) hv with ⟨_, h1⟩ | ⟨v, w', h1, _⟩
  · refine h1.mono fun e W' ⟨E', h2, _, h3⟩ => ⟨?_, step_below h3⟩
    cases e with
    | returned v => rw [VRel.bool_inv h2]
    | panicked c => exact h2.elim
    | outgrown => exact h2.elim
  · rw [enter_run hf hb hn] at h1; cases h1
section
variable {H : Type} {enc : TypeId × Value → H} {P : Program}
theorem trodAll_below (hl : laidOutB P = true) {W W' : World} (hb : Below W.heap.size W W') {sp : Nat → Bool} : ∀ {ts : List TypeId} {vs : List Value} {ds : List (DataW H)} {ps : List MemPlace},
    (ts.all fun t => P.readableRec t && decide (t < P.types.size)) = true → DataW.TrodAll enc P W 0 (fun _ => true) true ts vs ds ps → (∀ x ∈ ps, x.block < W.heap.size) → (∀ x ∈ ps, sp x.block = true) → DataW.TrodAll enc P W' 0 sp true ts vs ds ps
  | [], _, _, _, _, h, _, _ => by
    obtain ⟨rfl, rfl, rfl⟩ := trodAll_nil h
    exact trodAll_mk0
  | t :: ts, _, _, _, ht, h, hlt, hsp => by
    obtain ⟨v, vs1, d, ds1, a, b, rfl, rfl, rfl, h1, h2⟩ := trodAll_cons h
    simp only [List.all_cons, Bool.and_eq_true, decide_eq_true_eq] at ht
    exact trodAll_cons_mk (WideElems.Trod_stays hl ht.1.1 ht.1.2 h1 (fun x hx => hb.same (hlt x (by simp [hx]))) (fun x hx => hsp x (by simp [hx])))
      (trodAll_below hl hb (by simpa using ht.2) h2 (fun x hx => hlt x (by simp [hx])) (fun x hx => hsp x (by simp [hx])))
theorem post_law {f : Func} {s : ChangeSpec} {W W' : World} {args : Array Value} {ds gs : List (DataW H)} {before : List MemPlace} (hW : DataW.Whole enc P f.params.toList s.vars false W args.toList ds gs before)
    (hl : laidOutB P = true) (hr : (f.params.toList.all fun t => P.readableRec t && decide (t < P.types.size)) = true) (hB : Below W.heap.size W W') (hvars : s.vars = []) {tb : TypeId} (hrt : f.resultTypes = #[tb]) (hbool : P.underlying tb = some .bool)
    (hres : (s.fn H (ds ++ gs)).results = [.lit (.bool true)]) (hargs : (s.fn H (ds ++ gs)).args = ds) (hvs : (s.fn H (ds ++ gs)).vars = []) : s.post enc P f false true false false W args (.bool true) W' := by
  have hold : ∀ p ∈ before, (fun b => decide (b < W.heap.size)) p.block = true := fun p hp => by simpa using hW.lt p hp
  have hlt := hW.lt
  have hW' := hW
  obtain ⟨p, q, hA, hV, hpq, hz, hn⟩ := hW
  rw [hvars] at hV
  obtain ⟨rfl, rfl⟩ := trodVars_none hV
  have hpq' : before = p := by rw [hpq]; simp
  subst hpq'
  have ha : ∀ sp : Nat → Bool, (∀ x ∈ before, sp x.block = true) → DataW.TrodAll enc P W' 0 sp true f.params.toList args.toList (s.fn H (ds ++ [])).args before := fun sp hsp => by
    rw [hargs]; exact trodAll_below hl hB hr hA hlt hsp
  have hr' : ∀ (b : Nat) (sp : Nat → Bool) (hd : Bool), DataW.TrodAll enc P W' b sp hd f.resultTypes.toList ((Value.bool true).resultList f.resultTypes.size) (s.fn H (ds ++ [])).results [] := fun b sp hd => by
    rw [hres, hrt]
    exact trodAll_cons_mk (shut_bool hbool _) trodAll_mk0
  have hv' : ∀ sp : Nat → Bool, DataW.TrodVars enc P W' sp s.vars (s.fn H (ds ++ [])).vars [] := fun sp => by rw [hvars, hvs]; rfl
  refine ⟨ds, [], before, [], before, [], hW', hr' _ _ _, ha _ hold, hv' _, World.keptBut_mono (fun p hp => hp) (hB.frame _), fun _ => ?_⟩
  refine ⟨ok_one hrt rfl (okWide_bool_mk hbool _), _, _, ([] ++ before) ++ [], ⟨[] ++ before, [], trodAll_append (ha _ (fun _ _ => rfl)) (hr' _ _ _), hv' _, rfl, ?_, ?_⟩, ?_⟩
  · intro b off hp
    have hp' : MemPlace.cell b off ∈ before := by simpa using hp
    rw [hB.frozen (hlt _ hp')]
    exact hz b off hp'
  · intro h; cases h
  · intro p hp _
    simpa using hp
end
end Go.Gm
/- Arguments: what the reading of an input says of it, as values of the machine. -/
namespace Go.Gm
set_option linter.unusedVariables false
set_option linter.unusedSimpArgs false
/-- The cells of a value of a type: numbers, truths, texts, rows, structs and arrays of such. -/
def Shp (P : Program) : Nat → TypeId → List AVal → Prop
  | 0, _, _ => False
  | f + 1, t, vas => match P.underlying t with
    | some .bool => ∃ b, vas = [.bool b]
    | some (.int k) => ∃ n, vas = [.int k n] ∧ (Lit.int k n).wf = true
    | some .string => ∃ s, vas = [.str s] ∧ s.length ≤ maxLen
    | some (.slice e) => ∃ es, vas = [.sl es .no] ∧ es.length ≤ maxLen ∧ ∀ x ∈ es, Shp P f e x
    | some (.struct fs) => ∃ ps : List (List AVal), vas = ps.flatten ∧ ps.length = fs.toList.length ∧ ∀ (i : Nat) (fd : Field) (p : List AVal), fs.toList[i]? = some fd → ps[i]? = some p → Shp P f fd.type p
    | some (.array n e) => ∃ ps : List (List AVal), vas = ps.flatten ∧ ps.length = n ∧ ∀ p ∈ ps, Shp P f e p
    | _ => False
/-- Fields lie one behind the other. -/
def layF (P : Program) (total : Nat) : List Field → Nat → Bool
  | [], off => off == total
  | f :: r, off => f.offset == off && layF P total r (off + P.cellsOf f.type)
def supp (P : Program) : Nat → TypeId → Bool
  | 0, _ => false
  | f + 1, t => match P.underlying t with
    | some .bool => true
    | some (.int _) => true
    | some .string => true
    | some (.slice e) => decide (0 < P.cellsOf e) && supp P f e
    | some (.struct fs) => layF P (P.cellsOf t) fs.toList 0 && fs.toList.all fun fd => supp P f fd.type
    | some (.array n e) => decide (P.cellsOf t = n * P.cellsOf e) && supp P f e
    | _ => false
theorem mapM_mem {α β : Type} {f : α → Option β} : ∀ {l : List α} {r : List β}, l.mapM f = some r → ∀ a ∈ l, ∃ b, f a = some b
  | [], _, _, a, ha => by cases ha
  | x :: l, r, h, a, ha => by
    rw [List.mapM_cons] at h
    cases hx : f x with
    | none => simp [hx] at h
    | some b =>
      cases hl : l.mapM f with
      | none => simp [hx, hl] at h
      | some bs =>
        rcases List.mem_cons.1 ha with rfl | ha
        · exact ⟨b, hx⟩
        · exact mapM_mem hl a ha
theorem mapM_get {α β : Type} {f : α → Option β} : ∀ {l : List α} {r : List β}, l.mapM f = some r → r.length = l.length ∧ ∀ (i : Nat) (a : α), l[i]? = some a → r[i]? = f a
  | [], r, h => by
    have : r = [] := by simpa using h.symm
    subst this
    exact ⟨rfl, fun i a ha => by simp at ha⟩
  | x :: l, r, h => by
    rw [List.mapM_cons] at h
    cases hx : f x with
    | none => simp [hx] at h
    | some b =>
      cases hl : l.mapM f with
      | none => simp [hx, hl] at h
      | some bs =>
        have : r = b :: bs := by simpa [hx, hl] using h.symm
        subst this
        obtain ⟨h1, h2⟩ := mapM_get hl
        refine ⟨by simp [h1], fun i a ha => ?_⟩
        cases i with
        | zero => simp at ha; subst ha; simp [hx]
        | succ i => simp at ha ⊢; exact h2 i a ha
theorem Env0_I (W : World) (b o : Nat) : (Env0 W).I b o = W.cell? ⟨b, o, none⟩ := rfl
section
variable {H : Type} {enc : TypeId × Value → H} {P : Program} {w : World} {base : Nat} {spare : Nat → Bool} {held : Bool}
def OpenAt (enc : TypeId × Value → H) (P : Program) (w : World) (base : Nat) (spare : Nat → Bool) (held : Bool) (f fuel : Nat) : Prop :=
  ∀ (t : TypeId) (cs : List Value) (x : DataW H × List MemPlace), supp P f t = true → DataW.trod enc P w base spare held fuel t cs = some x → ∃ vas, VRels (Env0 w) vas cs ∧ (∀ c ∈ vas, isImm c = true) ∧ Shp P f t vas
theorem open_fields {f fuel : Nat} (ih : OpenAt enc P w base spare held f fuel) (cs : List Value) : ∀ (fs : List Field) (off : Nat) (r : List (DataW H × List MemPlace)), layF P cs.length fs off = true → (fs.all fun fd => supp P f fd.type) = true →
    (fs.mapM fun fd => DataW.trod enc P w base spare held fuel fd.type ((cs.drop fd.offset).take (P.cellsOf fd.type))) = some r → (∀ fd ∈ fs, ∀ (c : List Value) (x : DataW H × List MemPlace), DataW.trod enc P w base spare held fuel fd.type c = some x → True) →
    ∃ ps : List (List AVal), VRels (Env0 w) ps.flatten (cs.drop off) ∧ (∀ c ∈ ps.flatten, isImm c = true) ∧ ps.length = fs.length ∧ ∀ (i : Nat) (fd : Field) (p : List AVal), fs[i]? = some fd → ps[i]? = some p → Shp P f fd.type p
  | [], off, r, hlay, _, _, _ => by
    have : off = cs.length := by simpa [layF] using hlay
    subst this
    exact ⟨[], by simpa using VRels.nil _, fun c hc => by simp at hc, rfl, fun i fd p h => by simp at h⟩
  | fd :: fs, off, r, hlay, hs, hm, ht => by
    simp only [layF, Bool.and_eq_true, beq_iff_eq] at hlay
    obtain ⟨ho, hlay⟩ := hlay
    simp only [List.all_cons, Bool.and_eq_true] at hs
    rw [List.mapM_cons] at hm
    cases hx : DataW.trod enc P w base spare held fuel fd.type ((cs.drop fd.offset).take (P.cellsOf fd.type)) with
    | none => simp [hx] at hm
    | some x =>
      cases hl : fs.mapM fun fd => DataW.trod enc P w base spare held fuel fd.type ((cs.drop fd.offset).take (P.cellsOf fd.type)) with
      | none => simp [hx, hl] at hm
      | some xs =>
        obtain ⟨vas, a1, a2, a3⟩ := ih fd.type _ x hs.1 hx
        obtain ⟨ps, b1, b2, b3, b4⟩ := open_fields ih cs fs (off + P.cellsOf fd.type) xs hlay hs.2 hl (fun _ _ _ _ _ => trivial)
        refine ⟨vas :: ps, ?_, fun c hc => ?_, by simp [b3], fun i fd' p h1 h2 => ?_⟩
        · rw [List.flatten_cons]
          have e : cs.drop off = (cs.drop off).take (P.cellsOf fd.type) ++ cs.drop (off + P.cellsOf fd.type) := by
            rw [← List.drop_drop]; exact (List.take_append_drop _ _).symm
          rw [e]
          rw [ho] at a1
          exact a1.append b1
        · rw [List.flatten_cons] at hc
          rcases List.mem_append.1 hc with hc | hc
          · exact a2 c hc
          · exact b2 c hc
        · cases i with
          | zero => simp at h1 h2; subst h1; subst h2; exact a3
          | succ i => exact b4 i fd' p (by simpa using h1) (by simpa using h2)
theorem open_array {f fuel : Nat} (ih : OpenAt enc P w base spare held f fuel) {e : TypeId} (hs : supp P f e = true) (cs : List Value) : ∀ (d i n : Nat), i + d = n → cs.length = n * P.cellsOf e →
    (∀ j, j < n → ∃ x, DataW.trod enc P w base spare held fuel e ((cs.drop (j * P.cellsOf e)).take (P.cellsOf e)) = some x) →
    ∃ ps : List (List AVal), VRels (Env0 w) ps.flatten (cs.drop (i * P.cellsOf e)) ∧ (∀ c ∈ ps.flatten, isImm c = true) ∧ ps.length = d ∧ ∀ p ∈ ps, Shp P f e p
  | 0, i, n, hi, hl, _ => by
    have : cs.drop (i * P.cellsOf e) = [] := List.drop_of_length_le (by rw [hl, show i = n by omega]; exact Nat.le_refl _)
    rw [this]
    exact ⟨[], VRels.nil _, fun c hc => by simp at hc, rfl, fun p h => by simp at h⟩
  | d + 1, i, n, hi, hl, hm => by
    obtain ⟨x, hx⟩ := hm i (by omega)
    obtain ⟨vas, a1, a2, a3⟩ := ih e _ x hs hx
    obtain ⟨ps, b1, b2, b3, b4⟩ := open_array ih hs cs d (i + 1) n (by omega) hl hm
    refine ⟨vas :: ps, ?_, fun c hc => ?_, by simp [b3], fun p hp => ?_⟩
    · rw [List.flatten_cons]
      have e' : cs.drop (i * P.cellsOf e) = (cs.drop (i * P.cellsOf e)).take (P.cellsOf e) ++ cs.drop ((i + 1) * P.cellsOf e) := by
        rw [Nat.succ_mul, ← List.drop_drop]; exact (List.take_append_drop _ _).symm
      rw [e']
      exact a1.append b1
    · rw [List.flatten_cons] at hc
      rcases List.mem_append.1 hc with hc | hc
      · exact a2 c hc
      · exact b2 c hc
    · rcases List.mem_cons.1 hp with rfl | hp
      · exact a3
      · exact b4 p hp
theorem cells_row {a : Addr} {n : Nat} {r : List Value} (h : w.cells? base a n = some r) : r.length = n ∧ ∀ j, j < n → w.cell? (a.add j) = r[j]? := by
  unfold World.cells? at h
  split at h
  · obtain ⟨h1, h2⟩ := mapM_get h
    refine ⟨by simpa using h1, fun j hj => (h2 j j (List.getElem?_range hj)).symm⟩
  · cases h
theorem open_row {f fuel : Nat} (ih : OpenAt enc P w base spare held f fuel) {e : TypeId} (hpos : 0 < P.cellsOf e) (hs : supp P f e = true) (a : Addr) (len cap : Nat) (hc : len ≤ cap)
    (hm : ∀ i, i < len → ∃ x, (w.cells? base (a.add (i * P.cellsOf e)) (P.cellsOf e)).bind (DataW.trod enc P w base spare held fuel e) = some x) :
    ∃ es tk, VRel (Env0 w) (.sl es tk) (.slice (some a) len cap) ∧ (tk = .no) ∧ es.length = len ∧ ∀ x ∈ es, Shp P f e x := by
  by_cases h0 : len = 0
  · subst h0
    exact ⟨[], .no, .sl0 trivial (fun h => by cases h), rfl, rfl, fun x hx => by cases hx⟩
  · have each : ∀ i, ∃ vas : List AVal, i < len → ∃ r, w.cells? base (a.add (i * P.cellsOf e)) (P.cellsOf e) = some r ∧ VRels (Env0 w) vas r ∧ (∀ c ∈ vas, isImm c = true) ∧ Shp P f e vas := by
      intro i
      by_cases hi : i < len
      · obtain ⟨x, hx⟩ := hm i hi
        cases hr : w.cells? base (a.add (i * P.cellsOf e)) (P.cellsOf e) with
        | none => simp [hr] at hx
        | some r =>
          rw [hr, Option.bind_some] at hx
          obtain ⟨vas, a1, a2, a3⟩ := ih e r x hs hx
          exact ⟨vas, fun _ => ⟨r, rfl, a1, a2, a3⟩⟩
      · exact ⟨[], fun h => absurd h hi⟩
    obtain ⟨g, hg⟩ := Classical.axiomOfChoice each
    have hg : ∀ i, i < len → ∃ r, w.cells? base (a.add (i * P.cellsOf e)) (P.cellsOf e) = some r ∧ VRels (Env0 w) (g i) r ∧ (∀ c ∈ g i, isImm c = true) ∧ Shp P f e (g i) := hg
    have hsp : a.spot = none := by
      obtain ⟨r, h1, _⟩ := hg 0 (by omega)
      obtain ⟨h2, h3⟩ := cells_row h1
      have h4 := h3 0 hpos
      have h5 : (a.add (0 * P.cellsOf e)).add 0 = a := by simp [Addr.add]
      rw [h5, List.getElem?_eq_getElem (by omega)] at h4
      unfold World.cell? at h4
      split at h4
      · split at h4
        · cases h4
        · rename_i hh; simpa using hh
      · cases h4
    obtain ⟨b, o, sp⟩ := a
    simp only at hsp
    subst hsp
    have hadd : ∀ i j, ((⟨b, o, none⟩ : Addr).add (i * P.cellsOf e)).add j = ⟨b, o + (i * P.cellsOf e + j), none⟩ := fun i j => by rw [add_plain, add_plain, Nat.add_assoc]
    refine ⟨(List.range len).map g, .no, ?_, rfl, by simp, fun x hx => ?_⟩
    · have hl : ((List.range len).map g).length = len := by simp
      have key := VRel.sl (E := Env0 w) (es := (List.range len).map g) (tk := .no) (b := b) (o := o) (s := P.cellsOf e) (cap := cap) (fun i j => (w.cell? ⟨b, o + (i * P.cellsOf e + j), none⟩).getD default)
        (fun i x hx => ?_) (fun i j hi hj => ?_) (fun i x j c hx hc => ?_) (fun i x j c hx hc => ?_) (by rw [hl]; exact hc) trivial
      · rw [hl] at key; exact key
      · have hi : i < len := by have := (List.getElem?_eq_some_iff.1 hx).1; simpa using this
        rw [List.getElem?_map, List.getElem?_range hi] at hx
        simp at hx; subst hx
        obtain ⟨r, h1, h2, _⟩ := hg i hi
        rw [h2.1, (cells_row h1).1]
      · rw [hl] at hi
        obtain ⟨r, h1, h2, _⟩ := hg i hi
        obtain ⟨h3, h4⟩ := cells_row h1
        have h5 := h4 j hj
        rw [hadd] at h5
        rw [Env0_I, h5, List.getElem?_eq_getElem (by omega)]; rfl
      · have hi : i < len := by have := (List.getElem?_eq_some_iff.1 hx).1; simpa using this
        rw [List.getElem?_map, List.getElem?_range hi] at hx
        simp at hx; subst hx
        obtain ⟨r, h1, h2, h6, _⟩ := hg i hi
        exact h6 c (List.mem_of_getElem? hc)
      · have hi : i < len := by have := (List.getElem?_eq_some_iff.1 hx).1; simpa using this
        rw [List.getElem?_map, List.getElem?_range hi] at hx
        simp at hx; subst hx
        obtain ⟨r, h1, h2, h6, _⟩ := hg i hi
        obtain ⟨h3, h4⟩ := cells_row h1
        have hj : j < P.cellsOf e := by have := (List.getElem?_eq_some_iff.1 hc).1; rw [h2.1, h3] at this; exact this
        have h5 := h4 j hj
        rw [hadd] at h5
        refine h2.2 j c _ hc ?_
        rw [← h5, h5, List.getElem?_eq_getElem (by omega)]; rfl
    · simp only [List.mem_map, List.mem_range] at hx
      obtain ⟨i, hi, rfl⟩ := hx
      obtain ⟨r, _, _, _, h7⟩ := hg i hi
      exact h7
theorem one_rel {E : Env} {x : AVal} {v : Value} (h : VRel E x v) : VRels E [x] [v] := .cons h (.nil _)
theorem trod_open : ∀ (f fuel : Nat), OpenAt enc P w base spare held f fuel
  | 0, _ => fun t cs x hs _ => by simp [supp] at hs
  | _ + 1, 0 => fun t cs x _ h => by simp [DataW.trod] at h
  | f + 1, fuel + 1 => fun t cs x hs h => by
    have ih := trod_open f fuel
    unfold supp at hs
    unfold Shp
    cases hu : P.underlying t with
    | none => rw [hu] at hs; cases hs
    | some td =>
      rw [hu] at hs
      unfold DataW.trod at h
      rw [hu] at h
      cases td with
      | bool =>
        simp only at h
        split at h
        all_goals first | (rename_i hq; cases hq; done) | skip
        all_goals first | (cases h; done) | skip
        · rename_i b hq
          exact ⟨[.bool b], one_rel (.bool b), fun c hc => by simp at hc; subst hc; rfl, b, rfl⟩
      | int k =>
        simp only at h
        split at h
        all_goals first | (rename_i hq; cases hq; done) | skip
        all_goals first | (cases h; done) | skip
        · rename_i k2 k' n heq
          cases heq
          split at h
          · rename_i hc
            obtain ⟨rfl, hw⟩ := hc
            exact ⟨[.int _ _], one_rel (.int _ _), fun c hc => by simp at hc; subst hc; rfl, _, rfl, hw⟩
          · cases h
      | string =>
        simp only at h
        split at h
        all_goals first | (rename_i hq; cases hq; done) | skip
        all_goals first | (cases h; done) | skip
        · rename_i s heq
          split at h
          · rename_i hc
            have e : VRel (Env0 w) (.str s.data.toList) (.string s) := by
              have e : s = ⟨s.data.toList.toArray⟩ := by cases s; simp
              rw [e]; exact .str _
            refine ⟨[.str s.data.toList], one_rel e, fun c hc => by simp at hc; subst hc; rfl, _, rfl, hc⟩
          · cases h
      | slice e =>
        simp only [Bool.and_eq_true, decide_eq_true_eq] at hs
        simp only at h
        split at h
        all_goals first | (rename_i hq; cases hq; done) | skip
        all_goals first | (cases h; done) | skip
        · exact ⟨[.sl [] .no], one_rel (.sl0 trivial (fun _ => rfl)), fun c hc => by simp at hc; subst hc; rfl, [], rfl, Nat.zero_le _, fun x hx => by cases hx⟩
        · rename_i e2 a len cap heq
          cases heq
          split at h
          · rename_i hc
            obtain ⟨h1, h2, h3⟩ := hc
            cases hm : (List.range len).mapM fun i => (w.cells? base (a.add (i * P.cellsOf e)) (P.cellsOf e)).bind (DataW.trod enc P w base spare held fuel e) with
            | none => rw [hm] at h; cases h
            | some elems =>
              obtain ⟨es, tk, k1, rfl, k2, k3⟩ := open_row ih hs.1 hs.2 a len cap h2 (fun i hi => mapM_mem hm i (by simpa using hi))
              exact ⟨[.sl es .no], one_rel k1, fun c hc => by simp at hc; subst hc; rfl, es, rfl, by omega, k3⟩
          · cases h
      | struct fs =>
        simp only [Bool.and_eq_true] at hs
        simp only at h
        split at h
        · rename_i hc
          cases hm : fs.toList.mapM fun fd => DataW.trod enc P w base spare held fuel fd.type ((cs.drop fd.offset).take (P.cellsOf fd.type)) with
          | none => rw [hm] at h; cases h
          | some xs =>
            obtain ⟨ps, b1, b2, b3, b4⟩ := open_fields ih cs fs.toList 0 xs (by rw [hc]; exact hs.1) hs.2 hm (fun _ _ _ _ _ => trivial)
            exact ⟨ps.flatten, by simpa using b1, b2, ps, rfl, b3, b4⟩
        · cases h
      | array n e =>
        simp only [Bool.and_eq_true, decide_eq_true_eq] at hs
        simp only at h
        split at h
        · rename_i hc
          cases hm : (List.range n).mapM fun i => DataW.trod enc P w base spare held fuel e ((cs.drop (i * P.cellsOf e)).take (P.cellsOf e)) with
          | none => rw [hm] at h; cases h
          | some xs =>
            obtain ⟨ps, b1, b2, b3, b4⟩ := open_array ih hs.2 cs n 0 n (by omega) (by rw [hc]; exact hs.1) (fun j hj => mapM_mem hm j (by simpa using hj))
            exact ⟨ps.flatten, by simpa using b1, b2, ps, rfl, b3, b4⟩
        · cases h
      | _ => cases hs
theorem arg_one {r : Reach} {b0 f : Nat} {t : TypeId} {v : Value} {d : DataW H} {ps : List MemPlace} (hs : supp P f t = true) (hval : Value.okWide P w r b0 t v) (hd : DataW.Trod enc P w base spare held t v d ps)
    (hu : (match P.underlying t with | some (.slice _) => true | some (.int _) => true | some .string => true | some .bool => true | _ => false) = true) : ∃ x, VRel (Env0 w) x v ∧ Shp P f t [x] := by
  obtain ⟨fuel, hf⟩ := hd
  have hc : v.cells.toList = [v] := by
    unfold Value.okWide Cell.okWide Cell.ok at hval
    cases hx : P.underlying t with
    | none => rw [hx] at hu; cases hu
    | some td =>
      rw [hx] at hu hval
      cases td <;> first | (cases hu; done) | skip
      all_goals (cases v <;> first | (simp [Value.cells]; done) | (simp at hval; done) | (exact hval.elim; done))
  rw [hc] at hf
  obtain ⟨vas, a1, a2, a3⟩ := trod_open f fuel t [v] _ hs hf
  have hl := a1.1
  match vas, hl with
  | [x], _ => exact ⟨x, a1.2 0 x v rfl rfl, a3⟩
theorem arg_agg {r : Reach} {b0 f : Nat} {t : TypeId} {v : Value} {d : DataW H} {ps : List MemPlace} (hs : supp P f t = true) (hval : Value.okWide P w r b0 t v) (hd : DataW.Trod enc P w base spare held t v d ps)
    (hu : (match P.underlying t with | some (.struct _) => true | some (.array _ _) => true | _ => false) = true) : ∃ vas, VRel (Env0 w) (.agg vas) v ∧ Shp P f t vas := by
  obtain ⟨fuel, hf⟩ := hd
  have hc : ∃ cs, v = .agg cs := by
    unfold Value.okWide at hval
    cases hx : P.underlying t with
    | none => rw [hx] at hu; cases hu
    | some td =>
      rw [hx] at hu hval
      cases td <;> first | (cases hu; done) | skip
      all_goals (obtain ⟨cs, rfl, _⟩ := hval; exact ⟨cs, rfl⟩)
  obtain ⟨cs, rfl⟩ := hc
  obtain ⟨vas, a1, a2, a3⟩ := trod_open f fuel t _ _ hs hf
  exact ⟨vas, VRel.agg_of a1, a3⟩
/-- A row that came in: vas many elements vas its reading tells. -/
theorem arg_row {r : Reach} {b0 f : Nat} {t e : TypeId} {v : Value} {d : DataW H} {ps : List MemPlace} (hu : P.underlying t = some (.slice e)) (hs : supp P (f + 1) t = true) (hval : Value.okWide P w r b0 t v) (hd : DataW.Trod enc P w base spare held t v d ps) :
    ∃ es, VRel (Env0 w) (.sl es .no) v ∧ (∀ x ∈ es, Shp P f e x) ∧ es.length ≤ maxLen ∧ (es = [] ∨ ∃ elems spare, d = .slice elems spare ∧ elems.length = es.length) := by
  obtain ⟨x, h1, h2⟩ := arg_one hs hval hd (by rw [hu])
  unfold Shp at h2
  rw [hu] at h2
  obtain ⟨es, h3, h4, h5⟩ := h2
  injection h3 with h3 _
  subst h3
  refine ⟨es, h1, h5, h4, ?_⟩
  obtain ⟨fuel, hf⟩ := hd
  cases fuel with
  | zero => simp [DataW.trod] at hf
  | succ fuel =>
    unfold DataW.trod at hf
    rw [hu] at hf
    cases h1 with
    | sl0 _ _ => exact .inl rfl
    | sl fv hl hI hm hv hc ht =>
      rename_i b o s cap
      right
      have e1 : (Value.slice (some ⟨b, o, none⟩) es.length cap).cells.toList = [.slice (some ⟨b, o, none⟩) es.length cap] := rfl
      rw [e1] at hf
      simp only at hf
      split at hf
      · cases hm' : (List.range es.length).mapM fun i => (w.cells? base (Addr.add ⟨b, o, none⟩ (i * P.cellsOf e)) (P.cellsOf e)).bind (DataW.trod enc P w base spare held fuel e) with
        | none => rw [hm'] at hf; cases hf
        | some elems =>
          rw [hm', Option.bind_some] at hf
          obtain ⟨q1, _⟩ := mapM_get hm'
          rw [Option.map_eq_some_iff] at hf
          obtain ⟨rest, _, hf⟩ := hf
          injection hf with hf _
          exact ⟨_, _, hf.symm, by simpa using q1⟩
      · cases hf
end
end Go.Gm
/- Arguments of the laws: whole numbers, cells, as values of the machine. -/
namespace Go.Gm
set_option linter.unusedVariables false
set_option linter.unusedSimpArgs false
section
variable {P : Program} {f : Nat} {t e : TypeId} {vas : List AVal}
theorem shp_int {k : IntKind} (hu : P.underlying t = some (.int k)) (h : Shp P (f + 1) t vas) : ∃ n, vas = [.int k n] ∧ (Lit.int k n).wf = true := by
  unfold Shp at h; rw [hu] at h; exact h
theorem shp_bool (hu : P.underlying t = some .bool) (h : Shp P (f + 1) t vas) : ∃ b, vas = [.bool b] := by
  unfold Shp at h; rw [hu] at h; exact h
theorem shp_str (hu : P.underlying t = some .string) (h : Shp P (f + 1) t vas) : ∃ s, vas = [.str s] ∧ s.length ≤ maxLen := by
  unfold Shp at h; rw [hu] at h; exact h
theorem shp_sl (hu : P.underlying t = some (.slice e)) (h : Shp P (f + 1) t vas) : ∃ es, vas = [.sl es .no] ∧ es.length ≤ maxLen ∧ ∀ x ∈ es, Shp P f e x := by
  unfold Shp at h; rw [hu] at h; exact h
theorem shp_st {fs : Array Field} (hu : P.underlying t = some (.struct fs)) (h : Shp P (f + 1) t vas) : ∃ ps : List (List AVal), vas = ps.flatten ∧ ps.length = fs.toList.length ∧ ∀ (i : Nat) (fd : Field) (p : List AVal), fs.toList[i]? = some fd → ps[i]? = some p → Shp P f fd.type p := by
  unfold Shp at h; rw [hu] at h; exact h
theorem wf_b {k : IntKind} {n : Int} (h : (Lit.int k n).wf = true) : k.min ≤ n ∧ n ≤ k.max := by
  simp only [Lit.wf, Bool.and_eq_true, decide_eq_true_eq] at h; exact h
theorem wf_u32 {n : Int} (h : (Lit.int .u32 n).wf = true) : 0 ≤ n ∧ n < 4294967296 := by
  have h1 := wf_b h
  rw [show IntKind.u32.min = 0 from rfl, show IntKind.u32.max = 4294967295 from rfl] at h1
  omega
theorem wf_u8 {n : Int} (h : (Lit.int .u8 n).wf = true) : 0 ≤ n ∧ n < 256 := by
  have h1 := wf_b h
  rw [show IntKind.u8.min = 0 from rfl, show IntKind.u8.max = 255 from rfl] at h1
  omega
theorem wf_i64 {n : Int} (h : (Lit.int .i64 n).wf = true) : -9223372036854775808 ≤ n ∧ n ≤ 9223372036854775807 := by
  have h1 := wf_b h
  rw [show IntKind.i64.min = -9223372036854775808 from rfl, show IntKind.i64.max = 9223372036854775807 from rfl] at h1
  omega
/-- Elements of one shape, each told by something of ours. -/
theorem rows_of {α : Type} {g : α → List AVal} {p : α → Prop} : ∀ {es : List (List AVal)}, (∀ x ∈ es, ∃ a, x = g a ∧ p a) → ∃ l : List α, es = enL g l ∧ ∀ a ∈ l, p a
  | [], _ => ⟨[], rfl, fun a h => by cases h⟩
  | x :: es, h => by
    obtain ⟨a, rfl, ha⟩ := h x (by simp)
    obtain ⟨l, rfl, hl⟩ := rows_of (g := g) (p := p) (es := es) fun y hy => h y (by simp [hy])
    exact ⟨a :: l, rfl, fun b hb => by rcases List.mem_cons.1 hb with rfl | hb; exact ha; exact hl b hb⟩
theorem shp_limbs (h1 : P.underlying t = some (.slice e)) (h2 : P.underlying e = some (.int .u32)) (h : Shp P (f + 2) t vas) : ∃ l : List Nat, vas = [.sl (enL cU l) .no] ∧ Lim l ∧ l.length ≤ maxLen := by
  obtain ⟨es, rfl, hl, he⟩ := shp_sl h1 h
  obtain ⟨l, rfl, hp⟩ := rows_of (g := cU) (p := fun n => n < 4294967296) (es := es) fun x hx => by
    obtain ⟨n, rfl, hw⟩ := shp_int h2 (he x hx)
    obtain ⟨w1, w2⟩ := wf_u32 hw
    exact ⟨n.toNat, by show [AVal.int .u32 n] = [AVal.int .u32 (n.toNat : Int)]; rw [Int.toNat_of_nonneg w1], by omega⟩
  exact ⟨l, rfl, hp, by simpa using hl⟩
/-- What the types of whole numbers are. -/
structure BigTy (P : Program) (tb : TypeId) : Prop where
  ex : ∃ (f0 f1 : Field) (e : TypeId), P.underlying tb = some (.struct #[f0, f1]) ∧ P.underlying f0.type = some .bool ∧ P.underlying f1.type = some (.slice e) ∧ P.underlying e = some (.int .u32)
theorem shp_big {tb : TypeId} (hb : BigTy P tb) (h : Shp P (f + 3) tb vas) : ∃ n l, vas = [.bool n, .sl (enL cU l) .no] ∧ Lim l := by
  obtain ⟨f0, f1, e, h1, h2, h3, h4⟩ := hb.ex
  obtain ⟨ps, rfl, hl, hp⟩ := shp_st h1 h
  match ps, hl with
  | [p0, p1], _ =>
    obtain ⟨n, rfl⟩ := shp_bool h2 (hp 0 f0 p0 rfl rfl)
    obtain ⟨l, rfl, hlim, _⟩ := shp_limbs h3 h4 (hp 1 f1 p1 rfl rfl)
    exact ⟨n, l, rfl, hlim⟩
structure CellTy (P : Program) (tc : TypeId) : Prop where
  ex : ∃ (f0 f1 f2 : Field), P.underlying tc = some (.struct #[f0, f1, f2]) ∧ BigTy P f0.type ∧ BigTy P f1.type ∧ P.underlying f2.type = some (.int .u8)
theorem shp_cell {tc : TypeId} (hc : CellTy P tc) (h : Shp P (f + 4) tc vas) : ∃ r : RC, vas = cRC r ∧ r.lim := by
  obtain ⟨f0, f1, f2, h1, h2, h3, h4⟩ := hc.ex
  obtain ⟨ps, rfl, hl, hp⟩ := shp_st h1 h
  match ps, hl with
  | [p0, p1, p2], _ =>
    obtain ⟨n1, l1, rfl, k1⟩ := shp_big h2 (hp 0 f0 p0 rfl rfl)
    obtain ⟨n2, l2, rfl, k2⟩ := shp_big h3 (hp 1 f1 p1 rfl rfl)
    obtain ⟨s, rfl, hw⟩ := shp_int h4 (hp 2 f2 p2 rfl rfl)
    obtain ⟨w1, w2⟩ := wf_u8 hw
    refine ⟨⟨n1, l1, n2, l2, UInt8.ofNat s.toNat⟩, ?_, k1, k2⟩
    have e : ((UInt8.ofNat s.toNat).toNat : Int) = s := by
      rw [UInt8.toNat_ofNat_of_lt' (show s.toNat < 256 by omega)]; omega
    unfold cRC
    dsimp only
    rw [e]; rfl
theorem shp_cells {tc : TypeId} (hc : CellTy P tc) {es : List (List AVal)} (h : ∀ x ∈ es, Shp P (f + 4) tc x) : ∃ l : List RC, es = enL cRC l ∧ ∀ r ∈ l, r.lim :=
  rows_of fun x hx => shp_cell hc (h x hx)
end
end Go.Gm
