/- What the forms of the sniffing functions come to: names, and the format of any bytes. -/
import Derived.Test.YtenmplcmmdaibaaL1
namespace Go.Gm
set_option linter.unusedVariables false
set_option linter.unusedSimpArgs false
theorem loop_succ {G : (List AVal → AHeap → Out) → List AVal → AHeap → Out} (n : Nat) (vs : List AVal) (H : AHeap) : loopGen G (n + 1) vs H = G (loopGen G n) vs H := rfl
/-- The name of a format. -/
def nameL (n : Int) : List UInt8 :=
  if n = 1 then [112, 108, 97, 105, 110] else if n = 2 then [108, 105, 102, 101, 49, 48, 53] else if n = 3 then [108, 105, 102, 101, 49, 48, 54] else if n = 4 then [114, 108, 101] else if n = 5 then [109, 99] else []
theorem five {n : Int} (h1 : ¬ n < 1) (h2 : ¬ n > 5) : n = 1 ∨ n = 2 ∨ n = 3 ∨ n = 4 ∨ n = 5 := by omega
theorem name_ok (n : Int) (H : AHeap) : Sh.sniff_Name (.int .i64 n) H = some (.ret (.str (nameL n)), H) := by
  unfold Sh.sniff_Name nameL
  by_cases h1 : n < 1
  · simp [h1, show ¬ n = 1 from by omega, show ¬ n = 2 from by omega, show ¬ n = 3 from by omega, show ¬ n = 4 from by omega, show ¬ n = 5 from by omega]
  by_cases h2 : n > 5
  · simp [h1, h2, show ¬ n = 1 from by omega, show ¬ n = 2 from by omega, show ¬ n = 3 from by omega, show ¬ n = 4 from by omega, show ¬ n = 5 from by omega]
  rcases five h1 h2 with rfl | rfl | rfl | rfl | rfl <;> simp [names_ok, idxAgg, partA, namesV]
theorem refNames_ok (H : AHeap) : Sh.gliderref20_names H = some (.ret (.sl [[.str [112, 108, 97, 105, 110]], [.str [108, 105, 102, 101, 49, 48, 53]], [.str [108, 105, 102, 101, 49, 48, 54]], [.str [114, 108, 101]], [.str [109, 99]]] .tight), H) := by
  unfold Sh.gliderref20_names
  simp [buildSl, seqCells, AVal.acells, immC, isImm]
theorem refName_ok (n : Int) (H : AHeap) : Sh.gliderref20_Name (.int .i64 n) H = some (.ret (.str (nameL n)), H) := by
  unfold Sh.gliderref20_Name nameL
  by_cases h1 : n < 1
  · simp [h1, show ¬ n = 1 from by omega, show ¬ n = 2 from by omega, show ¬ n = 3 from by omega, show ¬ n = 4 from by omega, show ¬ n = 5 from by omega]
  by_cases h2 : n > 5
  · simp [h1, h2, show ¬ n = 1 from by omega, show ¬ n = 2 from by omega, show ¬ n = 3 from by omega, show ¬ n = 4 from by omega, show ¬ n = 5 from by omega]
  rcases five h1 h2 with rfl | rfl | rfl | rfl | rfl <;> simp [refNames_ok, wrap_i64, idxSl, loadA]
/-- The format of a name. -/
def namedL (s : List UInt8) : Int :=
  if s = [112, 108, 97, 105, 110] then 1 else if s = [108, 105, 102, 101, 49, 48, 53] then 2 else if s = [108, 105, 102, 101, 49, 48, 54] then 3 else if s = [114, 108, 101] then 4 else if s = [109, 99] then 5 else 0
theorem fuel8 : FUEL = (FUEL - 8) + 1 + 1 + 1 + 1 + 1 + 1 + 1 + 1 := by decide
theorem named_ok (s : List UInt8) (H : AHeap) : Sh.sniff_Named (.str s) H = some (.ret (.int .i64 (namedL s)), H) := by
  unfold Sh.sniff_Named namedL
  simp only [names_ok, bindK_ret]
  rw [fuel8]
  generalize FUEL - 8 = m
  by_cases h0 : s = []
  · subst h0
    simp [loop_succ, Sh.sniff_Named_l1, idxAgg, partA, namesV, wrap_i64]
  · have e0 : s.isEmpty = false := by simpa using h0
    have ec : ∀ u : List UInt8, (u == s) = (s == u) := fun u => by rw [Bool.eq_iff_iff]; simp only [beq_iff_eq]; exact eq_comm
    by_cases h1 : s = [112, 108, 97, 105, 110]
    · subst h1; simp [loop_succ, Sh.sniff_Named_l1, idxAgg, partA, namesV, wrap_i64]
    by_cases h2 : s = [108, 105, 102, 101, 49, 48, 53]
    · subst h2; simp [loop_succ, Sh.sniff_Named_l1, idxAgg, partA, namesV, wrap_i64]
    by_cases h3 : s = [108, 105, 102, 101, 49, 48, 54]
    · subst h3; simp [loop_succ, Sh.sniff_Named_l1, idxAgg, partA, namesV, wrap_i64]
    by_cases h4 : s = [114, 108, 101]
    · subst h4; simp [loop_succ, Sh.sniff_Named_l1, idxAgg, partA, namesV, wrap_i64]
    by_cases h5 : s = [109, 99]
    · subst h5; simp [loop_succ, Sh.sniff_Named_l1, idxAgg, partA, namesV, wrap_i64]
    have e : ∀ u : List UInt8, ¬ s = u → (u == s) = false := fun u h => by rw [ec]; simpa using h
    simp [loop_succ, Sh.sniff_Named_l1, idxAgg, partA, namesV, wrap_i64, e0, h1, h2, h3, h4, h5, e _ h0, e _ h1, e _ h2, e _ h3, e _ h4, e _ h5]
theorem refNamed_loop (m : Nat) (s : List UInt8) (H : AHeap) : loopGen (fun rec1 vs H1 => Sh.gliderref20_Named_l1 H rec1 (vs.getD 0 .undef) (vs.getD 1 .undef) (vs.getD 2 .undef) H1) (m + 1 + 1 + 1 + 1 + 1 + 1 + 1 + 1)
    [.str s, .sl [[.str [112, 108, 97, 105, 110]], [.str [108, 105, 102, 101, 49, 48, 53]], [.str [108, 105, 102, 101, 49, 48, 54]], [.str [114, 108, 101]], [.str [109, 99]]] .tight, .int .i64 0] H = some (.ret (.int .i64 (namedL s)), H) := by
  unfold namedL
  have ec : ∀ u : List UInt8, (u == s) = (s == u) := fun u => by rw [Bool.eq_iff_iff]; simp only [beq_iff_eq]; exact eq_comm
  by_cases h1 : s = [112, 108, 97, 105, 110]
  · subst h1; simp [loop_succ, Sh.gliderref20_Named_l1, idxSl, loadA, wrap_i64]
  by_cases h2 : s = [108, 105, 102, 101, 49, 48, 53]
  · subst h2; simp [loop_succ, Sh.gliderref20_Named_l1, idxSl, loadA, wrap_i64]
  by_cases h3 : s = [108, 105, 102, 101, 49, 48, 54]
  · subst h3; simp [loop_succ, Sh.gliderref20_Named_l1, idxSl, loadA, wrap_i64]
  by_cases h4 : s = [114, 108, 101]
  · subst h4; simp [loop_succ, Sh.gliderref20_Named_l1, idxSl, loadA, wrap_i64]
  by_cases h5 : s = [109, 99]
  · subst h5; simp [loop_succ, Sh.gliderref20_Named_l1, idxSl, loadA, wrap_i64]
  have e : ∀ u : List UInt8, ¬ s = u → (u == s) = false := fun u h => by rw [ec]; simpa using h
  simp [loop_succ, Sh.gliderref20_Named_l1, idxSl, loadA, wrap_i64, h1, h2, h3, h4, h5, e _ h1, e _ h2, e _ h3, e _ h4, e _ h5]
theorem refNamed_ok (s : List UInt8) (H : AHeap) : Sh.gliderref20_Named (.str s) H = some (.ret (.int .i64 (namedL s)), H) := by
  unfold Sh.gliderref20_Named
  simp only [refNames_ok, bindK_ret]
  rw [fuel8]
  exact refNamed_loop _ s H
/-- The first sign of bytes. -/
theorem decode_head (b : UInt8) (r : List UInt8) : (b.toNat < 128 → (Utf8.decode ⟨(b :: r).toArray⟩ 0).1 = b.toNat) ∧ (128 ≤ b.toNat → 128 ≤ (Utf8.decode ⟨(b :: r).toArray⟩ 0).1) := by
  have h0 : ((⟨(b :: r).toArray⟩ : ByteArray).get! (0 + 0)).toNat = b.toNat := rfl
  constructor
  · intro h
    unfold Utf8.decode
    simp only [h0]
    rw [if_pos h]
  · intro h
    unfold Utf8.decode
    simp only [h0]
    rw [if_neg (by omega)]
    have hr : 128 ≤ Utf8.runeError := by decide
    repeat' split
    all_goals first | exact hr | (rename_i hq; simp only [ge_iff_le, Bool.and_eq_true, decide_eq_true_eq] at hq ⊢; omega)
theorem l2_ok (s : List UInt8) (H0 G : AHeap) (i : Nat) (hi : i = (H0 ++ G).length) : Sh.sniff_Of_l2 H0 (.ptr i 0 0) (H0 ++ G ++ [.iter s 0]) = some (.ret (.int .i64 (headL s)), H0) := by
  subst hi
  have hget : (H0 ++ G ++ [Blk.iter s 0])[(H0 ++ G).length]? = some (.iter s 0) := by simp
  unfold Sh.sniff_Of_l2
  cases s with
  | nil =>
    simp only [nextA, hget, List.length_nil, Nat.lt_irrefl, if_false, retVH_some, bindK_ret]
    simp [extractA, headL, List.append_assoc]
  | cons b r =>
    obtain ⟨d1, d2⟩ := decode_head b r
    have hset : ∀ B, (H0 ++ G ++ [Blk.iter (b :: r) 0]).set (H0 ++ G).length B = H0 ++ (G ++ [B]) := fun B => by simp [List.set_append]
    simp only [nextA, hget, List.length_cons, Nat.zero_lt_succ, if_true, retVH_some, bindK_ret, hset]
    generalize hc : (Utf8.decode ⟨(b :: r).toArray⟩ 0) = c at d1 d2
    obtain ⟨c, wd⟩ := c
    simp only [] at d1 d2
    have hb : ∀ k : Nat, k < 128 → (((c : Int) == (k : Int)) = (b == UInt8.ofNat k)) := by
      intro k hk
      rw [Bool.eq_iff_iff]
      simp only [beq_iff_eq]
      constructor
      · intro h
        have : c = k := by omega
        subst this
        rcases Nat.lt_or_ge b.toNat 128 with h1 | h1
        · rw [d1 h1]; simp
        · have := d2 h1; omega
      · intro h
        subst h
        have : (UInt8.ofNat k).toNat = k := by simp; omega
        rw [this] at d1
        rw [d1 hk]
    have b35 : ((c : Int) == 35) = (b == 35) := hb 35 (by decide)
    have b120 : ((c : Int) == 120) = (b == 120) := hb 120 (by decide)
    have b33 : ((c : Int) == 33) = (b == 33) := hb 33 (by decide)
    have b46 : ((c : Int) == 46) = (b == 46) := hb 46 (by decide)
    have b79 : ((c : Int) == 79) = (b == 79) := hb 79 (by decide)
    have b10 : ((c : Int) == 10) = (b == 10) := hb 10 (by decide)
    have b13 : ((c : Int) == 13) = (b == 13) := hb 13 (by decide)
    simp only [extractA, joinPt, Sh.sniff_Of_j3, Sh.sniff_Of_j4, headL, bin_eql, b35, b120, b33, b46, b79, b10, b13, Option.bind_some, List.getElem?_cons_zero, List.getElem?_cons_succ, condA_true, List.getD_cons_zero, List.getD_cons_succ]
    by_cases q1 : b = 35
    · subst q1; simp
    by_cases q2 : b = 120
    · subst q2; simp
    by_cases q3 : b = 33
    · subst q3; simp
    by_cases q4 : b = 46
    · subst q4; simp
    by_cases q5 : b = 79
    · subst q5; simp
    by_cases q6 : b = 10
    · subst q6; simp
    by_cases q7 : b = 13
    · subst q7; simp
    have e : ∀ a : UInt8, b ≠ a → (b == a) = false := fun a h => by simpa using h
    simp [q1, q2, q3, q4, q5, q6, q7, e 35 q1, e 120 q2, e 33 q3, e 46 q4, e 79 q5, e 10 q6, e 13 q7]
theorem wrapS {n : Int} (h0 : 0 ≤ n) (h : n ≤ 1000) : IntKind.i64.wrap n = n := wrap_i64 (by omega) (by omega)
def headsV : AVal := .sl [[.str [91, 77, 50, 93], .int .i64 5], [.str [35, 76, 105, 102, 101, 32, 49, 46, 48, 53], .int .i64 2], [.str [35, 76, 105, 102, 101, 32, 49, 46, 48, 54], .int .i64 3]] .tight
/-- One of the three heads. -/
theorem l1_turn (rec1 : List AVal → AHeap → Out) (s p : List UInt8) (f : Int) (n : Nat) (H0 G : AHeap) (hn : n < 3) (he : idxSl 2 headsV (.int .i64 n) = some (.cptr [.str p, .int .i64 f] 0)) :
    Sh.sniff_Of_l1 H0 rec1 (.str s) headsV (.int .i64 3) (.int .i64 n) (H0 ++ G) = if p.isPrefixOf s then some (.ret (.int .i64 f), H0) else rec1 [.str s, headsV, .int .i64 3, .int .i64 (n + 1 : Int)] (H0 ++ (G ++ [.cel 0 [.str p, .int .i64 f]])) := by
  unfold Sh.sniff_Of_l1
  have hlt : ((n : Int) < 3) := by omega
  have hw : IntKind.i64.wrap ((n : Int) + 1) = n + 1 := wrapS (by omega) (by omega)
  simp only [bin_lss, hlt, decide_true, Option.bind_some, condA_true, he]
  have hl : loadA true 2 (.cptr [.str p, .int .i64 f] 0) (H0 ++ G) = some (.agg [.str p, .int .i64 f]) := by simp [loadA]
  have ha : allocA (some [.str [], .int .i64 0]) (H0 ++ G) = some (.ptr (H0 ++ G).length 0 0, H0 ++ G ++ [.cel 0 [.str [], .int .i64 0]]) := by simp [allocA, AVal.isScal]
  have hst : storeA 2 (.ptr (H0 ++ G).length 0 0) (.agg [.str p, .int .i64 f]) (H0 ++ G ++ [.cel 0 [.str [], .int .i64 0]]) = some (H0 ++ (G ++ [.cel 0 [.str p, .int .i64 f]])) := by
    simp only [storeA, get_last rfl, Option.bind_some]
    simp [AVal.acells, AVal.isScal, putN, List.set_append]
  have hr : ∀ o x, [AVal.str p, .int .i64 f][o]? = some x → loadA false 1 (.ptr (H0 ++ G).length 0 (0 + o)) (H0 ++ (G ++ [.cel 0 [.str p, .int .i64 f]])) = some x := by
    intro o x hx
    rw [← List.append_assoc]
    simp only [loadA, get_last rfl, Option.bind_some, Nat.zero_add, Bool.false_eq_true, if_false]
    exact hx
  simp only [hl, ha, Option.bind_some, afterA_some, hst, retH_some, bindK_ret, fieldAddr_ptr, hr 0 (.str p) rfl, hr 1 (.int .i64 f) rfl, hasPrefix2_ok, bin_add, hw]
  cases p.isPrefixOf s <;> simp
theorem l1_end (rec1 : List AVal → AHeap → Out) (s : List UInt8) (H0 G : AHeap) : Sh.sniff_Of_l1 H0 rec1 (.str s) headsV (.int .i64 3) (.int .i64 3) (H0 ++ G) = some (.ret (.int .i64 (headL s)), H0) := by
  unfold Sh.sniff_Of_l1
  simp only [bin_lss, Int.lt_irrefl, decide_false, Option.bind_some, condA_false, rangeA, retVH_some, bindK_ret]
  rw [fuel8, loop_succ]
  simp only [List.getD_cons_zero]
  exact l2_ok s H0 G _ rfl
theorem of_ok (s : List UInt8) (H : AHeap) : Sh.sniff_Of (.str s) H = some (.ret (.int .i64 (ofL s)), H) := by
  unfold Sh.sniff_Of ofL
  have b1 : ∀ (p : List UInt8) (f : Int), buildA (some [.str [], .int .i64 0]) [(0, 1, .str p), (1, 1, .int .i64 f)] = some (.agg [.str p, .int .i64 f]) := fun p f => by simp [buildA, fillA, AVal.acells, AVal.isScal, putN]
  have b2 : buildSl 2 [.agg [.str [91, 77, 50, 93], .int .i64 5], .agg [.str [35, 76, 105, 102, 101, 32, 49, 46, 48, 53], .int .i64 2], .agg [.str [35, 76, 105, 102, 101, 32, 49, 46, 48, 54], .int .i64 3]] = some headsV := by
    simp [buildSl, seqCells, AVal.acells, AVal.isScal, immC, isImm, headsV]
  have b3 : lenSl headsV = some (.int .i64 3) := rfl
  simp only [b1, Option.bind_some, b2, b3]
  rw [fuel8]
  generalize FUEL - 8 = m
  have e0 : H = H ++ [] := by simp
  rw [loop_succ]
  simp only [List.getD_cons_zero, List.getD_cons_succ]
  conv => lhs; rw [show Sh.sniff_Of_l1 H = Sh.sniff_Of_l1 H from rfl]
  have t0 := fun r => l1_turn r s [91, 77, 50, 93] 5 0 H [] (by decide) rfl
  rw [List.append_nil] at t0
  refine (t0 _).trans ?_
  split
  · rfl
  rw [loop_succ]
  simp only [List.getD_cons_zero, List.getD_cons_succ]
  refine (l1_turn _ s [35, 76, 105, 102, 101, 32, 49, 46, 48, 53] 2 1 H _ (by decide) rfl).trans ?_
  split
  · rfl
  rw [loop_succ]
  simp only [List.getD_cons_zero, List.getD_cons_succ]
  refine (l1_turn _ s [35, 76, 105, 102, 101, 32, 49, 46, 48, 54] 3 2 H _ (by decide) rfl).trans ?_
  split
  · rfl
  rw [loop_succ]
  simp only [List.getD_cons_zero, List.getD_cons_succ]
  exact l1_end _ s H _
end Go.Gm
