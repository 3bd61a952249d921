/- Texts of this proof, joined. -/
import Derived.Test.YtenmplcmmdaibaaDoorJ3
import Derived.Lib.ItoaNum
import Derived.Lib.Repeat
import Derived.Lib.Join
import Derived.Lib.TrimByte
import Derived.Laws.RangeAny
import Derived.Laws.RangeString
/- Chapter 1 of the document: sums and differences. -/
namespace Go.Gm
set_option linter.unusedVariables false
set_option linter.unusedSimpArgs false
theorem mod_step (m : List Bool) (i : Nat) : nat1 m % 2 ^ (i + 1) = nat1 m % 2 ^ i + 2 ^ i * bn (m.getD i false) := by
  rw [nat1_bit, Nat.testBit_eq_decide_div_mod_eq, Nat.pow_succ, Nat.mod_mul]
  congr 2
  rcases Nat.mod_two_eq_zero_or_one (nat1 m / 2 ^ i) with h | h <;> simp [h, bn]
theorem q01_add (a b : List Nat) (ta tb : Tok) (H : AHeap) (ha : a.length ≤ 1099511627776) (hb : b.length ≤ 1099511627776) (la : Lim a) (lb : Lim b) :
    Sh.gliderref01_Add (.sl (enL cU a) ta) (.sl (enL cU b) tb) H = some (.ret (.sl (enL cU (lims (val a + val b))) .no), H) := by
  have c1 := cutL_le (bitsAll a)
  have c2 := cutL_le (bitsAll b)
  rw [bitsAll_length] at c1 c2
  unfold Sh.gliderref01_Add
  have hx : nat1 (cutL (bitsAll a)) = val a := by rw [nat1_cut, val_bits a la]
  have hy : nat1 (cutL (bitsAll b)) = val b := by rw [nat1_cut, val_bits b lb]
  simp only [q01_bits a ta H (by omega) la, bP_ret, q01_bits b tb H (by omega) lb]
  rw [← hx, ← hy]
  generalize cutL (bitsAll a) = x at c1 ⊢
  generalize cutL (bitsAll b) = y at c2 ⊢
  refine loop_fun (σ := List Bool × Bool) (fun s => s.1.length ≤ max x.length y.length + 1 ∧ nat1 s.1 + 2 ^ s.1.length * bn s.2 = nat1 x % 2 ^ s.1.length + nat1 y % 2 ^ s.1.length) (fun s => [.sl (enL cB x) .no, .sl (enL cB y) .no, outS cB H s.1, .bool s.2, .int .i64 (s.1.length : Int)]) (fun s => outT cB ty_bool 1 H s.1) (fun s => max x.length y.length + 1 - s.1.length)
    (fun _ => some (.ret (.sl (enL cU (lims (nat1 x + nat1 y))) .no), H)) (fun s rec hs hrec => ?_) ([], false) ⟨by simp, by simp [nat1, bn, Nat.mod_one]⟩ (by simp; omega)
  obtain ⟨o, c⟩ := s
  obtain ⟨ho, he⟩ := hs
  simp only at ho he hrec ⊢
  unfold Sh.gliderref01_Add_l1
  simp only [ag_zero, ag_1, ag_2, ag_3, ag_4, len_enL, Option.bind_some, max_int, bin_leq]
  by_cases h : o.length ≤ max x.length y.length
  · have h' : ((o.length : Int) ≤ max (x.length : Int) (y.length : Int)) := by omega
    have hw : IntKind.i64.wrap ((o.length : Int) + 1) = ((o.length + 1 : Nat) : Int) := by rw [wrap_i64] <;> omega
    have ax : ∀ (m : List Bool) (H : AHeap), Sh.gliderref01_at (.sl (enL cB m) .no) (.int .i64 (o.length : Int)) H = some (.ret (.bool (m.getD o.length false)), H) := fun m H => by rw [q01_at, Int.toNat_natCast]; simp
    have app : ∀ s : Bool, appendA ty_bool 1 1 (outS cB H o) (.sl (enL cB [s]) .tight) (outT cB ty_bool 1 H o) = some (outS cB H (o ++ [s]), outT cB ty_bool 1 H (o ++ [s])) := fun s => append_out (by simp) (by simp; omega) (by simp; omega)
    have w1 : IntKind.i64.wrap (0 + 1) = 1 := by decide
    have w2 : IntKind.i64.wrap (1 + 1) = 2 := by decide
    have w3 : IntKind.i64.wrap (2 + 1) = 3 := by decide
    have fin : rec [.sl (enL cB x) .no, .sl (enL cB y) .no, outS cB H (o ++ [(bn (x.getD o.length false) + bn (y.getD o.length false) + bn c) % 2 == 1]), .bool (decide (1 < bn (x.getD o.length false) + bn (y.getD o.length false) + bn c)), .int .i64 ((o.length + 1 : Nat) : Int)] (outT cB ty_bool 1 H (o ++ [(bn (x.getD o.length false) + bn (y.getD o.length false) + bn c) % 2 == 1])) = some (.ret (.sl (enL cU (lims (nat1 x + nat1 y))) .no), H) := by
      have := hrec (o ++ [(bn (x.getD o.length false) + bn (y.getD o.length false) + bn c) % 2 == 1], decide (1 < bn (x.getD o.length false) + bn (y.getD o.length false) + bn c)) ⟨by simp; omega, ?_⟩ (by simp; omega)
      · simpa using this
      · simp only [List.length_append, List.length_singleton]
        rw [mod_step x, mod_step y, nat1_append, Nat.pow_succ]
        generalize x.getD o.length false = p
        generalize y.getD o.length false = q
        generalize 2 ^ o.length = z at he ⊢
        cases p <;> cases q <;> cases c <;> simp [bn, nat1] at he ⊢ <;> omega
    simp only [h', decide_true, condA_true, joinPt, ax, bP_ret]
    revert fin
    generalize x.getD o.length false = p
    simp only [Sh.gliderref01_Add_j2, joinPt, ag_zero, ag_1, ag_2, ag_3, ag_4, ag_5, ax, bP_ret]
    generalize y.getD o.length false = q
    intro fin
    rw [← fin]
    cases p <;> cases q <;> cases c <;>
      simp only [condA_true, condA_false, bin_add, w1, w2, w3, Option.bind_some, ag_zero, ag_1, ag_2, ag_3, ag_4, ag_5, Sh.gliderref01_Add_j3, Sh.gliderref01_Add_j4, joinPt, bin_rem (show (2 : Int) ≠ 0 by decide), bin_eql, build_B, bin_gtr, app, retVH_some, bP_ret, hw, bn] <;> rfl
  · have h' : ¬ ((o.length : Int) ≤ max (x.length : Int) (y.length : Int)) := by omega
    obtain ⟨G, hG⟩ := outT_eq (f := cB) (ty := ty_bool) (sz := 1) H o
    have bx := nat1_lt x
    have by' := nat1_lt y
    have px : 2 ^ x.length * 2 ≤ 2 ^ o.length := by rw [← Nat.pow_succ]; exact Nat.pow_le_pow_right (by omega) (by omega)
    have py : 2 ^ y.length * 2 ≤ 2 ^ o.length := by rw [← Nat.pow_succ]; exact Nat.pow_le_pow_right (by omega) (by omega)
    rw [Nat.mod_eq_of_lt (by omega), Nat.mod_eq_of_lt (by omega)] at he
    have hc : c = false := by
      cases c with
      | false => rfl
      | true => exfalso; simp only [bn, if_true, Nat.mul_one] at he; omega
    subst hc
    have hsum : nat1 o = nat1 x + nat1 y := by simpa [bn] using he
    simp only [h', decide_false, condA_false, outS_eq, hG, q01_of o _ _ (by omega), bP_ret, rPN_app, fall_sl, Option.map_some, hsum]
/-- A difference, where it may be. -/
theorem q01_sub (a b : List Nat) (ta tb : Tok) (H : AHeap) (ha : a.length ≤ 1099511627776) (hb : b.length ≤ 1099511627776) (la : Lim a) (lb : Lim b) :
    Sh.gliderref01_Sub (.sl (enL cU a) ta) (.sl (enL cU b) tb) H = some (.ret (.tup [.sl (enL cU (if val b ≤ val a then lims (val a - val b) else [])) .no, .bool (decide (val b ≤ val a))]), H) := by
  have c1 := cutL_le (bitsAll a)
  rw [bitsAll_length] at c1
  unfold Sh.gliderref01_Sub
  simp only [q01_cmp a b ta tb H ha hb la lb, bP_ret, bin_lss, Option.bind_some]
  by_cases hv : val b ≤ val a
  · have hc : ¬ (cmpI (val a) (val b) < 0) := by unfold cmpI; split <;> (try split) <;> omega
    have hx : nat1 (cutL (bitsAll a)) = val a := by rw [nat1_cut, val_bits a la]
    have hy : nat1 (cutL (bitsAll b)) = val b := by rw [nat1_cut, val_bits b lb]
    simp only [hc, decide_false, condA_false, q01_bits a ta H (by omega) la, q01_bits b tb H (by omega) lb, bP_ret, hv, if_true, decide_true]
    rw [← hx, ← hy] at hv ⊢
    generalize cutL (bitsAll a) = x at c1 hv ⊢
    generalize cutL (bitsAll b) = y at hv ⊢
    refine loop_fun (σ := List Bool × Bool) (fun s => s.1.length ≤ x.length ∧ nat1 s.1 + nat1 y % 2 ^ s.1.length = nat1 x % 2 ^ s.1.length + 2 ^ s.1.length * bn s.2) (fun s => [.sl (enL cB x) .no, .sl (enL cB y) .no, outS cB H s.1, .int .i64 (if s.2 then 1 else 0), .int .i64 (s.1.length : Int)]) (fun s => outT cB ty_bool 1 H s.1) (fun s => x.length - s.1.length)
      (fun _ => some (.ret (.tup [.sl (enL cU (lims (nat1 x - nat1 y))) .no, .bool true]), H)) (fun s rec hs hrec => ?_) ([], false) ⟨by simp, by simp [nat1, bn, Nat.mod_one]⟩ (by simp; omega)
    obtain ⟨o, c⟩ := s
    obtain ⟨ho, he⟩ := hs
    simp only at ho he hrec ⊢
    unfold Sh.gliderref01_Sub_l1
    simp only [ag_zero, ag_1, ag_2, ag_3, ag_4, len_enL, Option.bind_some, bin_lss]
    by_cases h : o.length < x.length
    · have h' : ((o.length : Int) < (x.length : Int)) := by omega
      have hw : IntKind.i64.wrap ((o.length : Int) + 1) = ((o.length + 1 : Nat) : Int) := by rw [wrap_i64] <;> omega
      have ax : ∀ (m : List Bool) (H : AHeap), Sh.gliderref01_at (.sl (enL cB m) .no) (.int .i64 (o.length : Int)) H = some (.ret (.bool (m.getD o.length false)), H) := fun m H => by rw [q01_at, Int.toNat_natCast]; simp
      have app : ∀ s : Bool, appendA ty_bool 1 1 (outS cB H o) (.sl (enL cB [s]) .tight) (outT cB ty_bool 1 H o) = some (outS cB H (o ++ [s]), outT cB ty_bool 1 H (o ++ [s])) := fun s => append_out (by simp) (by simp; omega) (by simp; omega)
      have n0 : unA .neg (.int .i64 0) = some (.int .i64 0) := by rw [show unA .neg (.int .i64 0) = some (.int .i64 (IntKind.i64.wrap (0 - 0))) from rfl, show IntKind.i64.wrap (0 - 0) = 0 from by decide]
      have n1 : unA .neg (.int .i64 1) = some (.int .i64 (-1)) := by rw [show unA .neg (.int .i64 1) = some (.int .i64 (IntKind.i64.wrap (0 - 1))) from rfl, show IntKind.i64.wrap (0 - 1) = -1 from by decide]
      have w1 : IntKind.i64.wrap (0 + 1) = 1 := by decide
      have w2 : IntKind.i64.wrap (-1 + 1) = 0 := by decide
      have w3 : IntKind.i64.wrap (0 - 1) = -1 := by decide
      have w4 : IntKind.i64.wrap (1 - 1) = 0 := by decide
      have w5 : IntKind.i64.wrap (-1 - 1) = -2 := by decide
      have w6 : IntKind.i64.wrap (-1 + 2) = 1 := by decide
      have w7 : IntKind.i64.wrap (-2 + 2) = 0 := by decide
      have fin : rec [.sl (enL cB x) .no, .sl (enL cB y) .no, outS cB H (o ++ [subS (x.getD o.length false) (y.getD o.length false) c]), .int .i64 (if subC (x.getD o.length false) (y.getD o.length false) c then 1 else 0), .int .i64 ((o.length + 1 : Nat) : Int)] (outT cB ty_bool 1 H (o ++ [subS (x.getD o.length false) (y.getD o.length false) c])) = some (.ret (.tup [.sl (enL cU (lims (nat1 x - nat1 y))) .no, .bool true]), H) := by
        have := hrec (o ++ [subS (x.getD o.length false) (y.getD o.length false) c], subC (x.getD o.length false) (y.getD o.length false) c) ⟨by simp; omega, ?_⟩ (by simp; omega)
        · simpa using this
        · simp only [List.length_append, List.length_singleton]
          rw [mod_step x, mod_step y, nat1_append, Nat.pow_succ]
          generalize x.getD o.length false = p
          generalize y.getD o.length false = q
          generalize 2 ^ o.length = z at he ⊢
          cases p <;> cases q <;> cases c <;> simp [bn, nat1, subS, subC, subN] at he ⊢ <;> omega
      simp only [h', decide_true, condA_true, joinPt, ax, bP_ret]
      revert fin
      generalize x.getD o.length false = p
      simp only [Sh.gliderref01_Sub_j2, joinPt, ag_zero, ag_1, ag_2, ag_3, ag_4, ag_5, ax, bP_ret]
      generalize y.getD o.length false = q
      intro fin
      rw [← fin]
      cases p <;> cases q <;> cases c <;>
        simp [n0, n1, w1, w2, w3, w4, w5, w6, w7, Sh.gliderref01_Sub_j3, Sh.gliderref01_Sub_j4, joinPt, build_B, app, hw, subS, subC, subN]
    · have h' : ¬ ((o.length : Int) < (x.length : Int)) := by omega
      obtain ⟨G, hG⟩ := outT_eq (f := cB) (ty := ty_bool) (sz := 1) H o
      have bx := nat1_lt x
      have bo := nat1_lt o
      have hxi : x.length = o.length := by omega
      rw [hxi] at bx
      rw [Nat.mod_eq_of_lt bx, Nat.mod_eq_of_lt (by omega)] at he
      have hc : c = false := by
        cases c with
        | false => rfl
        | true => exfalso; simp only [bn, if_true, Nat.mul_one] at he; omega
      subst hc
      have hsum : nat1 o = nat1 x - nat1 y := by simp [bn] at he; omega
      simp only [h', decide_false, condA_false, outS_eq, hG, q01_of o _ _ (by omega), bP_ret, rPN_app, fall_tup, fparts_cons, fparts_nil, fpart_sl, fpart_bool, Option.bind_some, Option.map_some, hsum]
  · have hc : cmpI (val a) (val b) < 0 := by unfold cmpI; rw [if_pos (by omega)]; decide
    simp [hc, hv, enL_nil]
end Go.Gm
/- Chapter 2 of the document: whole numbers with a sign. -/
namespace Go.Gm
set_option linter.unusedVariables false
set_option linter.unusedSimpArgs false
/-- A whole number as the program has it; the one way. -/
def bigC (z : Int) : List AVal := [.bool (decide (z < 0)), .sl (enL cU (lims z.natAbs)) .no]
def big (z : Int) : AVal := .agg (bigC z)
def LB (z : Int) : Prop := (lims z.natAbs).length ≤ 549755813888
theorem bigC_scal (z : Int) : (bigC z).all AVal.isScal = true := by simp [bigC]
@[simp] theorem bigC_g0 (z : Int) (h : 0 < (bigC z).length) : (bigC z)[0] = .bool (decide (z < 0)) := (rfl)
@[simp] theorem bigC_g1 (z : Int) (h : 1 < (bigC z).length) : (bigC z)[1] = .sl (enL cU (lims z.natAbs)) .no := (rfl)
@[simp] theorem bigC_0 (z : Int) : (bigC z)[0]? = some (.bool (decide (z < 0))) := (rfl)
@[simp] theorem bigC_1 (z : Int) : (bigC z)[1]? = some (.sl (enL cU (lims z.natAbs)) .no) := (rfl)
theorem bigC_len (z : Int) : (bigC z).length = 2 := rfl
@[simp] theorem big_acells (z : Int) : (big z).acells = some (bigC z) := acells_agg (bigC_scal z)
theorem big_sgn (neg : Bool) (n : Nat) : [AVal.bool (sgn neg n), .sl (enL cU (lims n)) .no] = bigC (if neg then -(n : Int) else n) := by
  unfold bigC
  have e1 : sgn neg n = decide ((if neg then -(n : Int) else (n : Int)) < 0) := by
    unfold sgn
    cases neg with
    | false => simp
    | true =>
      by_cases h : n = 0
      · subst h; rfl
      · have : (-(n : Int)) < 0 := by omega
        simp [h, this]; omega
  have e2 : (if neg then -(n : Int) else (n : Int)).natAbs = n := by cases neg <;> simp
  rw [e1, e2]
theorem limsLen_pos (n : Nat) : (decide (((lims n).length : Int) > 0)) = decide (n ≠ 0) := by
  by_cases h : n = 0
  · subst h; rw [lims_zero]; rfl
  · have := List.length_pos_iff.2 (lims_ne h)
    have h1 : ((lims n).length : Int) > 0 := by omega
    rw [decide_eq_true h1, decide_eq_true h]
@[simp] theorem fcells_big {H : AHeap} {n d : Nat} {z : Int} : fcells H n (d + 2) (bigC z) = some (bigC z) := by simp [bigC]
@[simp] theorem fall_big {H : AHeap} {n d : Nat} {z : Int} : fall H n (d + 3) (big z) = some (big z) := by simp [big]
@[simp] theorem fpart_big {H : AHeap} {n d : Nat} {z : Int} : fpart H n (d + 3) (big z) = some (big z) := by simp [big]
@[simp] theorem forget_big {z : Int} : forget (big z) = big z := by simp [big, bigC]
@[simp] theorem bigC_length (z : Int) : (bigC z).length = 2 := (rfl)
@[simp] theorem agg_bigC (z : Int) : AVal.agg (bigC z) = big z := (rfl)
@[simp] theorem putN_big (cs : List AVal) (z : Int) (h : cs.length = 2) : putN cs 0 2 (bigC z) = bigC z := putN_all h
theorem boxBig (z : Int) (H : AHeap) : boxA true 2 (big z) H = some (.ptr H.length 0 0, H ++ [.cel 0 (bigC z)]) := box_agg (bigC_scal z) rfl
theorem q02_sign (neg : Bool) (l : List Nat) (tk : Tok) (H : AHeap) (hl : l.length ≤ 1099511627776) (hx : Lim l) : Sh.gliderref02_sign (.bool neg) (.sl (enL cU l) tk) H = some (.ret (big (if neg then -(val l : Int) else val l)), H) := by
  unfold Sh.gliderref02_sign big
  rw [← big_sgn]
  have hp := limsLen_pos (val l)
  cases neg with
  | false => simp [q01_norm _ _ _ hl hx, buildA, fillA, putN, sgn, acells_agg]
  | true =>
    simp only [gk_tt, condV_true, Option.bind_some, len_enL, bin_gtr, hp, sgn, Bool.true_and, alloc_eq (cs := [.bool false, .sl [] .tight]) rfl, afterA_some, q01_norm _ _ _ hl hx, bP_ret]
    simp [buildA, fillA, putN, acells_agg]
theorem q02_minus (neg : Bool) (l : List Nat) (tk : Tok) (H : AHeap) (hl : l.length ≤ 1099511627776) (hx : Lim l) : Sh.gliderref02_Minus (.agg [.bool neg, .sl (enL cU l) tk]) H = some (.ret (big (-(bigI neg l))), H) := by
  have ez : (if neg = false then -(val l : Int) else (val l : Int)) = -(bigI neg l) := by cases neg <;> simp [bigI]
  unfold Sh.gliderref02_Minus
  simp [box_agg, q02_sign _ l tk _ hl hx, ez]
theorem bigI_of (z : Int) : bigI (decide (z < 0)) (lims z.natAbs) = z := by
  unfold bigI
  rw [val_lims]
  by_cases h : z < 0
  · simp [h]; omega
  · simp [h]; omega
theorem bigI_abs (neg : Bool) (l : List Nat) : (bigI neg l).natAbs = val l := by cases neg <;> simp [bigI]
theorem q02_add (n1 n2 : Bool) (l1 l2 : List Nat) (t1 t2 : Tok) (H : AHeap) (h1 : l1.length ≤ 549755813888) (h2 : l2.length ≤ 549755813888) (x1 : Lim l1) (x2 : Lim l2) :
    Sh.gliderref02_Add (.agg [.bool n1, .sl (enL cU l1) t1]) (.agg [.bool n2, .sl (enL cU l2) t2]) H = some (.ret (big (bigI n1 l1 + bigI n2 l2)), H) := by
  have v1 := val_lt l1 x1
  have v2 := val_lt l2 x2
  have p1 := pow_le32 (show l1.length ≤ max l1.length l2.length by omega)
  have p2 := pow_le32 (show l2.length ≤ max l1.length l2.length by omega)
  have p3 : (4294967296 : Nat) ^ (max l1.length l2.length + 1) = 4294967296 ^ max l1.length l2.length * 4294967296 := Nat.pow_succ _ _
  have sg : ∀ (neg : Bool) (m : Nat) (tk : Tok) (H : AHeap), m < 4294967296 ^ (max l1.length l2.length + 1) → Sh.gliderref02_sign (.bool neg) (.sl (enL cU (lims m)) tk) H = some (.ret (big (if neg then -(m : Int) else m)), H) := by
    intro neg m tk H hm
    have := q02_sign neg (lims m) tk H (by have := lims_len hm; omega) (lim_lims m)
    rwa [val_lims] at this
  unfold Sh.gliderref02_Add
  by_cases hn : n1 = n2
  · subst hn
    have ez : (if n1 = true then -((val l1 : Int) + (val l2 : Int)) else ((val l1 : Int) + (val l2 : Int))) = bigI n1 l1 + bigI n1 l2 := by cases n1 <;> simp [bigI] <;> omega
    simp [Nat.add_assoc, box_agg, beq_bool, bC_some, q01_add _ _ _ _ _ (show l1.length ≤ 1099511627776 by omega) (show l2.length ≤ 1099511627776 by omega) x1 x2, sg n1 (val l1 + val l2) _ _ (by omega), ez]
  · have hb : (n1 == n2) = false := by simpa using hn
    by_cases hv : val l2 ≤ val l1
    · have ez : (if n1 = true then -((val l1 - val l2 : Nat) : Int) else ((val l1 - val l2 : Nat) : Int)) = bigI n1 l1 + bigI n2 l2 := by cases n1 <;> cases n2 <;> simp [bigI] at hn ⊢ <;> omega
      simp [Nat.add_assoc, box_agg, beq_bool, hb, q01_sub _ _ _ _ _ (show l1.length ≤ 1099511627776 by omega) (show l2.length ≤ 1099511627776 by omega) x1 x2, hv, sg n1 (val l1 - val l2) _ _ (by omega), ez]
    · have ez : (if n2 = true then -((val l2 - val l1 : Nat) : Int) else ((val l2 - val l1 : Nat) : Int)) = bigI n1 l1 + bigI n2 l2 := by cases n1 <;> cases n2 <;> simp [bigI] at hn ⊢ <;> omega
      have hv' : val l1 ≤ val l2 := by omega
      simp [Nat.add_assoc, box_agg, beq_bool, hb, q01_sub _ _ _ _ _ (show l1.length ≤ 1099511627776 by omega) (show l2.length ≤ 1099511627776 by omega) x1 x2, q01_sub _ _ _ _ _ (show l2.length ≤ 1099511627776 by omega) (show l1.length ≤ 1099511627776 by omega) x2 x1, hv, hv', sg n2 (val l2 - val l1) _ _ (by omega), ez]
theorem big_eq (z : Int) : big z = .agg [.bool (decide (z < 0)), .sl (enL cU (lims z.natAbs)) .no] := rfl
theorem q02_addZ (a b : Int) (H : AHeap) (ha : LB a) (hb : LB b) : Sh.gliderref02_Add (big a) (big b) H = some (.ret (big (a + b)), H) := by
  rw [big_eq a, big_eq b, q02_add _ _ _ _ _ _ _ ha hb (lim_lims _) (lim_lims _), bigI_of, bigI_of]
theorem q02_minusZ (a : Int) (H : AHeap) (ha : LB a) : Sh.gliderref02_Minus (big a) H = some (.ret (big (-a)), H) := by
  rw [big_eq a, q02_minus _ _ _ _ (by unfold LB at ha; omega) (lim_lims _), bigI_of]
theorem LB.neg {a : Int} (h : LB a) : LB (-a) := by unfold LB at *; rwa [Int.natAbs_neg]
theorem LB.of {a : Int} {k : Nat} (h : a.natAbs < 4294967296 ^ k) (hk : k ≤ 549755813888) : LB a := Nat.le_trans (lims_len h) hk
def cmpZ (a b : Int) : Int := if a < b then -1 else if a = b then 0 else 1
end Go.Gm
/- Chapters 1 and 2 of the document: powers of two; whole numbers of the machine's. -/
namespace Go.Gm
set_option linter.unusedVariables false
set_option linter.unusedSimpArgs false
theorem repl1 (n : Nat) (v : AVal) : repl n [v] = List.replicate n v := by
  induction n with
  | zero => rfl
  | succ n ih => simp only [repl, List.replicate_succ, List.flatten_cons] at ih ⊢; rw [ih]; rfl
theorem chunk1 (n : Nat) (v : AVal) : chunk 1 n (List.replicate n v) = List.replicate n [v] := by
  induction n with
  | zero => rfl
  | succ n ih => simp only [chunk, List.replicate_succ, List.take_succ_cons, List.take_zero, List.drop_succ_cons, List.drop_zero, ih]
theorem make_one {bytes n : Nat} {v : AVal} {H : AHeap} (hv : v.isScal = true) (hb : n * bytes ≤ 140737488355328) (hn : n ≤ 140737488355328) : makeA 1 bytes (some [v]) (.int .i64 (n : Int)) (.int .i64 (n : Int)) H = some (.ms H.length 0 0 n n 1 true, H ++ [.cel 0 (List.replicate n v)]) := by
  unfold makeA
  simp only [Option.bind_some]
  have h1 : ((n : Int) * (bytes : Int)) ≤ 140737488355328 := by have : ((n * bytes : Nat) : Int) ≤ 140737488355328 := by omega
                                                                simpa using this
  rw [if_pos ⟨by simp [hv], rfl, by omega, by omega, h1, by omega⟩, repl1]
  simp
theorem elems_ms {H : AHeap} {n : Nat} : elemsA 1 (.ms H.length 0 0 n n 1 true) (H ++ [.cel 0 (List.replicate n (.bool false))]) = some (enL cB (List.replicate n false)) := by
  have hm : (List.replicate n (AVal.bool false)).map immC = List.replicate n (.bool false) := by simp [immC]
  have hi : (List.replicate n (AVal.bool false)).all isImm = true := by simp [isImm]
  simp only [elemsA, if_true, get_app0, get_zero, Option.bind_some, List.drop_zero, Nat.zero_add, Nat.mul_one, List.length_replicate, List.take_of_length_le (show (List.replicate n (AVal.bool false)).length ≤ n by simp), hm, hi, Nat.le_refl, and_self, chunk1]
  simp [enL]
theorem q01_of_ms (B : AHeap) (n : Nat) (hn : n ≤ 140737488355328) : Sh.gliderref01_Of (.ms B.length 0 0 n n 1 true) (B ++ [.cel 0 (List.replicate n (.bool false))]) = some (.ret (.sl [] .no), B ++ [.cel 0 (List.replicate n (.bool false))]) := by
  unfold Sh.gliderref01_Of Sh.gliderref01_cut
  have hc : ∀ K : AHeap, loopGen (fun rec1 vs H1 => Sh.gliderref01_cut_l1 K rec1 (ag vs 0) H1) FUEL [.ms B.length 0 0 n n 1 true] (B ++ [.cel 0 (List.replicate n (.bool false))])
      = some (.ret (.ms B.length 0 0 0 n 1 true), B ++ [.cel 0 (List.replicate n (.bool false))]) := by
    intro K
    refine loop_fun (σ := Nat) (fun k => k ≤ n) (fun k => [.ms B.length 0 0 k n 1 true]) (fun _ => B ++ [.cel 0 (List.replicate n (.bool false))]) (fun k => k) (fun _ => some (.ret (.ms B.length 0 0 0 n 1 true), B ++ [.cel 0 (List.replicate n (.bool false))])) (fun k rec hk hrec => ?_) n (Nat.le_refl _) (by omega)
    unfold Sh.gliderref01_cut_l1
    cases k with
    | zero => simp [forget, fgtA, fgt]
    | succ k =>
      have hpos : ((k + 1 : Nat) : Int) > 0 := by omega
      have hw : IntKind.i64.wrap (((k + 1 : Nat) : Int) - 1) = (k : Int) := by rw [wrap_i64] <;> omega
      have hidx : idxSl 1 (.ms B.length 0 0 (k + 1) n 1 true) (.int .i64 (k : Int)) = some (.ptr B.length 0 k) := by
        unfold idxSl
        simp only []
        rw [if_pos ⟨trivial, by omega, by omega⟩]
        simp
      have hload : loadA false 1 (.ptr B.length 0 k) (B ++ [.cel 0 (List.replicate n (.bool false))]) = some (.bool false) := by
        rw [load_app0, load_zero, List.getElem?_replicate, if_pos (by omega)]
      have hsl : sliceSl 1 (.ms B.length 0 0 (k + 1) n 1 true) none (some (.int .i64 (k : Int))) none = some (.ms B.length 0 0 k n 1 true) := by
        have : (0 : Int) ≤ (k : Int) := by omega
        simp only [sliceSl, boundA, Option.bind_some, this, if_true, Int.toNat_natCast]
        rw [if_pos ⟨trivial, by omega, by omega, by omega⟩]
        simp
      simp only [ag_zero, len_ms, Option.bind_some, bin_gtr, hpos, decide_true, gk_tt, bin_sub, hw, hidx, hload, un_not, condV_true, Bool.not_false, condA_true, hsl]
      exact hrec k (by omega) (by omega)
  rw [hc]
  simp only [bP_ret]
  rw [loop_turn fuel_pos]
  unfold Sh.gliderref01_Of_l1
  simp
theorem q01_shl (l : List Nat) (tk : Tok) (m : Nat) (H : AHeap) (hm : m ≤ 10000) (hl : l.length ≤ 549755813888) (hx : Lim l) :
    Sh.gliderref01_Shl (.sl (enL cU l) tk) (.int .i64 (m : Int)) H = some (.ret (.sl (enL cU (lims (2 ^ m * val l))) .no), H) := by
  unfold Sh.gliderref01_Shl
  have h0 : ¬ (m : Int) < 0 := by omega
  have h1 : ¬ (m : Int) > 10000 := by omega
  have hc := cutL_le (bitsAll l)
  rw [bitsAll_length] at hc
  simp only [bin_lss, Option.bind_some, decide_eq_false h0, gk_ff, bin_gtr, decide_eq_false h1, condV_false, condA_false, q01_bits l tk H (by omega) hx, bindN_ret, make_one (bytes := 1) (v := .bool false) rfl (show m * 1 ≤ 140737488355328 by omega) (by omega), afterA_some]
  by_cases hv : val l = 0
  · have e : cutL (bitsAll l) = [] := cutL_nat0 (by rw [val_bits l hx]; exact hv)
    rw [e, enL_nil, append_nothing (by rw [elems_ms]; rfl)]
    simp [q01_of_ms H m (by omega), hv, lims_zero, enL_nil]
  · have hne : cutL (bitsAll l) ≠ [] := fun e => hv (by rw [← val_bits l hx, ← nat1_cut, e]; rfl)
    have ha : appendA ty_bool 1 1 (.ms H.length 0 0 m m 1 true) (.sl (enL cB (cutL (bitsAll l))) .no) (H ++ [.cel 0 (List.replicate m (.bool false))])
        = some (.sl (enL cB (List.replicate m false ++ cutL (bitsAll l))) (.own (H.length + 1)), H ++ [.cel 0 (List.replicate m (.bool false))] ++ [.tok (m + (cutL (bitsAll l)).length) ty_bool 1]) := by
      have hl0 : (enL cB (cutL (bitsAll l))).length ≠ 0 := by simpa using hne
      unfold appendA
      rw [show elemsA 1 (.sl (enL cB (cutL (bitsAll l))) .no) (H ++ [.cel 0 (List.replicate m (.bool false))]) = some (enL cB (cutL (bitsAll l))) from by simp [elemsA, all_enL], elems_ms]
      simp only [Option.bind_some]
      rw [if_neg hl0, if_pos (by simp; omega), if_pos (by simp; exact List.length_pos_iff.2 hne)]
      simp [enL_append]
    rw [ha]
    simp only [retVH_some, bindN_ret, List.append_assoc]
    rw [q01_of _ _ _ (by simp; omega)]
    simp only [bindN_ret, rPN_app, fall_sl, Option.map_some, nat1_repl, nat1_cut, val_bits l hx]
theorem q02_shl (z : Int) (m : Nat) (H : AHeap) (hm : m ≤ 10000) (hz : LB z) (hz2 : LB (z * 2 ^ m)) :
    Sh.gliderref02_Shl (big z) (.int .i64 (m : Int)) H = some (.ret (big (z * 2 ^ m)), H) := by
  have e : (z * 2 ^ m).natAbs = 2 ^ m * z.natAbs := by rw [Int.natAbs_mul, Int.natAbs_pow, Nat.mul_comm]; rfl
  have hp : (0 : Int) < 2 ^ m := Int.pow_pos (by omega)
  have hs : ∀ tk H, Sh.gliderref02_sign (.bool (decide (z < 0))) (.sl (enL cU (lims (2 ^ m * z.natAbs))) tk) H = some (.ret (big (z * 2 ^ m)), H) := by
    intro tk H
    rw [q02_sign _ _ _ _ (by rw [← e]; unfold LB at hz2; omega) (lim_lims _), val_lims]
    congr 3
    have : ((2 ^ m * z.natAbs : Nat) : Int) = 2 ^ m * (z.natAbs : Int) := by simp
    by_cases h : z < 0
    · simp only [h, decide_true, if_true, this]
      rw [show ((z.natAbs : Nat) : Int) = -z from by omega, Int.mul_neg, Int.neg_neg, Int.mul_comm]
    · simp only [h, decide_false, Bool.false_eq_true, if_false, this]
      rw [show ((z.natAbs : Nat) : Int) = z from by omega, Int.mul_comm]
  unfold Sh.gliderref02_Shl
  simp [boxBig, bC_some, q01_shl _ _ _ _ hm hz (lim_lims _), val_lims, hs]
theorem wrap_u64n {n : Int} (h0 : -18446744073709551616 ≤ n) (h : n < 0) : IntKind.u64.wrap n = n + 18446744073709551616 := by
  have h1 : IntKind.u64.bits = 64 := rfl
  have h2 : IntKind.u64.signed = false := rfl
  unfold IntKind.wrap
  simp only [h1, h2, Bool.false_and, Bool.false_eq_true, if_false]
  omega
theorem build_2U (x y : Nat) : buildSl 1 [.int .u32 (x : Int), .int .u32 (y : Int)] = some (.sl (enL cU [x, y]) .tight) := by simp [buildSl, seqCells, immC, isImm, AVal.acells, enL]
theorem q02_of (n : Int) (H : AHeap) (h0 : -9223372036854775808 ≤ n) (h1 : n ≤ 9223372036854775807) : Sh.gliderref02_Of (.int .i64 n) H = some (.ret (big n), H) := by
  obtain ⟨u, hu⟩ : ∃ u : Nat, u = n.natAbs := ⟨_, rfl⟩
  have hlim : Lim [u % 4294967296, u / 4294967296] := fun x hx => by
    simp at hx
    rcases hx with rfl | rfl <;> omega
  have hval : val [u % 4294967296, u / 4294967296] = u := by simp [val]; omega
  have ez : (if decide (n < 0) = true then -(u : Int) else (u : Int)) = n := by
    by_cases h : n < 0 <;> simp [h] <;> omega
  have a1 := fun H => q02_sign (decide (n < 0)) [u % 4294967296, u / 4294967296] .tight H (by simp) hlim
  simp only [hval, ez] at a1
  have e1 : ((u : Int).tmod 4294967296) = ((u % 4294967296 : Nat) : Int) := rfl
  have e2 : IntKind.u64.wrap ((u : Int).tdiv 4294967296) = ((u / 4294967296 : Nat) : Int) := by rw [show (u : Int).tdiv 4294967296 = ((u / 4294967296 : Nat) : Int) from rfl, wrap_u64] <;> omega
  have e3 : IntKind.u32.wrap ((u % 4294967296 : Nat) : Int) = ((u % 4294967296 : Nat) : Int) := by rw [wrap_u32] <;> omega
  have e4 : IntKind.u32.wrap ((u / 4294967296 : Nat) : Int) = ((u / 4294967296 : Nat) : Int) := by rw [wrap_u32] <;> omega
  have j1 : Sh.gliderref02_Of_j1 H (.int .i64 n) (.ptr H.length 0 0) (.int .u64 (u : Int)) (H ++ [.cel 0 [.bool false, .sl [] .tight]]) = some (.ret (big n), H) := by
    unfold Sh.gliderref02_Of_j1
    simp only [bin_lss, Option.bind_some, bin_rem (show (4294967296 : Int) ≠ 0 by decide), bin_quo (show (4294967296 : Int) ≠ 0 by decide), e1, e2, conv_int, e3, e4, build_2U, a1, bP_ret]
    simp
  unfold Sh.gliderref02_Of
  simp only [alloc_eq (cs := [.bool false, .sl [] .tight]) rfl, afterA_some, conv_int, Option.bind_some, joinPt, bin_lss, ag_zero, ag_1, ag_2]
  by_cases h : n < 0
  · have w : IntKind.u64.wrap (0 - IntKind.u64.wrap n) = (u : Int) := by
      rw [wrap_u64n (n := n) (by omega) h, wrap_u64n (by omega) (by omega)]; omega
    have un : unA .neg (.int .u64 (IntKind.u64.wrap n)) = some (.int .u64 (u : Int)) := by
      rw [show unA .neg (.int .u64 (IntKind.u64.wrap n)) = some (.int .u64 (IntKind.u64.wrap (0 - IntKind.u64.wrap n))) from rfl, w]
    rw [decide_eq_true h]
    simp only [condA_true, un, Option.bind_some, ag_zero, ag_1, ag_2]
    exact j1
  · have w : IntKind.u64.wrap n = (u : Int) := by rw [wrap_u64 (by omega) (by omega)]; omega
    rw [decide_eq_false h]
    simp only [condA_false, w, ag_zero, ag_1, ag_2]
    exact j1
theorem LB_pow (m : Nat) (hm : m ≤ 20000) : LB (2 ^ m) := by
  refine LB.of (k := m + 1) ?_ (by omega)
  rw [Int.natAbs_pow]
  have : (2 : Nat) ^ m < 2 ^ (32 * (m + 1)) := Nat.pow_lt_pow_right (by omega) (by omega)
  rw [Nat.pow_mul] at this
  exact this
theorem LB_one : LB 1 := LB_pow 0 (by omega)
theorem q02_pow (m : Nat) (H : AHeap) (hm : m ≤ 10000) : Sh.gliderref02_Pow (.int .i64 (m : Int)) H = some (.ret (big (2 ^ m)), H) := by
  have hs := fun H => q02_shl 1 m H hm LB_one (by rw [Int.one_mul]; exact LB_pow m (by omega))
  simp only [Int.one_mul] at hs
  unfold Sh.gliderref02_Pow
  simp [q02_of 1 _ (by omega) (by omega), hs]
/-- A whole number as one of the machine's, where it is one. -/
def intOk (z : Int) : Bool := decide (-9223372036854775808 ≤ z ∧ z ≤ 9223372036854775807)
def intR (z : Int) : Int := if intOk z then z else 0
theorem val_drop (l : List Nat) (i : Nat) (h : i < l.length) : val (l.drop i) = l[i] + 4294967296 * val (l.drop (i + 1)) := by
  rw [List.drop_eq_getElem_cons h, val]
theorem val_drop_le (l : List Nat) (i : Nat) : 4294967296 ^ i * val (l.drop i) ≤ val l := by
  induction l generalizing i with
  | nil => simp [val]
  | cons a l ih =>
    cases i with
    | zero => simp
    | succ i => have := ih i; simp only [List.drop_succ_cons, val, Nat.pow_succ]; rw [Nat.mul_comm (4294967296 ^ i) 4294967296, Nat.mul_assoc]; omega
theorem wrap_neg {u : Nat} (h : u ≤ 9223372036854775808) : IntKind.i64.wrap (IntKind.u64.wrap (0 - (u : Int))) = -(u : Int) := by
  have h1 : IntKind.i64.bits = 64 := rfl
  have h2 : IntKind.i64.signed = true := rfl
  by_cases h0 : u = 0
  · subst h0; decide
  · rw [wrap_u64n (by omega) (by omega)]
    unfold IntKind.wrap
    simp only [h1, h2, Bool.true_and, decide_eq_true_eq]
    split <;> omega
/-- May limbs with a sign be? -/
def bigOkB (neg : Bool) (l : List Nat) : Bool := rightB l && !(neg && l.isEmpty)
theorem q02_right (neg : Bool) (l : List Nat) (tk : Tok) (H : AHeap) (hl : l.length ≤ 549755813888) : Sh.gliderref02_Right (.agg [.bool neg, .sl (enL cU l) tk]) H = some (.ret (.bool (bigOkB neg l)), H) := by
  unfold Sh.gliderref02_Right bigOkB
  have hq := fun H => q01_right l tk H (by omega)
  cases hr : rightB l with
  | false => simp [box_agg, hq, hr]
  | true =>
    cases neg with
    | false => simp [box_agg, hq, hr]
    | true => cases l <;> simp [box_agg, hq, hr] <;> omega
theorem bigC_ok {n : Bool} {l : List Nat} (h : bigOkB n l = true) (hx : Lim l) : [AVal.bool n, .sl (enL cU l) .no] = bigC (bigI n l) := by
  simp only [bigOkB, Bool.and_eq_true, Bool.not_eq_true'] at h
  obtain ⟨h1, h2⟩ := h
  have hn : Nrm l := (rightB_iff hx).1 h1
  unfold bigC
  rw [bigI_abs, ← lims_val hn]
  congr 2
  unfold bigI
  cases n with
  | false => simp
  | true =>
    have hl : l ≠ [] := fun e => by subst e; simp at h2
    have : val l ≠ 0 := fun e => hl (hn.zero e)
    simp; omega
theorem LB_zero : LB 0 := by unfold LB; simp [lims_zero]
end Go.Gm
/- Chapter 1 of the document: rows of limbs in any guise; division by a limb. -/
namespace Go.Gm
set_option linter.unusedVariables false
set_option linter.unusedSimpArgs false
/-- A row of limbs in a heap, and in all heaps that begin so. -/
def Row1 (v : AVal) (H : AHeap) (l : List Nat) : Prop := lenSl v = some (.int .i64 (l.length : Int)) ∧ ∀ (i : Nat) (h : i < l.length), ∃ p, idxSl 1 v (.int .i64 (i : Int)) = some p ∧ ∀ G, loadA false 1 p (H ++ G) = some (.int .u32 (l[i] : Int))
theorem row_sl (l : List Nat) (tk : Tok) (H : AHeap) : Row1 (.sl (enL cU l) tk) H l := ⟨len_enL, fun i h => ⟨_, idx_enL h, fun G => rfl⟩⟩
theorem row_ms {l : List Nat} {H : AHeap} {id : Nat} (hg : H[id]? = some (.cel 0 (flat cU l))) : Row1 (.ms id 0 0 l.length l.length 1 true) H l := by
  refine ⟨rfl, fun i h => ?_⟩
  have hidx := idx_ms (sz := 1) (id := id) (n := l.length) (K := .i64) (g := 0) (off := 0) (cap := l.length) (ex := true) (i := i) h
  simp only [Nat.zero_add, Nat.mul_one] at hidx
  exact ⟨_, hidx, fun G => load_left (load_el (f := cU) (get_cel hg) h)⟩
theorem q01_bitsR {v : AVal} {H : AHeap} {l : List Nat} (hv : Row1 v H l) (hl : l.length ≤ 2199023255552) (hx : Lim l) : Sh.gliderref01_Bits v H = some (.ret (.sl (enL cB (cutL (bitsAll l))) .no), H) := by
  unfold Sh.gliderref01_Bits
  refine loop_up l.length (fun i => [v, outS cB H (bitsAll (l.take i)), .int .i64 (i : Int)]) (fun i => outT cB ty_bool 1 H (bitsAll (l.take i))) _ (by omega) (fun rec i hi => ?_) (fun rec => ?_)
  · have hi' : (i : Int) < (l.length : Int) := by omega
    have hxi : l[i] < 4294967296 := hx _ (List.getElem_mem hi)
    have htk : bitsAll (l.take (i + 1)) = bitsAll (l.take i) ++ bitsOf 32 l[i] := by
      rw [List.take_succ_eq_append_getElem hi, bitsAll, List.flatMap_append]; simp [bitsAll]
    have hlen : (bitsAll (l.take i)).length ≤ 32 * 2199023255552 := by rw [bitsAll_length]; simp; omega
    obtain ⟨p, hp1, hp2⟩ := hv.2 i hi
    obtain ⟨G, hG⟩ := outT_eq (f := cB) (ty := ty_bool) (sz := 1) H (bitsAll (l.take i))
    have hld : loadA false 1 p (outT cB ty_bool 1 H (bitsAll (l.take i))) = some (.int .u32 (l[i] : Int)) := by rw [hG]; exact hp2 G
    unfold Sh.gliderref01_Bits_l1
    simp only [ag_zero, ag_1, ag_2, hv.1, obind, bin_lss, hi', decide_true, condA_true, hp1, hld, htk]
    generalize bitsAll (l.take i) = o at hlen
    generalize l[i] = x at hxi
    refine loop_fun (σ := Nat × Nat × List Bool) (fun s => s.1 ≤ 32 ∧ s.2.1 < 4294967296 ∧ s.2.2.length ≤ o.length + s.1) (fun s => [v, outS cB H s.2.2, .int .i64 (i : Int), .int .u32 (s.2.1 : Int), .int .i64 (s.1 : Int)]) (fun s => outT cB ty_bool 1 H s.2.2) (fun s => 32 - s.1)
      (fun s => rec [v, outS cB H (s.2.2 ++ bitsOf (32 - s.1) s.2.1), .int .i64 ((i + 1 : Nat) : Int)] (outT cB ty_bool 1 H (s.2.2 ++ bitsOf (32 - s.1) s.2.1))) (fun s rec2 hs hrec => ?_) (0, x, o) ⟨by dsimp only; omega, hxi, by dsimp only; omega⟩ (by dsimp only; omega)
    obtain ⟨k, y, p⟩ := s
    obtain ⟨hk, hy, hp⟩ := hs
    simp only at hk hy hp hrec ⊢
    unfold Sh.gliderref01_Bits_l2
    by_cases h : k < 32
    · have h' : (k : Int) < 32 := by omega
      have e1 : (y : Int).tmod 2 = ((y % 2 : Nat) : Int) := rfl
      have e2 : IntKind.u32.wrap ((y : Int).tdiv 2) = ((y / 2 : Nat) : Int) := by rw [show (y : Int).tdiv 2 = ((y / 2 : Nat) : Int) from rfl, wrap_u32] <;> omega
      have e3 : decide (((y % 2 : Nat) : Int) = 1) = (y % 2 == 1) := by rw [Bool.eq_iff_iff]; simp only [beq_iff_eq, decide_eq_true_eq]; omega
      have e4 : IntKind.i64.wrap ((k : Int) + 1) = ((k + 1 : Nat) : Int) := by rw [wrap_i64] <;> omega
      have := hrec (k + 1, y / 2, p ++ [y % 2 == 1]) ⟨h, by dsimp only; omega, by simp; omega⟩ (by dsimp only; omega)
      simp only [ag_zero, ag_1, ag_2, ag_3, ag_4, bin_lss, h', decide_true, obind, condA_true, bin_rem (show (2 : Int) ≠ 0 by decide), bin_quo (show (2 : Int) ≠ 0 by decide), e1, e2, bin_eql, beq_dec, e3, build_B]
      rw [append_out (by simp) (by simp; omega) (by simp; omega)]
      simp only [retVH_some, bP_ret, bin_add, obind, e4, this]
      rw [show 32 - k = (32 - (k + 1)) + 1 from by omega, bitsOf]; simp
    · have : k = 32 := by omega
      subst this
      have e4 : IntKind.i64.wrap ((i : Int) + 1) = ((i + 1 : Nat) : Int) := by rw [wrap_i64] <;> omega
      simp [bitsOf, e4]
  · unfold Sh.gliderref01_Bits_l1
    obtain ⟨G, hG⟩ := outT_eq (f := cB) (ty := ty_bool) (sz := 1) H (bitsAll l)
    rw [List.take_of_length_le (Nat.le_refl _)]
    simp only [ag_zero, ag_1, ag_2, outS_eq, hG, hv.1, obind, bin_lss, Int.lt_irrefl, decide_false, condA_false, q01_cut (bitsAll l) _ _ (by rw [bitsAll_length]; omega), bP_ret, rPN_app, fall_sl, Option.map_some]
theorem q01_normR {v : AVal} {H : AHeap} {l : List Nat} (hv : Row1 v H l) (hl : l.length ≤ 1099511627776) (hx : Lim l) : Sh.gliderref01_Norm v H = some (.ret (.sl (enL cU (lims (val l))) .no), H) := by
  have hc := cutL_le (bitsAll l)
  rw [bitsAll_length] at hc
  unfold Sh.gliderref01_Norm
  rw [q01_bitsR hv (by omega) hx]
  simp only [bK_ret]
  rw [q01_of _ _ _ (by omega)]
  simp only [bK_ret, rKN_eq, forget_sl, nat1_cut, val_bits l hx]
end Go.Gm
/- Chapter 1 of the document: division by a limb. -/
namespace Go.Gm
set_option linter.unusedVariables false
set_option linter.unusedSimpArgs false
theorem val_cons (a : Nat) (l : List Nat) : val (a :: l) = a + 4294967296 * val l := rfl
theorem div_step {m a v : Nat} (hm : 0 < m) : (a + 4294967296 * v) / m = (v % m * 4294967296 + a) / m + 4294967296 * (v / m) ∧ (a + 4294967296 * v) % m = (v % m * 4294967296 + a) % m := by
  have h := Nat.div_add_mod v m
  have e : a + 4294967296 * v = (v % m * 4294967296 + a) + m * (4294967296 * (v / m)) := by
    conv => lhs; rw [← h]
    rw [Nat.mul_add, Nat.mul_left_comm]
    omega
  rw [e, Nat.add_mul_div_left _ _ hm, Nat.add_mul_mod_self_left]
  exact ⟨rfl, rfl⟩
theorem quo_lt {m a r : Nat} (hr : r < m) (ha : a < 4294967296) : (r * 4294967296 + a) / m < 4294967296 := by
  rw [Nat.div_lt_iff_lt_mul (by omega)]
  have : (r + 1) * 4294967296 ≤ m * 4294967296 := Nat.mul_le_mul_right _ hr
  omega
theorem q01_div (l : List Nat) (tk : Tok) (m : Nat) (H : AHeap) (hl : l.length ≤ 1099511627776) (hx : Lim l) (hm0 : 0 < m) (hm : m < 4294967296) :
    Sh.gliderref01_Div (.sl (enL cU l) tk) (.int .u32 (m : Int)) H = some (.ret (.tup [.sl (enL cU (lims (val l / m))) .no, .int .u32 ((val l % m : Nat) : Int)]), H) := by
  unfold Sh.gliderref01_Div
  have hm0' : ¬ (m : Int) = 0 := by omega
  have hmk := make_flat (f := cU) (a := 0) (n := l.length) (bytes := 4) (H := H) (by omega) (by omega)
  simp only [show cU 0 = [AVal.int .u32 0] from rfl] at hmk
  have hcm : ∀ n : Int, convInt .u64 (.int .u32 (m : Int)) = some (.int .u64 (m : Int)) := fun _ => by rw [conv_int, wrap_u64 (by omega) (by omega)]
  simp only [GMb, joinPt, decide_true, decide_false, if_true, if_false, hm0', len_enL, hmk]
  have hw0 : IntKind.i64.wrap ((l.length : Int) - 1) = (l.length : Int) - 1 := wrap_i64 (by omega) (by omega)
  rw [hw0]
  have key := loop_fun (G := fun rec1 vs H1 => Sh.gliderref01_Div_l1 H rec1 (ag vs 0) (ag vs 1) (ag vs 2) (ag vs 3) (ag vs 4) H1) (σ := Nat × List Nat) (fun s => s.1 ≤ l.length ∧ s.2.length = l.length ∧ Lim s.2 ∧ val (s.2.drop s.1) = val (l.drop s.1) / m)
    (fun s => [.sl (enL cU l) tk, .int .u32 (m : Int), .ms H.length 0 0 l.length l.length 1 true, .int .u64 ((val (l.drop s.1) % m : Nat) : Int), .int .i64 ((s.1 : Int) - 1)]) (fun s => H ++ [.cel 0 (flat cU s.2)]) (fun s => s.1)
    (fun _ => some (.ret (.tup [.sl (enL cU (lims (val l / m))) .no, .int .u32 ((val l % m : Nat) : Int)]), H)) (fun s rec hs hrec => ?_) (l.length, List.replicate l.length 0) ⟨Nat.le_refl _, by simp, fun x hx => by have := (List.mem_replicate.1 hx).2; omega, by simp [val]⟩ (by dsimp only; omega)
  · simp only [List.drop_length, show val [] = 0 from rfl, Nat.zero_mod] at key
    exact key
  · obtain ⟨k, O⟩ := s
    obtain ⟨h1, h2, h3, h4⟩ := hs
    simp only at h1 h2 h3 h4 hrec ⊢
    unfold Sh.gliderref01_Div_l1
    cases k with
    | zero =>
      have hrow := row_ms (l := O) (H := H ++ [Blk.cel 0 (flat cU O)]) (id := H.length) last_cel
      rw [h2] at hrow
      have hn := q01_normR hrow (by omega) h3
      have hv : val O = val l / m := by simpa using h4
      have hlt : val l % m < m := Nat.mod_lt _ hm0
      have hcv : convInt .u32 (.int .u64 ((val l % m : Nat) : Int)) = some (.int .u32 ((val l % m : Nat) : Int)) := by rw [conv_int, wrap_u32 (by omega) (by omega)]
      simp only [GMb, joinPt, decide_true, decide_false, if_true, if_false, ag_succ, show ¬ (((0 : Nat) : Int) - 1 ≥ 0) from by decide, hn, List.drop_zero, hcv, hv, rPN_app, fall_tup, fparts_cons, fparts_nil, fpart_sl, fpart_int, Option.map_some]
    | succ j =>
      have hj : j < l.length := h1
      have hi : ((j + 1 : Nat) : Int) - 1 = (j : Int) := by omega
      have ha := hx _ (List.getElem_mem hj)
      have hd : l.drop j = l[j] :: l.drop (j + 1) := List.drop_eq_getElem_cons hj
      have hr : val (l.drop (j + 1)) % m < m := Nat.mod_lt _ hm0
      obtain ⟨s1, s2⟩ := div_step (m := m) (a := l[j]) (v := val (l.drop (j + 1))) hm0
      have hq := quo_lt (m := m) (a := l[j]) (r := val (l.drop (j + 1)) % m) hr ha
      have hmul : val (l.drop (j + 1)) % m * 4294967296 ≤ 4294967295 * 4294967296 := Nat.mul_le_mul_right _ (by omega)
      generalize hrr : val (l.drop (j + 1)) % m = r at *
      have w1 : IntKind.u64.wrap ((r : Int) * 4294967296) = ((r * 4294967296 : Nat) : Int) := by rw [wrap_u64] <;> omega
      have w2 : convInt .u64 (.int .u32 (l[j] : Int)) = some (.int .u64 (l[j] : Int)) := by rw [conv_int, wrap_u64 (by omega) (by omega)]
      have w3 : IntKind.u64.wrap (((r * 4294967296 : Nat) : Int) + (l[j] : Int)) = ((r * 4294967296 + l[j] : Nat) : Int) := by rw [wrap_u64] <;> omega
      have w4 : IntKind.u64.wrap (((r * 4294967296 + l[j] : Nat) : Int).tdiv (m : Int)) = (((r * 4294967296 + l[j]) / m : Nat) : Int) := by
        rw [show (((r * 4294967296 + l[j] : Nat) : Int).tdiv (m : Int)) = (((r * 4294967296 + l[j]) / m : Nat) : Int) from rfl, wrap_u64 (Int.natCast_nonneg _) (Int.lt_of_lt_of_le (Int.ofNat_lt.2 hq) (by decide))]
      have w5 : convInt .u32 (.int .u64 (((r * 4294967296 + l[j]) / m : Nat) : Int)) = some (.int .u32 (((r * 4294967296 + l[j]) / m : Nat) : Int)) := by rw [conv_int, wrap_u32 (Int.natCast_nonneg _) (Int.ofNat_lt.2 hq)]
      have w6 : (((r * 4294967296 + l[j] : Nat) : Int).tmod (m : Int)) = (((r * 4294967296 + l[j]) % m : Nat) : Int) := rfl
      have w7 : IntKind.i64.wrap ((j : Int) - 1) = (j : Int) - 1 := wrap_i64 (by omega) (by omega)
      have hidx := idx_ms (sz := 1) (id := H.length) (n := l.length) (K := .i64) (g := 0) (off := 0) (cap := l.length) (ex := true) (i := j) hj
      simp only [Nat.zero_add, Nat.mul_one] at hidx
      have hst := store_el (f := cU) (sz := 1) (l := O) (i := j) (a := (r * 4294967296 + l[j]) / m) (v := .int .u32 (((r * 4294967296 + l[j]) / m : Nat) : Int)) (H := H ++ [Blk.cel 0 (flat cU O)]) (id := H.length) (get_cel last_cel) (by omega) rfl
      rw [Nat.mul_one, setC_cel last_cel, last_set] at hst
      have hge : ((j : Int) ≥ 0) := by omega
      have hmz : (m : Int) ≠ 0 := hm0'
      have := hrec (j, O.set j ((r * 4294967296 + l[j]) / m)) ⟨by omega, by simp [h2], fun x hxx => by
          rcases List.mem_or_eq_of_mem_set hxx with h | h
          · exact h3 x h
          · rw [h]; exact hq, by
          dsimp only
          rw [hd, val_cons, s1, List.drop_set, if_neg (by omega), Nat.sub_self, List.drop_eq_getElem_cons (by omega : j < O.length), List.set_cons_zero, val_cons, h4]⟩ (by dsimp only; omega)
      dsimp only at this
      rw [hd, val_cons, s2] at this
      rw [hi]
      simp only [GMb, joinPt, decide_true, decide_false, if_true, if_false, ag_succ, hge, w1, idx_enL hj, load_cptr, List.getElem?_cons_zero, w2, w3, hcm 0, bin_quo hmz, w4, w5, hidx, hst, and_true, eq_self, bin_rem hmz, w6, w7]
      exact this
end Go.Gm
/- Chapter 3 of the document: numbers as texts. -/
namespace Go.Gm
set_option linter.unusedVariables false
set_option linter.unusedSimpArgs false
/-- The digits of a number. -/
def decN (n : Nat) : List UInt8 := if h : n < 10 then [UInt8.ofNat (48 + n)] else decN (n / 10) ++ [UInt8.ofNat (48 + n % 10)]
termination_by n
decreasing_by omega
def decZ (z : Int) : List UInt8 := if z < 0 then 45 :: decN z.natAbs else decN z.natAbs
theorem decN_len : ∀ n, (decN n).length ≤ n + 1 := by
  intro n
  induction n using Nat.strongRecOn with
  | ind n ih =>
    unfold decN
    split
    · simp
    · have := ih (n / 10) (by omega)
      simp; omega
theorem decN_log : ∀ (k n : Nat), n < 10 ^ (k + 1) → (decN n).length ≤ k + 1 := by
  intro k
  induction k with
  | zero => intro n h; unfold decN; rw [dif_pos (by omega)]; simp
  | succ k ih =>
    intro n h
    unfold decN
    split
    · simp
    · have h2 : n / 10 < 10 ^ (k + 1) := by
        rw [Nat.div_lt_iff_lt_mul (by omega), ← Nat.pow_succ]; exact h
      have := ih (n / 10) h2
      simp; omega
theorem decN_log2 (k n : Nat) (h : n < 10 ^ k) : (decN n).length ≤ k + (if k = 0 then 1 else 0) := by
  cases k with
  | zero => have := decN_log 0 n (by omega); simpa using this
  | succ k => have := decN_log k n h; simpa using this
theorem digit_u8 {d : Nat} (h : d < 10) : convInt .u8 (.int .u32 (IntKind.u32.wrap (48 + (d : Int)))) = some (.int .u8 ((UInt8.ofNat (48 + d)).toNat : Int)) := by
  rw [conv_int, wrap_u32 (by omega) (by omega), wrap_u8 (by omega) (by omega), UInt8.toNat_ofNat_of_lt' (show 48 + d < 256 by omega)]
  rfl
theorem pow10_32 (k : Nat) : 10 ^ k ≤ 4294967296 ^ k := Nat.pow_le_pow_left (by omega) k
theorem lims_short {n : Nat} (h : n < 10 ^ 4096) : (lims n).length ≤ 4096 := lims_len (Nat.lt_of_lt_of_le h (pow10_32 4096))
theorem q03_text (z : Int) (H : AHeap) (hz : z.natAbs < 10 ^ 4096) : Sh.gliderref03_Text (big z) H = some (.ret (.str (decZ z)), H) := by
  unfold Sh.gliderref03_Text
  have g0 : loadA false 1 (.ptr H.length 0 0) (H ++ [Blk.cel 0 (bigC z)]) = some (.bool (decide (z < 0))) := by simp only [loadA, get_cel last_cel, Option.bind_some]; rfl
  have g1 : loadA false 1 (.ptr H.length 0 1) (H ++ [Blk.cel 0 (bigC z)]) = some (.sl (enL cU (lims z.natAbs)) .no) := by simp only [loadA, get_cel last_cel, Option.bind_some]; rfl
  simp only [GMb, joinPt, decide_true, decide_false, if_true, if_false, boxBig, fieldAddr_ptr, Nat.zero_add, g1]
  have hmeas : ∀ n : Nat, n < 10 ^ 4096 → (decN n).length ≤ 4096 := fun n h => decN_log2 4096 n h
  have key := loop_fun (G := fun rec1 vs H1 => Sh.gliderref03_Text_l1 H rec1 (ag vs 0) (ag vs 1) (ag vs 2) H1) (σ := Nat × List UInt8) (fun s => s.1 < 10 ^ 4096 ∧ s.2.length + (decN s.1).length ≤ 5000)
    (fun s => [.ptr H.length 0 0, .str s.2, .sl (enL cU (lims s.1)) .no]) (fun _ => H ++ [.cel 0 (bigC z)]) (fun s => (decN s.1).length)
    (fun s => some (.ret (.str ((if z < 0 then [45] else []) ++ decN s.1 ++ s.2)), H)) (fun s rec hs hrec => ?_) (z.natAbs, []) ⟨hz, by have := hmeas _ hz; simp; omega⟩ (by have := hmeas _ hz; dsimp only; omega)
  · refine key.trans ?_
    unfold decZ
    dsimp only
    split <;> simp
  · obtain ⟨n, s⟩ := s
    obtain ⟨h1, h2⟩ := hs
    simp only at h1 h2 hrec ⊢
    have hdiv := fun H => q01_div (lims n) .no 10 H (by have := lims_short h1; omega) (lim_lims n) (by omega) (by omega)
    simp only [val_lims, show ((10 : Nat) : Int) = 10 from rfl] at hdiv
    have hd : n % 10 < 10 := Nat.mod_lt _ (by omega)
    have hdig := digit_u8 hd
    unfold Sh.gliderref03_Text_l1
    simp only [GMb, joinPt, decide_true, decide_false, if_true, if_false, ag_succ, hdiv, extract_0, extract_1, hdig, build_Y, toStr_enL]
    rw [bin_sadd (by simp; omega)]
    simp only [GMb, joinPt, decide_true, decide_false, if_true, if_false, len_enL]
    by_cases hn : n < 10
    · have h0 : n / 10 = 0 := by omega
      have hm : n % 10 = n := by omega
      have hdn : decN n = [UInt8.ofNat (48 + n)] := by unfold decN; rw [dif_pos hn]
      rw [hdn, h0, lims_zero, hm]
      simp only [GMb, joinPt, decide_true, decide_false, if_true, if_false, List.length_nil, show ((0 : Nat) : Int) = 0 from rfl, fieldAddr_ptr, Nat.add_zero, g0]
      by_cases hz0 : z < 0
      · simp only [hz0, GMb, joinPt, decide_true, decide_false, if_true, if_false]
        rw [bin_sadd (by simp; omega)]
        simp only [GMb, joinPt, decide_true, decide_false, if_true, if_false, rP_str]
        simp
      · simp only [hz0, GMb, joinPt, decide_true, decide_false, if_true, if_false, rP_str]
        simp
    · have h0 : n / 10 ≠ 0 := by omega
      have hne : ¬ ((lims (n / 10)).length : Int) = 0 := by
        have := List.length_pos_iff.2 (lims_ne h0); omega
      have hdn : decN n = decN (n / 10) ++ [UInt8.ofNat (48 + n % 10)] := by
        conv => lhs; unfold decN
        rw [dif_neg hn]
      have hlen : (decN n).length = (decN (n / 10)).length + 1 := by rw [hdn]; simp
      have := hrec (n / 10, [UInt8.ofNat (48 + n % 10)] ++ s) ⟨Nat.lt_of_le_of_lt (Nat.div_le_self _ _) h1, by simp; omega⟩ (by dsimp only; omega)
      simp only [hne, GMb, joinPt, decide_true, decide_false, if_true, if_false]
      rw [this, hdn]
      simp
end Go.Gm
/- Chapter 1 of the document: times a number, and one more. -/
namespace Go.Gm
set_option linter.unusedVariables false
set_option linter.unusedSimpArgs false
theorem q01_mul {l : List Nat} {tk : Tok} {m c : Nat} (H : AHeap) (hx : Lim l) (hl : l.length ≤ 1099511627775) (hm : m < 4294967296) (hc : c < 4294967296) :
    Sh.gliderref01_Mul (.sl (enL cU l) tk) (.int .u32 (m : Int)) (.int .u32 (c : Int)) H = some (.ret (.sl (enL cU (lims (val l * m + c))) .no), H) := by
  unfold Sh.gliderref01_Mul
  have hcc : convInt .u64 (.int .u32 (c : Int)) = some (.int .u64 (c : Int)) := by rw [conv_int, wrap_u64 (by omega) (by omega)]
  have hcm : convInt .u64 (.int .u32 (m : Int)) = some (.int .u64 (m : Int)) := by rw [conv_int, wrap_u64 (by omega) (by omega)]
  simp only [GMb, joinPt, decide_true, decide_false, if_true, if_false, hcc]
  refine loop_up l.length (fun i => [.sl (enL cU l) tk, .int .u32 (m : Int), outS cU H (mulS l m c i).1, .int .u64 ((mulS l m c i).2 : Int), .int .i64 (i : Int)])
    (fun i => outT cU ty_uint32 1 H (mulS l m c i).1) _ (by omega) (fun rec i hi => ?_) (fun rec => ?_)
  · obtain ⟨h1, h2, h3, h4⟩ := mulS_ok hx hm hc i (by omega)
    have hi' : (i : Int) < (l.length : Int) := by omega
    have hxi := hx _ (List.getElem_mem hi)
    have hg : l[i]?.getD 0 = l[i] := by rw [List.getElem?_eq_getElem hi]; rfl
    have ht := mul_step hxi hm h2
    obtain ⟨t, htt⟩ : ∃ t, t = (mulS l m c i).2 + l[i] * m := ⟨_, rfl⟩
    have hP : l[i] * m ≤ 4294967295 * 4294967295 := Nat.mul_le_mul (by omega) (by omega)
    have w1 : convInt .u64 (.int .u32 (l[i] : Int)) = some (.int .u64 (l[i] : Int)) := by rw [conv_int, wrap_u64 (by omega) (by omega)]
    have w2 : IntKind.u64.wrap ((l[i] : Int) * (m : Int)) = ((l[i] * m : Nat) : Int) := by rw [← Int.natCast_mul, wrap_u64 (by omega) (by omega)]
    have w3 : IntKind.u64.wrap (((l[i] * m : Nat) : Int) + ((mulS l m c i).2 : Int)) = (t : Int) := by rw [wrap_u64] <;> omega
    have w7 : (t : Int).tmod 4294967296 = ((t % 4294967296 : Nat) : Int) := rfl
    have w4 : convInt .u32 (.int .u64 ((t % 4294967296 : Nat) : Int)) = some (.int .u32 ((t % 4294967296 : Nat) : Int)) := by rw [conv_int, wrap_u32 (by omega) (by omega)]
    have w5 : IntKind.u64.wrap ((t : Int).tdiv 4294967296) = ((t / 4294967296 : Nat) : Int) := by rw [show (t : Int).tdiv 4294967296 = ((t / 4294967296 : Nat) : Int) from rfl, wrap_u64 (by omega) (by omega)]
    have w6 : IntKind.i64.wrap ((i : Int) + 1) = ((i + 1 : Nat) : Int) := by rw [wrap_i64] <;> omega
    have hap := append_out (f := cU) (ty := ty_uint32) (sz := 1) (tk := .tight) (bytes := 4) (B := H) (l := (mulS l m c i).1) (m := [t % 4294967296]) (by simp) (by simp; omega) (by simp; omega)
    unfold Sh.gliderref01_Mul_l1
    simp only [GMb, joinPt, decide_true, decide_false, if_true, if_false, ag_succ, len_enL, hi', idx_enL hi, load_cptr, List.getElem?_cons_zero, w1, hcm, w2, w3, bin_rem (show (4294967296 : Int) ≠ 0 by decide), bin_quo (show (4294967296 : Int) ≠ 0 by decide), w7, w4, build_U, hap, w5, w6]
    simp only [mulS, hg, ← htt]
  · obtain ⟨h1, h2, h3, h4⟩ := mulS_ok hx hm hc l.length (Nat.le_refl _)
    have w4 : convInt .u32 (.int .u64 ((mulS l m c l.length).2 : Int)) = some (.int .u32 ((mulS l m c l.length).2 : Int)) := by rw [conv_int, wrap_u32 (by omega) (by omega)]
    have hap := append_out (f := cU) (ty := ty_uint32) (sz := 1) (tk := .tight) (bytes := 4) (B := H) (l := (mulS l m c l.length).1) (m := [(mulS l m c l.length).2]) (by simp) (by simp; omega) (by simp; omega)
    obtain ⟨o, ho⟩ : ∃ o, o = (mulS l m c l.length).1 ++ [(mulS l m c l.length).2] := ⟨_, rfl⟩
    have hox : Lim o := by
      intro x hxx
      rw [ho] at hxx
      rcases List.mem_append.1 hxx with h | h
      · exact h3 x h
      · rw [List.mem_singleton.1 h]; exact h2
    have hov : val o = val l * m + c := by
      rw [ho, val_append, h1, val_single]
      rw [List.take_length] at h4
      exact h4
    have hol : o.length ≤ 1099511627776 := by rw [ho]; simp; omega
    rw [← ho] at hap
    obtain ⟨G, hG⟩ := outT_eq (f := cU) (ty := ty_uint32) (sz := 1) H o
    have hn := q01_norm o (outK H o) (H ++ G) hol hox
    rw [hov] at hn
    unfold Sh.gliderref01_Mul_l1
    simp only [GMb, joinPt, decide_true, decide_false, if_true, if_false, ag_succ, Int.lt_irrefl, len_enL, w4, build_U, hap]
    simp only [outS_eq, hG, hn, GMb, joinPt, decide_true, decide_false, if_true, if_false, rPN_app, fall_sl, Option.map_some]
end Go.Gm
/- The forms of dec.pad, and of slices.Reverse on a row of texts. -/
namespace Go.Gm
set_option linter.unusedVariables false
set_option linter.unusedSimpArgs false
theorem decN_lib (n : Nat) : Lib.decDigits n = decN n := by
  induction n using Nat.strongRecOn with
  | ind n ih =>
    unfold Lib.decDigits decN
    split
    · rfl
    · rw [ih (n / 10) (by omega)]
theorem decN_pos (n : Nat) : 0 < (decN n).length := by
  unfold decN
  split <;> simp
/-- Nine digits. -/
def pad9 (n : Nat) : List UInt8 := Lib.repeatL [48] (9 - (decN n).length) ++ decN n
theorem q_pad {n : Nat} (H : AHeap) (hn : n < 1000000000) : Sh.dec_pad (.int .u32 (n : Int)) H = some (.ret (.str (pad9 n)), H) := by
  have hl : (decN n).length ≤ 9 := decN_log2 9 n hn
  have hc : convInt .i64 (.int .u32 (n : Int)) = some (.int .i64 (n : Int)) := by rw [conv_int, wrap_i64 (by omega) (by omega)]
  have hi : Sh.strconv_Itoa (.int .i64 (n : Int)) H = some (.ret (.str (decN n)), H) := by
    unfold Sh.strconv_Itoa
    simp only []
    rw [if_pos ⟨by omega, by omega⟩, Lib.itoa, if_neg (by omega), Int.toNat_natCast, decN_lib]
  have hw : IntKind.i64.wrap (9 - ((decN n).length : Int)) = ((9 - (decN n).length : Nat) : Int) := by rw [wrap_i64] <;> omega
  have hr : Sh.strings_Repeat (.str [48]) (.int .i64 ((9 - (decN n).length : Nat) : Int)) H = some (.ret (.str (Lib.repeatL [48] (9 - (decN n).length))), H) := by
    unfold Sh.strings_Repeat
    simp only []
    rw [if_pos ⟨by omega, by omega, by simp; omega⟩, Int.toNat_natCast]
  have hrl := Lib.repeatL_length [48] (9 - (decN n).length)
  unfold Sh.dec_pad
  simp only [GMb, joinPt, decide_true, decide_false, if_true, if_false, hc, hi, len_str, hw, hr]
  rw [bin_sadd (by simp at hrl; omega)]
  simp only [GMb, joinPt, decide_true, decide_false, if_true, if_false, pad9]
section
variable {H : AHeap} {id g i : Nat} {L : List (List UInt8)}
theorem load_elS (hg : getCells H id g = some (flat cS L)) (h : i < L.length) : loadA false 1 (.ptr id g i) H = some (.str L[i]) := by
  have h1 := flat_at (f := cS) (sz := 1) h
  have h2 := flat_le (f := cS) (sz := 1) h
  simp only [Nat.mul_one] at h1 h2
  simp only [loadA, hg, Option.bind_some, Bool.false_eq_true, if_false]
  have h3 : ((flat cS L).drop i)[0]? = (cS L[i])[0]? := by rw [← h1]; simp
  simpa using h3
theorem store_elS {s : List UInt8} (hg : getCells H id g = some (flat cS L)) (h : i < L.length) : storeA 1 (.ptr id g i) (.str s) H = some (setC H id g (flat cS (L.set i s))) := by
  have h2 := flat_le (f := cS) (sz := 1) h
  have h3 := flat_set (f := cS) (sz := 1) (a := s) h
  simp only [Nat.mul_one] at h2 h3
  simp only [storeA, hg, Option.bind_some, show (AVal.str s).acells = some [.str s] from rfl, List.length_cons, List.length_nil, Nat.zero_add, h2, and_self, if_true]
  rw [h3]
end
/-- A row of texts that grows, behind a heap. -/
def pS (B : AHeap) (P : List (List UInt8)) : AVal := if P = [] then .sl [] .tight else .ms B.length (P.length - 1) 0 P.length P.length 1 false
def pT (ty : TypeId) (B : AHeap) (P : List (List UInt8)) : AHeap := if P = [] then B else B ++ [.buf (P.length - 1) (flat cS P) ty 1]
theorem append_pS {ty : TypeId} {B : AHeap} {P : List (List UInt8)} {s : List UInt8} (h : P.length < 1000000) : appendM ty 1 16 (pS B P) (.sl (enL cS [s]) .tight) (pT ty B P) = some (pS B (P ++ [s]), pT ty B (P ++ [s])) := by
  unfold appendM
  have he : elemsA 1 (.sl (enL cS [s]) .tight) (pT ty B P) = some (enL cS [s]) := by simp [elemsA, enL]
  rw [he]
  simp only [Option.bind_some]
  have hne : P ++ [s] ≠ [] := by simp
  cases P with
  | nil => simp [appendB, pS, pT, enL, flat]
  | cons p P =>
    have hf := flat_len (f := cS) (sz := 1) (p :: P)
    rw [Nat.mul_one] at hf
    simp only [pS, pT, hne, if_false, reduceCtorEq]
    unfold appendB
    simp only [List.getElem?_concat_length, hf, Nat.mul_one, Nat.le_refl, true_and, and_true]
    rw [if_neg (by simp [enL])]
    have h1 : (enL cS [s]).length = 1 := rfl
    have h3 : (enL cS [s]).flatten = flat cS [s] := by simp [enL, flat]
    have h2 := h
    rw [List.length_cons] at h2
    rw [h1, h3]
    simp only [List.getElem?_append_right (Nat.le_refl B.length), Nat.sub_self, List.getElem?_cons_zero, List.length_cons] at hf ⊢
    rw [if_pos ⟨by omega, by omega⟩]
    rw [List.take_of_length_le (by rw [hf]; omega), ← flat_append]
    simp [last_set]
theorem get_pT {B : AHeap} {g : Nat} {cs : List AVal} {ty : TypeId} : getCells (B ++ [Blk.buf g cs ty 1]) B.length g = some cs := by simp [getCells]
theorem setC_pT {B : AHeap} {g : Nat} {cs cs' : List AVal} {ty : TypeId} : setC (B ++ [Blk.buf g cs ty 1]) B.length g cs' = B ++ [Blk.buf g cs' ty 1] := by simp [setC]
/-- What lies there when i of them have been turned at either end. -/
def Turn (P L : List (List UInt8)) (i : Nat) : Prop := L.length = P.length ∧ ∀ k, k < P.length → L[k]? = if k < i ∨ P.length - i ≤ k then P[P.length - 1 - k]? else P[k]?
theorem Turn.step {P L : List (List UInt8)} {i : Nat} (h : Turn P L i) (hi : i < P.length - 1 - i) (hl : i < L.length) (hj : P.length - 1 - i < L.length) : Turn P ((L.set i L[P.length - 1 - i]).set (P.length - 1 - i) L[i]) (i + 1) := by
  obtain ⟨h1, h2⟩ := h
  refine ⟨by simp [h1], fun k hk => ?_⟩
  have ei := h2 i (by omega)
  have ej := h2 (P.length - 1 - i) (by omega)
  rw [List.getElem?_eq_getElem hl, if_neg (by omega)] at ei
  rw [List.getElem?_eq_getElem hj, if_neg (by omega)] at ej
  by_cases k1 : k = P.length - 1 - i
  · subst k1
    rw [List.getElem?_set_self (by simp; omega), if_pos (by omega), ei]
    congr 1
    omega
  · rw [List.getElem?_set_ne (Ne.symm k1)]
    by_cases k2 : k = i
    · subst k2
      rw [List.getElem?_set_self hl, if_pos (by omega), ej]
    · rw [List.getElem?_set_ne (Ne.symm k2), h2 k hk]
      by_cases k3 : k < i ∨ P.length - i ≤ k
      · rw [if_pos k3, if_pos (by omega)]
      · rw [if_neg k3, if_neg (by omega)]
theorem Turn.done {P L : List (List UInt8)} {i : Nat} (h : Turn P L i) (hi : ¬ i < P.length - 1 - i) : L = P.reverse := by
  apply List.ext_getElem?
  intro k
  by_cases hk : k < P.length
  · rw [h.2 k hk, List.getElem?_reverse hk]
    split
    · rfl
    · congr 1
      omega
  · rw [List.getElem?_eq_none (by rw [h.1]; omega), List.getElem?_eq_none (by simp; omega)]
theorem q_reverse {ty : TypeId} {B : AHeap} {P : List (List UInt8)} (h : P.length < 1000000) : Sh.slices_Reverse___string_string_ (pS B P) (pT ty B P) = some (.ret (.tup []), pT ty B (P.reverse)) := by
  unfold Sh.slices_Reverse___string_string_
  by_cases hP : P = []
  · subst hP
    simp only [pS, pT, if_true, List.reverse_nil]
    have hw : IntKind.i64.wrap (0 - 1) = -1 := rfl
    simp only [show lenSl (.sl [] .tight) = some (.int .i64 0) from rfl, GMb, joinPt, decide_true, decide_false, if_true, if_false, hw]
    rw [loop_turn fuel_pos]
    unfold Sh.slices_Reverse___string_string__l1
    simp
  · have hpos : 0 < P.length := List.length_pos_iff.2 hP
    have hRn : P.reverse ≠ [] := by simp [hP]
    have hw : IntKind.i64.wrap ((P.length : Int) - 1) = ((P.length - 1 : Nat) : Int) := by rw [wrap_i64] <;> omega
    simp only [pS, pT, hP, hRn, if_false, List.length_reverse, show lenSl (.ms B.length (P.length - 1) 0 P.length P.length 1 false) = some (.int .i64 (P.length : Int)) from rfl, GMb, joinPt, decide_true, decide_false, if_true, if_false, hw]
    have key := loop_fun (G := fun rec1 vs H1 => Sh.slices_Reverse___string_string__l1 (B ++ [.buf (P.length - 1) (flat cS P) ty 1]) rec1 (ag vs 0) (ag vs 1) (ag vs 2) H1) (σ := Nat × List (List UInt8)) (fun s => Turn P s.2 s.1 ∧ s.1 ≤ P.length) (fun s => [.ms B.length (P.length - 1) 0 P.length P.length 1 false, .int .i64 (s.1 : Int), .int .i64 ((P.length : Int) - 1 - s.1)])
      (fun s => B ++ [.buf (P.length - 1) (flat cS s.2) ty 1]) (fun s => P.length - s.1) (fun _ => some (.ret (.tup []), B ++ [.buf (P.length - 1) (flat cS P.reverse) ty 1])) (fun s rec hs hrec => ?_) (0, P) ⟨⟨rfl, fun k hk => by rw [if_neg (by omega)]⟩, Nat.zero_le _⟩ (by dsimp only; omega)
    · rw [show ((P.length : Int) - 1 - ((0 : Nat) : Int)) = ((P.length - 1 : Nat) : Int) by omega] at key
      exact key
    · obtain ⟨i, L⟩ := s
      obtain ⟨ht, hi⟩ := hs
      simp only at ht hi hrec ⊢
      unfold Sh.slices_Reverse___string_string__l1
      by_cases hlt : i < P.length - 1 - i
      · have hlt' : (i : Int) < (P.length : Int) - 1 - (i : Int) := by omega
        have hl : i < L.length := by rw [ht.1]; omega
        have hj : P.length - 1 - i < L.length := by rw [ht.1]; omega
        have ej : (P.length : Int) - 1 - (i : Int) = ((P.length - 1 - i : Nat) : Int) := by omega
        have x1 := idx_ms (sz := 1) (id := B.length) (n := P.length) (K := .i64) (g := P.length - 1) (off := 0) (cap := P.length) (ex := false) (i := i) (by omega)
        have x2 := idx_ms (sz := 1) (id := B.length) (n := P.length) (K := .i64) (g := P.length - 1) (off := 0) (cap := P.length) (ex := false) (i := P.length - 1 - i) (by omega)
        simp only [Nat.zero_add, Nat.mul_one] at x1 x2
        have l1 := load_elS (H := B ++ [Blk.buf (P.length - 1) (flat cS L) ty 1]) (id := B.length) (g := P.length - 1) get_pT hl
        have l2 := load_elS (H := B ++ [Blk.buf (P.length - 1) (flat cS L) ty 1]) (id := B.length) (g := P.length - 1) get_pT hj
        have s1 := store_elS (H := B ++ [Blk.buf (P.length - 1) (flat cS L) ty 1]) (id := B.length) (g := P.length - 1) (s := L[P.length - 1 - i]) get_pT hl
        have s2 := store_elS (H := B ++ [Blk.buf (P.length - 1) (flat cS (L.set i L[P.length - 1 - i])) ty 1]) (id := B.length) (g := P.length - 1) (i := P.length - 1 - i) (s := L[i]) get_pT (by simp; omega)
        rw [setC_pT] at s1 s2
        have w1 : IntKind.i64.wrap ((i : Int) + 1) = ((i + 1 : Nat) : Int) := by rw [wrap_i64] <;> omega
        have w2 : IntKind.i64.wrap ((P.length : Int) - 1 - (i : Int) - 1) = (P.length : Int) - 1 - ((i + 1 : Nat) : Int) := by rw [wrap_i64] <;> omega
        have hr := hrec (i + 1, (L.set i L[P.length - 1 - i]).set (P.length - 1 - i) L[i]) ⟨ht.step hlt hl hj, by dsimp only; omega⟩ (by dsimp only; omega)
        simp only [GMb, joinPt, decide_true, decide_false, if_true, if_false, ag_succ, hlt']
        rw [w2, ej, x2, obind, l2, bC_some trivial, x1, obind, l1, bC_some trivial]
        simp only [GMb, joinPt, decide_true, decide_false, if_true, if_false, s1, s2, w1]
        exact hr
      · have hlt' : ¬ (i : Int) < (P.length : Int) - 1 - (i : Int) := by omega
        have := ht.done hlt
        subst this
        simp only [GMb, joinPt, decide_true, decide_false, if_true, if_false, ag_succ, hlt']
end Go.Gm
/- The form of dec.Text. -/
namespace Go.Gm
set_option linter.unusedVariables false
set_option linter.unusedSimpArgs false
/-- The last k digits. -/
def padk : Nat → Nat → List UInt8
  | 0, _ => []
  | k + 1, r => padk k (r / 10) ++ [UInt8.ofNat (48 + r % 10)]
theorem padk_len : ∀ k r, (padk k r).length = k
  | 0, _ => rfl
  | k + 1, r => by simp [padk, padk_len k]
theorem padk_zero : ∀ k, padk k 0 = List.replicate k 48
  | 0 => rfl
  | k + 1 => by
    have : List.replicate (k + 1) (48 : UInt8) = List.replicate k 48 ++ [48] := List.replicate_succ'
    rw [this, padk, Nat.zero_div, padk_zero k]
    rfl
theorem decN_small {n : Nat} (h : n < 10) : decN n = [UInt8.ofNat (48 + n)] := by unfold decN; rw [dif_pos h]
theorem decN_big {n : Nat} (h : ¬ n < 10) : decN n = decN (n / 10) ++ [UInt8.ofNat (48 + n % 10)] := by
  conv => lhs; unfold decN
  rw [dif_neg h]
theorem padk_dec : ∀ k r, r < 10 ^ (k + 1) → padk (k + 1) r = List.replicate (k + 1 - (decN r).length) 48 ++ decN r
  | 0, r, h => by rw [decN_small (by simpa using h)]; simp [padk, Nat.mod_eq_of_lt (show r < 10 by simpa using h)]
  | k + 1, r, h => by
    by_cases hr : r < 10
    · rw [decN_small hr, padk, show r / 10 = 0 by omega, padk_zero, show r % 10 = r by omega]
      simp
    · have h2 : r / 10 < 10 ^ (k + 1) := by
        rw [Nat.div_lt_iff_lt_mul (by omega), ← Nat.pow_succ]; exact h
      rw [decN_big hr, padk, padk_dec k (r / 10) h2]
      simp
theorem rep_one (c : Nat) : Lib.repeatL [48] c = List.replicate c 48 := by
  induction c with
  | zero => rfl
  | succ c ih => rw [Lib.repeatL, ih, List.replicate_succ]; rfl
theorem pad9_padk {r : Nat} (h : r < 1000000000) : pad9 r = padk 9 r := by
  rw [padk_dec 8 r h, pad9, rep_one]
theorem decN_join {q : Nat} (hq : 0 < q) : ∀ k r, r < 10 ^ k → decN (q * 10 ^ k + r) = decN q ++ padk k r
  | 0, r, h => by
    have : r = 0 := by simpa using h
    subst this
    simp [padk]
  | k + 1, r, h => by
    have h2 : r / 10 < 10 ^ k := by
      rw [Nat.div_lt_iff_lt_mul (by omega), ← Nat.pow_succ]; exact h
    have hp : 1 ≤ 10 ^ k := Nat.pow_pos (by omega)
    have hqk : 1 ≤ q * 10 ^ k := Nat.mul_pos hq hp
    have e : q * 10 ^ (k + 1) + r = 10 * (q * 10 ^ k) + r := by rw [Nat.pow_succ]; rw [← Nat.mul_assoc]; omega
    rw [e, decN_big (by omega), show (10 * (q * 10 ^ k) + r) / 10 = q * 10 ^ k + r / 10 by omega, show (10 * (q * 10 ^ k) + r) % 10 = r % 10 by omega, decN_join hq k _ h2, padk]
    simp
/-- Nine digits by nine. -/
def padsJ (n : Nat) : List UInt8 := if h : n = 0 then [] else padsJ (n / 1000000000) ++ pad9 (n % 1000000000)
termination_by n
decreasing_by omega
theorem padsJ_zero : padsJ 0 = [] := by unfold padsJ; simp
theorem padsJ_pos {n : Nat} (h : n ≠ 0) : padsJ n = padsJ (n / 1000000000) ++ pad9 (n % 1000000000) := by
  conv => lhs; unfold padsJ
  rw [dif_neg h]
theorem pad9_len {r : Nat} (h : r < 1000000000) : (pad9 r).length = 9 := by rw [pad9_padk h, padk_len]
theorem padsJ_eq (n : Nat) (h : n ≠ 0) : ∃ k, padsJ n = List.replicate k 48 ++ decN n := by
  induction n using Nat.strongRecOn with
  | ind n ih =>
    rw [padsJ_pos h]
    have hr : n % 1000000000 < 1000000000 := Nat.mod_lt _ (by omega)
    by_cases hq : n / 1000000000 = 0
    · rw [hq, padsJ_zero, show n % 1000000000 = n by omega, pad9, rep_one]
      exact ⟨_, rfl⟩
    · obtain ⟨k, hk⟩ := ih (n / 1000000000) (by omega) hq
      have hj := decN_join (q := n / 1000000000) (by omega) 9 (n % 1000000000) hr
      rw [show n / 1000000000 * 10 ^ 9 + n % 1000000000 = n by omega] at hj
      refine ⟨k, ?_⟩
      rw [hk, hj, pad9_padk hr]
      simp
theorem decN_head (n : Nat) (h : n ≠ 0) : ∃ c r, decN n = c :: r ∧ c ≠ 48 := by
  induction n using Nat.strongRecOn with
  | ind n ih =>
    by_cases hn : n < 10
    · refine ⟨_, _, decN_small hn, fun e => ?_⟩
      have := congrArg UInt8.toNat e
      rw [UInt8.toNat_ofNat_of_lt' (show 48 + n < 256 by omega)] at this
      have h48 : (48 : UInt8).toNat = 48 := rfl
      omega
    · obtain ⟨c, r, h1, h2⟩ := ih (n / 10) (by omega) (by omega)
      exact ⟨c, r ++ [UInt8.ofNat (48 + n % 10)], by rw [decN_big hn, h1]; rfl, h2⟩
theorem drop_zeros : ∀ (k : Nat) (l : List UInt8), (∀ c r, l = c :: r → c ≠ 48) → Lib.trimLeftB (List.replicate k 48 ++ l) 48 = l
  | 0, l, h => by
    cases l with
    | nil => rfl
    | cons c r =>
      have := h c r rfl
      simp [Lib.trimLeftB, this]
  | k + 1, l, h => by
    have := drop_zeros k l h
    simpa [Lib.trimLeftB, List.replicate_succ] using this
theorem trim_pads (n : Nat) : Lib.trimLeftB (padsJ n) 48 = if n = 0 then [] else decN n := by
  by_cases h : n = 0
  · subst h; rw [padsJ_zero]; rfl
  · obtain ⟨k, hk⟩ := padsJ_eq n h
    obtain ⟨c, r, h1, h2⟩ := decN_head n h
    rw [hk, if_neg h, drop_zeros k _ (fun c' r' e => by rw [h1] at e; cases e; exact h2)]
theorem padsJ_len : ∀ (k n : Nat), n < 10 ^ (9 * k) → (padsJ n).length ≤ 9 * k
  | 0, n, h => by
    have : n = 0 := by simpa using h
    subst this; rw [padsJ_zero]; simp
  | k + 1, n, h => by
    by_cases h0 : n = 0
    · subst h0; rw [padsJ_zero]; simp
    · have h2 : n / 1000000000 < 10 ^ (9 * k) := by
        rw [Nat.div_lt_iff_lt_mul (by omega), show (1000000000 : Nat) = 10 ^ 9 from rfl, ← Nat.pow_add]; exact h
      have := padsJ_len k _ h2
      rw [padsJ_pos h0, List.length_append, pad9_len (Nat.mod_lt _ (by omega))]
      omega
theorem join_nil : ∀ xs : List (List UInt8), Lib.join xs [] = xs.flatten
  | [] => rfl
  | [x] => by simp [Lib.join, List.intercalate]
  | x :: y :: r => by
    have := join_nil (y :: r)
    simp only [Lib.join, List.intercalate] at this ⊢
    simp [this]
theorem strs_enL : ∀ L : List (List UInt8), strs (enL cS L) = some L
  | [] => rfl
  | x :: L => by
    have := strs_enL L
    simp only [enL, List.map_cons] at this ⊢
    simp [strs, this]
theorem elems_pS {ty : TypeId} {B : AHeap} {L : List (List UInt8)} : elemsA 1 (pS B L) (pT ty B L) = some (enL cS L) := by
  by_cases h : L = []
  · subst h; rfl
  · simp only [pS, pT, h, if_false]
    simp only [elemsA, if_true, get_pT, Option.bind_some, List.drop_zero, Nat.zero_add, flat_len, List.take_of_length_le (Nat.le_of_eq (flat_len (f := cS) L)), flat_immC, flat_imm, Nat.le_refl, and_self, chunk_fl]
theorem pS_rev (B : AHeap) (P : List (List UInt8)) : pS B P.reverse = pS B P := by simp [pS]
theorem pT_left {ty : TypeId} (B : AHeap) (P : List (List UInt8)) : ∃ G, pT ty B P = B ++ G := by
  unfold pT
  split
  · exact ⟨[], by simp⟩
  · exact ⟨_, rfl⟩
theorem pow10_up {a b : Nat} (h : a ≤ b) : 10 ^ a ≤ 10 ^ b := Nat.pow_le_pow_right (by omega) h
theorem padsJ_len2 {k m n : Nat} (hm : m ≤ 9 * k) (h : n < 10 ^ m) : (padsJ n).length ≤ 9 * k := padsJ_len k n (Nat.lt_of_lt_of_le h (pow10_up hm))
theorem decZ_zero : decZ 0 = [48] := by
  unfold decZ
  rw [if_neg (by decide)]
  exact decN_small (by decide)
theorem q_text (z : Int) (H : AHeap) (hz : z.natAbs < 10 ^ 4096) : Sh.dec_Text (big z) H = some (.ret (.str (decZ z)), H) := by
  unfold Sh.dec_Text
  obtain ⟨v, hv⟩ : ∃ v, v = z.natAbs := ⟨_, rfl⟩
  obtain ⟨B, hB⟩ : ∃ B, B = H ++ [Blk.cel 0 (bigC z)] := ⟨_, rfl⟩
  have g0 : ∀ P, loadA false 1 (.ptr H.length 0 0) (pT ty_string B P) = some (.bool (decide (z < 0))) := fun P => by
    obtain ⟨G, hG⟩ := pT_left (ty := ty_string) B P
    rw [hG, hB]
    exact load_left (by simp only [loadA, get_cel last_cel, Option.bind_some]; rfl)
  have g1 : loadA false 1 (.ptr H.length 0 1) B = some (.sl (enL cU (lims z.natAbs)) .no) := by rw [hB]; simp only [loadA, get_cel last_cel, Option.bind_some]; rfl
  have hJ : (padsJ v).length ≤ 4104 := padsJ_len2 (k := 456) (m := 4096) (n := v) (by omega) (by rw [hv]; exact hz)
  have hrP : ∀ (s : List UInt8) P, rP H (.str s) (pT ty_string B P) = some (.ret (.str s), H) := fun s P => by
    obtain ⟨G, hG⟩ := pT_left (ty := ty_string) B P
    rw [hG, hB, List.append_assoc]
    exact rP_str
  simp only [GMb, joinPt, decide_true, decide_false, if_true, if_false, boxBig, fieldAddr_ptr, Nat.zero_add]
  rw [← hB, g1, obind, ← hv]
  have key := loop_fun (G := fun rec1 vs H1 => Sh.dec_Text_l1 H rec1 (ag vs 0) (ag vs 1) (ag vs 2) H1) (σ := Nat × List (List UInt8)) (fun s => s.1 ≤ v ∧ padsJ s.1 ++ s.2.reverse.flatten = padsJ v ∧ s.2.length * 9 + (padsJ s.1).length = (padsJ v).length)
    (fun s => [.ptr H.length 0 0, pS B s.2, .sl (enL cU (lims s.1)) .no]) (fun s => pT ty_string B s.2) (fun s => (padsJ s.1).length)
    (fun _ => some (.ret (.str (decZ z)), H)) (fun s rec hs hrec => ?_) (v, []) ⟨Nat.le_refl _, by simp, by simp⟩ (by dsimp only; omega)
  · simp only [pS, pT, if_true] at key
    exact key
  · obtain ⟨n, P⟩ := s
    obtain ⟨h1, h2, h3⟩ := hs
    simp only at h1 h2 h3 hrec ⊢
    unfold Sh.dec_Text_l1
    by_cases hn : n = 0
    · subst hn
      rw [padsJ_zero, List.nil_append] at h2
      have he := elems_pS (ty := ty_string) (B := B) (L := P.reverse)
      rw [pS_rev] at he
      have hj : Sh.strings_Join (pS B P) (.str []) (pT ty_string B P.reverse) = some (.ret (.str (padsJ v)), pT ty_string B P.reverse) := by
        unfold Sh.strings_Join
        simp only [he, Option.bind_some, strs_enL, join_nil, h2]
        rw [if_pos ⟨by omega, by simp; omega⟩]
      have ht : Sh.strings_TrimLeft (.str (padsJ v)) (.str [48]) (pT ty_string B P.reverse) = some (.ret (.str (if v = 0 then [] else decN v)), pT ty_string B P.reverse) := by
        unfold Sh.strings_TrimLeft
        simp only []
        rw [if_pos (by decide), trim_pads]
      have hl0 : ¬ (((0 : Nat) : Int) > 0) := by decide
      simp only [GMb, joinPt, decide_true, decide_false, if_true, if_false, ag_succ, len_enL, lims_zero, List.length_nil, hl0, q_reverse (show P.length < 1000000 by omega), hj, ht]
      by_cases hv0 : v = 0
      · have hz0 : z = 0 := by omega
        subst hz0
        simp only [hv0, if_true, bin_seql, beq_self_eq_true, GMb, joinPt, decide_true, decide_false, if_true, if_false, hrP, decZ_zero]
      · obtain ⟨c, r, hc, _⟩ := decN_head v hv0
        have hne : (decN v == []) = false := by rw [hc]; rfl
        simp only [hv0, if_false, bin_seql, hne, GMb, joinPt, decide_true, decide_false, if_true, if_false, fieldAddr_ptr, Nat.zero_add, g0]
        by_cases hz0 : z < 0
        · have hlen : (decN v).length ≤ 5000 := by rw [hv]; have := decN_log2 4096 _ hz; simp at this; omega
          simp only [hz0, decide_true, GMb, joinPt, decide_true, decide_false, if_true, if_false]
          rw [bin_sadd (by simp; omega)]
          simp only [GMb, joinPt, decide_true, decide_false, if_true, if_false, hrP, decZ, hz0, if_true, ← hv]
          rfl
        · simp only [hz0, decide_false, GMb, joinPt, decide_true, decide_false, if_true, if_false, hrP, decZ, if_false, ← hv]
    · have hlv : (lims n).length ≤ 1099511627776 := by
        have := lims_short (n := n) (Nat.lt_of_le_of_lt h1 (by rw [hv]; exact hz))
        omega
      have hd := fun H => div_form (l := lims n) (tk := .no) (n := 1000000000) H (lim_lims n) hlv (lims_ne hn) (by omega) (by omega)
      simp only [val_lims, show ((1000000000 : Nat) : Int) = 1000000000 from rfl] at hd
      have hpd := fun H => q_pad (n := n % 1000000000) H (Nat.mod_lt _ (by omega))
      have hlg : ((lims n).length : Int) > 0 := by
        have := List.length_pos_iff.2 (lims_ne hn); omega
      have h9 := pad9_len (Nat.mod_lt n (by omega : 1000000000 > 0))
      have hpj := padsJ_pos hn
      have hap := append_pS (ty := ty_string) (B := B) (P := P) (s := pad9 (n % 1000000000)) (by omega)
      have hr := hrec (n / 1000000000, P ++ [pad9 (n % 1000000000)]) ⟨Nat.le_trans (Nat.div_le_self _ _) h1, by
          rw [hpj] at h2
          rw [← h2]
          simp, by
          rw [hpj, List.length_append] at h3
          simp only [List.length_append, List.length_cons, List.length_nil]
          omega⟩ (by dsimp only; rw [hpj, List.length_append]; omega)
      simp only [GMb, joinPt, decide_true, decide_false, if_true, if_false, ag_succ, len_enL, hlg, hd, extract_0, extract_1, hpd, build_S, hap]
      exact hr
end Go.Gm
/- Digits: how many stand somewhere (dec.Digits, and the document's). -/
namespace Go.Gm
set_option linter.unusedVariables false
set_option linter.unusedSimpArgs false
def isDig (c : UInt8) : Bool := decide (48 ≤ c.toNat) && decide (c.toNat ≤ 57)
def digN (s : List UInt8) : Nat := (s.takeWhile isDig).length
theorem digN_le (s : List UInt8) : digN s ≤ s.length := (List.takeWhile_sublist isDig).length_le
theorem digN_cons (c : UInt8) (s : List UInt8) : digN (c :: s) = if isDig c then digN s + 1 else 0 := by
  unfold digN
  rw [List.takeWhile_cons]
  split <;> simp
theorem byteAt (s : List UInt8) (pos : Nat) (h : pos < s.length) : ((⟨s.toArray⟩ : ByteArray)[pos]'(by show pos < s.toArray.size; simpa using h)) = s[pos] := by
  show s.toArray[pos] = s[pos]
  simp
theorem idx_from (s : List UInt8) : ∀ (f pos : Nat), pos ≤ s.length → s.length - pos ≤ f → Lib.idxFuncFrom noDig true ⟨s.toArray⟩ f pos = if pos + digN (s.drop pos) < s.length then ((pos + digN (s.drop pos) : Nat) : Int) else -1
  | 0, pos, h1, h2 => by
    have : pos = s.length := by omega
    subst this
    rw [Lib.idxFuncFrom, if_neg (by omega)]
  | f + 1, pos, h1, h2 => by
    have hsz : (⟨s.toArray⟩ : ByteArray).size = s.length := by simp [ByteArray.size]
    unfold Lib.idxFuncFrom
    rw [hsz]
    by_cases hp : pos < s.length
    · rw [if_pos hp, List.drop_eq_getElem_cons hp, digN_cons]
      have hb := byteAt s pos hp
      by_cases ha : s[pos].toNat < 128
      · rw [decode_ascii ⟨s.toArray⟩ pos (by omega) (by rw [hb]; exact ha), hb]
        simp only []
        by_cases hd : isDig s[pos] = true
        · have hnd : noDig s[pos].toNat = false := by
            simp only [isDig, Bool.and_eq_true, decide_eq_true_eq] at hd
            simp only [noDig, Bool.or_eq_false_iff, decide_eq_false_iff_not]
            omega
          rw [hnd, if_neg (by simp), if_pos hd, idx_from s f (pos + 1) (by omega) (by omega)]
          rw [show pos + (digN (s.drop (pos + 1)) + 1) = pos + 1 + digN (s.drop (pos + 1)) by omega]
        · have hnd : noDig s[pos].toNat = true := by
            simp only [isDig, Bool.and_eq_true, decide_eq_true_eq] at hd
            simp only [noDig, Bool.or_eq_true, decide_eq_true_eq]
            omega
          rw [hnd, if_pos rfl, if_neg hd, if_pos (by omega)]
          rfl
      · obtain ⟨k1, k2⟩ := decode_high ⟨s.toArray⟩ pos (by omega) (by rw [hb]; omega)
        have hd : ¬ isDig s[pos] = true := by
          simp only [isDig, Bool.and_eq_true, decide_eq_true_eq]
          omega
        have hnd : noDig (Utf8.decode ⟨s.toArray⟩ pos).1 = true := by
          simp only [noDig, Bool.or_eq_true, decide_eq_true_eq]
          omega
        rw [hnd, if_pos rfl, if_neg hd, if_pos (by omega)]
        rfl
    · rw [if_neg hp, if_neg (by omega)]
theorem idx_dig (s : List UInt8) : Lib.idxFunc noDig true ⟨s.toArray⟩ = if digN s < s.length then (digN s : Int) else -1 := by
  have hsz : (⟨s.toArray⟩ : ByteArray).size = s.length := by simp [ByteArray.size]
  have := idx_from s s.length 0 (Nat.zero_le _) (by omega)
  rw [Nat.zero_add, List.drop_zero] at this
  rw [Lib.idxFunc, hsz, this]
/-- Digits from a place on. -/
def digA (s : List UInt8) (at' : Int) : Nat := if at' < 0 then 0 else digN (s.drop at'.toNat)
theorem q_digits (s : List UInt8) (at' : Int) (H : AHeap) (hs : s.length < 1152921504606846976) : Sh.dec_Digits (.str s) (.int .i64 at') H = some (.ret (.int .i64 (digA s at')), H) := by
  unfold Sh.dec_Digits digA
  by_cases h0 : at' < 0
  · simp only [GMb, joinPt, decide_true, decide_false, if_true, if_false, h0, if_true]
    rfl
  · obtain ⟨a, rfl⟩ : ∃ a : Nat, at' = (a : Int) := ⟨at'.toNat, by omega⟩
    simp only [GMb, joinPt, decide_true, decide_false, if_true, if_false, h0, if_false, len_str, Int.toNat_natCast]
    by_cases h1 : a ≤ s.length
    · have h1' : ¬ ((a : Int) > (s.length : Int)) := by omega
      have hsl : sliceStr (.str s) (some (.int .i64 (a : Int))) none = some (.str (s.drop a)) := by
        simp [sliceStr, boundA, h1]
      have hi : Sh.strings_IndexFunc (.str (s.drop a)) (.fn 33 []) H = some (.ret (.int .i64 (if digN (s.drop a) < (s.drop a).length then (digN (s.drop a) : Int) else -1)), H) := by
        unfold Sh.strings_IndexFunc
        simp only [idx_dig]
      have hle := digN_le (s.drop a)
      simp only [h1', GMb, joinPt, decide_true, decide_false, if_true, if_false, hsl]
      by_cases hd : digN (s.drop a) < (s.drop a).length
      · have : ¬ ((digN (s.drop a) : Int) < 0) := by omega
        rw [hi, if_pos hd]
        simp only [this, GMb, joinPt, decide_true, decide_false, if_true, if_false]
      · have e : digN (s.drop a) = (s.drop a).length := by omega
        rw [hi, if_neg hd]
        simp only [show ((-1 : Int) < 0) from by decide, GMb, joinPt, decide_true, decide_false, if_true, if_false, len_str, ← e]
    · have h1' : (a : Int) > (s.length : Int) := by omega
      rw [List.drop_eq_nil_of_le (by omega)]
      simp only [h1', GMb, joinPt, decide_true, decide_false, if_true, if_false]
      rfl
theorem q03_digits (s : List UInt8) (at' : Int) (H : AHeap) (hs : s.length < 1152921504606846976) (hat : -9223372036854775808 ≤ at' ∧ at' ≤ 9223372036854775807) : Sh.gliderref03_Digits (.str s) (.int .i64 at') H = some (.ret (.int .i64 (digA s at')), H) := by
  unfold Sh.gliderref03_Digits digA
  by_cases h0 : at' < 0
  · rw [loop_turn fuel_pos, if_pos h0]
    unfold Sh.gliderref03_Digits_l1
    have h0' : ¬ at' ≥ 0 := by omega
    simp only [GMb, joinPt, decide_true, decide_false, if_true, if_false, ag_succ, h0']
    rfl
  · obtain ⟨a, rfl⟩ : ∃ a : Nat, at' = (a : Int) := ⟨at'.toNat, by omega⟩
    rw [if_neg h0, Int.toNat_natCast]
    have key := loop_fun (G := fun rec1 vs H1 => Sh.gliderref03_Digits_l1 H rec1 (ag vs 0) (ag vs 1) (ag vs 2) (ag vs 3) H1) (σ := Nat) (fun k => k ≤ digN (s.drop a) ∧ digN (s.drop a) = k + digN (s.drop (a + k))) (fun k => [.str s, .int .i64 (a : Int), .int .i64 (k : Int), .int .i64 ((a + k : Nat) : Int)]) (fun _ => H) (fun k => s.length - k)
      (fun _ => some (.ret (.int .i64 (digN (s.drop a) : Int)), H)) (fun k rec hk hrec => ?_) 0 ⟨Nat.zero_le _, by simp⟩ (by omega)
    · simpa using key
    · obtain ⟨h1, h2⟩ := hk
      have hle := digN_le (s.drop a)
      have hge : (a : Int) ≥ 0 := by omega
      unfold Sh.gliderref03_Digits_l1
      by_cases hlt : a + k < s.length
      · have hlt' : ((a + k : Nat) : Int) < (s.length : Int) := by omega
        rw [List.drop_eq_getElem_cons hlt, digN_cons] at h2
        have w1 : IntKind.i64.wrap ((k : Int) + 1) = ((k + 1 : Nat) : Int) := by rw [wrap_i64] <;> omega
        have w2 : IntKind.i64.wrap (((a + k : Nat) : Int) + 1) = ((a + (k + 1) : Nat) : Int) := by rw [wrap_i64] <;> omega
        simp only [GMb, joinPt, decide_true, decide_false, if_true, if_false, ag_succ, hge, len_str, hlt', idx_str hlt]
        by_cases hd : isDig s[a + k] = true
        · rw [if_pos hd] at h2
          have hd2 := hd
          simp only [isDig, Bool.and_eq_true, decide_eq_true_eq] at hd2
          have c1 : ((s[a + k].toNat : Int) ≥ 48) := by omega
          have c2 : ((s[a + k].toNat : Int) ≤ 57) := by omega
          simp only [c1, GMb, joinPt, decide_true, decide_false, if_true, if_false, idx_str hlt, c2, w1, w2]
          exact hrec (k + 1) ⟨by omega, by rw [show a + (k + 1) = a + k + 1 by omega]; omega⟩ (by rw [List.length_drop] at hle; omega)
        · rw [if_neg hd] at h2
          simp only [isDig, Bool.and_eq_true, decide_eq_true_eq] at hd
          by_cases c1 : ((s[a + k].toNat : Int) ≥ 48)
          · have c2 : ¬ ((s[a + k].toNat : Int) ≤ 57) := by omega
            simp only [c1, GMb, joinPt, decide_true, decide_false, if_true, if_false, idx_str hlt, c2]
            rw [h2]; rfl
          · simp only [c1, GMb, joinPt, decide_true, decide_false, if_true, if_false]
            rw [h2]; rfl
      · have hlt' : ¬ ((a + k : Nat) : Int) < (s.length : Int) := by omega
        rw [List.drop_eq_nil_of_le (by omega : s.length ≤ a + k)] at h2
        simp only [GMb, joinPt, decide_true, decide_false, if_true, if_false, ag_succ, hge, len_str, hlt']
        rw [h2]; rfl
end Go.Gm
/- The forms of dec.Parse, and of the document's. -/
namespace Go.Gm
set_option linter.unusedVariables false
set_option linter.unusedSimpArgs false
/-- The number that digits tell. -/
def decV (s : List UInt8) : Nat := s.foldl (fun v c => v * 10 + (c.toNat - 48)) 0
theorem decV_snoc (s : List UInt8) (c : UInt8) : decV (s ++ [c]) = decV s * 10 + (c.toNat - 48) := by simp [decV]
theorem digN_all {s : List UInt8} (h : digN s = s.length) : ∀ c ∈ s, isDig c = true := by
  induction s with
  | nil => intro c hc; cases hc
  | cons x s ih =>
    rw [digN_cons] at h
    by_cases hx : isDig x = true
    · rw [if_pos hx, List.length_cons] at h
      intro c hc
      rcases List.mem_cons.1 hc with e | e
      · rw [e]; exact hx
      · exact ih (by omega) c e
    · rw [if_neg hx] at h
      simp at h
theorem isDig_iff (c : UInt8) : isDig c = true ↔ 48 ≤ c.toNat ∧ c.toNat ≤ 57 := by simp [isDig]
theorem decV_lt {s : List UInt8} (h : ∀ c ∈ s, isDig c = true) : ∀ i, i ≤ s.length → decV (s.take i) < 10 ^ i
  | 0, _ => by simp [decV]
  | i + 1, hi => by
    have := decV_lt h i (by omega)
    have hc := (isDig_iff _).1 (h _ (List.getElem_mem (show i < s.length by omega)))
    rw [List.take_succ_eq_append_getElem (by omega), decV_snoc, Nat.pow_succ]
    omega
def sgnB (s : List UInt8) : Bool := match s with
  | c :: _ => c == 45
  | [] => false
def tailS (s : List UInt8) : List UInt8 := if sgnB s then s.drop 1 else s
def synB (s : List UInt8) : Bool := tailS s == [] || decide (digN (tailS s) < (tailS s).length) || ((tailS s)[0]?.getD 0 == 48 && !(s == [48]))
def parseE (s : List UInt8) : Int := if synB s then 2 else if (tailS s).length > 400 then 4 else 0
def parseZ (s : List UInt8) : Int := if parseE s = 0 then (if sgnB s then -(decV (tailS s) : Int) else decV (tailS s)) else 0
theorem q_cutprefix (s : List UInt8) (H : AHeap) (hs : s.length < 1152921504606846976) : Sh.strings_CutPrefix (.str s) (.str [45]) H = some (.ret (.tup [.str (tailS s), .bool (sgnB s)]), H) := by
  have hp : Sh.stringslite_HasPrefix (.str s) (.str [45]) H = some (.ret (.bool (sgnB s)), H) := by
    unfold Sh.stringslite_HasPrefix
    cases s with
    | nil => simp [lenStr, sgnB]
    | cons c r =>
      have h1 : ((c :: r).length : Int) ≥ (([45] : List UInt8).length : Int) := by simp; omega
      have h2 : sliceStr (.str (c :: r)) none (some (.int .i64 (([45] : List UInt8).length : Int))) = some (.str [c]) := by
        rw [slice_str_to (by simp)]; rfl
      simp only [len_str, GMb, joinPt, decide_true, decide_false, if_true, if_false, h1, h2, bin_seql]
      simp [sgnB]
  unfold Sh.strings_CutPrefix Sh.stringslite_CutPrefix
  cases hb : sgnB s with
  | false => simp only [GMb, joinPt, decide_true, decide_false, if_true, if_false, hp, hb, extract_0, extract_1, tailS, Bool.false_eq_true, if_false]
  | true =>
    have h2 : sliceStr (.str s) (some (.int .i64 (([45] : List UInt8).length : Int))) none = some (.str (s.drop 1)) := by
      refine slice_str_from (l := 1) ?_
      cases s with
      | nil => cases hb
      | cons c r => simp
    simp only [GMb, joinPt, decide_true, decide_false, if_true, if_false, hp, hb, len_str, h2, extract_0, extract_1, tailS, if_true]
theorem next_dig {B : AHeap} {d : List UInt8} {i : Nat} (h : i < d.length) (hd : d[i].toNat < 128) : nextA (.ptr B.length 0 0) (B ++ [.iter d i]) = some (.tup [.bool true, .int .i64 (i : Int), .int .i32 (d[i].toNat : Int)], B ++ [.iter d (i + 1)]) := by
  have hb := byteAt d i h
  have hdec := decode_ascii ⟨d.toArray⟩ i (by show i < d.toArray.size; simpa using h) (by rw [hb]; exact hd)
  simp only [nextA, List.getElem?_concat_length, h, if_true, hdec, hb, last_set]
theorem next_end {B : AHeap} {d : List UInt8} : nextA (.ptr B.length 0 0) (B ++ [.iter d d.length]) = some (.tup [.bool false], B ++ [.iter d d.length]) := by
  simp [nextA]
theorem fin_big {H G : AHeap} {zb : List AVal} {neg : Bool} {l : List Nat} {tk : Tok} {e : Int} (hz : zb.length = 2) :
    (bP H (retH (storeA 2 (.ptr H.length 0 0) (.agg [.bool neg, .sl (enL cU l) tk]) (H ++ (.cel 0 zb :: G)))) fun _ H40 => (resM [loadA true 2 (.ptr H.length 0 0) H40, some (.int .i64 e)]).bind fun x => rPN H x H40) = some (.ret (.tup [.agg [.bool neg, .sl (enL cU l) .no], .int .i64 e]), H) := by
  have h1 : storeA 2 (.ptr H.length 0 0) (.agg [.bool neg, .sl (enL cU l) tk]) (H ++ (.cel 0 zb :: G)) = some (H ++ (.cel 0 [.bool neg, .sl (enL cU l) tk] :: G)) := by
    rw [store_app0, store_all (vs := [.bool neg, .sl (enL cU l) tk]) rfl hz rfl]
    rfl
  have h2 : loadA true 2 (.ptr H.length 0 0) (H ++ (.cel 0 [.bool neg, .sl (enL cU l) tk] :: G)) = some (.agg [.bool neg, .sl (enL cU l) tk]) := by
    rw [load_app0]; rfl
  simp only [h1, GMb, joinPt, decide_true, decide_false, if_true, if_false, h2, resM_eq, seqO_cons, seqO_nil, Option.map_some, rPN_app, fall_tup, fparts_cons, fparts_nil, fpart_agg, fcells_cons, fcells_nil, fcell_sl, fcell_bool, fpart_int]
theorem big_zero : AVal.agg [.bool false, .sl (enL cU []) .no] = big 0 := by
  rw [big_eq, show (0 : Int).natAbs = 0 from rfl, lims_zero]
  rfl
theorem big_of {neg : Bool} {n : Nat} (h : neg = true → n ≠ 0) : AVal.agg [.bool neg, .sl (enL cU (lims n)) .no] = big (if neg then -(n : Int) else n) := by
  have h1 := big_sgn neg n
  have h2 : sgn neg n = neg := by
    unfold sgn
    cases neg with
    | false => rfl
    | true => simp [h rfl]
  rw [h2] at h1
  rw [h1]
  rfl
theorem build_none : buildA (some [(.bool false), (.sl [] .tight)]) [] = some (.agg [.bool false, .sl (enL cU []) .tight]) := rfl
theorem build_both {neg : Bool} {es : List (List AVal)} {tk : Tok} : buildA (some [(.bool false), (.sl [] .tight)]) [(0, 1, .bool neg), (1, 1, .sl es tk)] = some (.agg [.bool neg, .sl es tk]) := by simp [buildA, fillA, putN]
/-- What digits they are, when it may be read. -/
theorem syn_dig {s : List UInt8} (h : synB s = false) : tailS s ≠ [] ∧ digN (tailS s) = (tailS s).length ∧ ((tailS s)[0]?.getD 0 = 48 → s = [48]) := by
  unfold synB at h
  simp only [Bool.or_eq_false_iff, Bool.and_eq_false_iff, beq_eq_false_iff_ne, decide_eq_false_iff_not, ne_eq, Bool.not_eq_false', beq_iff_eq] at h
  have := digN_le (tailS s)
  refine ⟨h.1.1, by omega, fun h0 => ?_⟩
  rcases h.2 with h3 | h3
  · exact absurd h0 h3
  · exact h3
theorem decV_cons (c : UInt8) (s : List UInt8) : decV (c :: s) = (c.toNat - 48) * 10 ^ s.length + decV s := by
  have key : ∀ (s : List UInt8) (v : Nat), s.foldl (fun v c => v * 10 + (c.toNat - 48)) v = v * 10 ^ s.length + decV s := by
    intro s
    induction s with
    | nil => intro v; simp [decV]
    | cons x s ih =>
      intro v
      rw [List.foldl_cons, ih, List.length_cons, Nat.pow_succ]
      have e : decV (x :: s) = (x.toNat - 48) * 10 ^ s.length + decV s := by
        have := ih (0 * 10 + (x.toNat - 48))
        rw [Nat.zero_mul, Nat.zero_add] at this
        unfold decV
        rw [List.foldl_cons, Nat.zero_mul, Nat.zero_add]
        exact this
      rw [e, Nat.add_mul, Nat.mul_assoc v 10, Nat.mul_comm 10]
      omega
  have := key s (0 * 10 + (c.toNat - 48))
  rw [Nat.zero_mul, Nat.zero_add] at this
  conv => lhs; unfold decV
  rw [List.foldl_cons, Nat.zero_mul, Nat.zero_add]
  exact this
theorem decV_ne {s : List UInt8} (h : synB s = false) (hn : sgnB s = true) : decV (tailS s) ≠ 0 := by
  obtain ⟨h1, h2, h3⟩ := syn_dig h
  cases hd : tailS s with
  | nil => exact absurd hd h1
  | cons c r =>
    rw [decV_cons]
    have hc := digN_all h2 c (by rw [hd]; simp)
    rw [isDig_iff] at hc
    have h48 : c.toNat ≠ 48 := fun e => by
      have : c = 48 := UInt8.toNat.inj e
      have := h3 (by rw [hd, this]; rfl)
      rw [this] at hn
      cases hn
    have : 1 ≤ 10 ^ r.length := Nat.pow_pos (by omega)
    have : 1 ≤ (c.toNat - 48) * 10 ^ r.length := Nat.mul_pos (by omega) this
    omega
theorem wrap_i32 {n : Int} (h0 : -2147483648 ≤ n) (h : n ≤ 2147483647) : IntKind.i32.wrap n = n := by
  have h1 : IntKind.i32.bits = 32 := rfl
  have h2 : IntKind.i32.signed = true := rfl
  unfold IntKind.wrap
  simp only [h1, h2, Bool.true_and]
  split <;> rename_i hc <;> simp at hc <;> omega
theorem wrap_dig {c : UInt8} (h : isDig c = true) : IntKind.i32.wrap ((c.toNat : Int) - 48) = ((c.toNat - 48 : Nat) : Int) := by
  rw [isDig_iff] at h
  rw [wrap_i32 (by omega) (by omega)]
  omega
theorem lims_short2 {n m : Nat} (h : n < 10 ^ m) (hm : m ≤ 4096) : (lims n).length ≤ 4096 := lims_short (n := n) (Nat.lt_of_lt_of_le (m := 10 ^ m) h (pow10_up (a := m) (b := 4096) hm))
theorem q_parse (s : List UInt8) (H : AHeap) (hs : s.length < 1152921504606846976) : Sh.dec_Parse (.str s) H = some (.ret (.tup [big (parseZ s), .int .i64 (parseE s)]), H) := by
  unfold Sh.dec_Parse
  have htl : (tailS s).length ≤ s.length := by unfold tailS; split <;> simp
  have hcp := q_cutprefix s (H ++ [Blk.cel 0 [.bool false, .sl [] .tight]]) hs
  have hdg := q_digits (tailS s) 0 (H ++ [Blk.cel 0 [.bool false, .sl [] .tight]]) (by omega)
  have hd0 : (digA (tailS s) 0 : Int) = (digN (tailS s) : Int) := by simp [digA]
  rw [hd0] at hdg
  simp only [alloc_eq (cs := [.bool false, .sl [] .tight]) rfl, afterA_some, hcp, GMb, joinPt, decide_true, decide_false, if_true, if_false, extract_0, extract_1, bin_seql]
  have tail : Sh.dec_Parse_j1 H (.ptr H.length 0 0) (.str (tailS s)) (.bool (sgnB s)) (.bool (synB s)) (H ++ [Blk.cel 0 [.bool false, .sl [] .tight]]) = some (.ret (.tup [big (parseZ s), .int .i64 (parseE s)]), H) := by
    unfold Sh.dec_Parse_j1
    cases hsyn : synB s with
    | true =>
      have hE : parseE s = 2 := by simp [parseE, hsyn]
      have hZ : parseZ s = 0 := by simp [parseZ, hE]
      rw [hE, hZ, ← big_zero]
      simp only [GMb, joinPt, decide_true, decide_false, if_true, if_false, build_none]
      exact fin_big rfl
    | false =>
      obtain ⟨n1, n2, n3⟩ := syn_dig hsyn
      simp only [GMb, joinPt, decide_true, decide_false, if_true, if_false, len_str]
      by_cases hl : (tailS s).length > 400
      · have hl' : ((tailS s).length : Int) > 400 := by omega
        have hE : parseE s = 4 := by simp [parseE, hsyn, hl]
        have hZ : parseZ s = 0 := by simp [parseZ, hE]
        rw [hE, hZ, ← big_zero]
        simp only [hl', GMb, joinPt, decide_true, decide_false, if_true, if_false, build_none]
        exact fin_big rfl
      · have hl' : ¬ ((tailS s).length : Int) > 400 := by omega
        have hE : parseE s = 0 := by simp [parseE, hsyn, hl]
        have hZ : parseZ s = (if sgnB s then -(decV (tailS s) : Int) else decV (tailS s)) := by simp [parseZ, hE]
        have hne := decV_ne hsyn
        have hall := digN_all n2
        have hlt := decV_lt hall
        rw [hE, hZ, ← big_of (neg := sgnB s) hne]
        generalize hd : tailS s = d at *
        simp only [hl', GMb, joinPt, decide_true, decide_false, if_true, if_false]
        have hrg : rangeA (.str d) (H ++ [Blk.cel 0 [.bool false, .sl [] .tight]]) = some (.ptr (H.length + 1) 0 0, H ++ [.cel 0 [.bool false, .sl [] .tight]] ++ [.iter d 0]) := by simp [rangeA]
        simp only [hrg, GMb, joinPt, decide_true, decide_false, if_true, if_false]
        have hBl : (H ++ [Blk.cel 0 [.bool false, .sl [] .tight]]).length = H.length + 1 := by simp
        obtain ⟨tkf, htk⟩ : ∃ tkf : Nat → Tok, tkf = fun i => if i = 0 then .tight else .no := ⟨_, rfl⟩
        have key := loop_up (G := fun rec2 vs H1 => Sh.dec_Parse_l2 H rec2 (ag vs 0) (ag vs 1) (ag vs 2) (ag vs 3) H1) d.length (fun i => [.ptr H.length 0 0, .bool (sgnB s), .sl (enL cU (lims (decV (d.take i)))) (tkf i), .ptr (H.length + 1) 0 0])
          (fun i => H ++ [.cel 0 [.bool false, .sl [] .tight]] ++ [.iter d i]) (some (.ret (.tup [.agg [.bool (sgnB s), .sl (enL cU (lims (decV d))) .no], .int .i64 0]), H)) (by omega) (fun rec i hi => ?_) (fun rec => ?_)
        · rw [List.take_zero, show decV [] = 0 from rfl, lims_zero, htk] at key
          exact key
        · have hdi := hall _ (List.getElem_mem hi)
          have hdi2 := (isDig_iff _).1 hdi
          have hnx := next_dig (B := H ++ [Blk.cel 0 [.bool false, .sl [] .tight]]) hi (by omega)
          rw [hBl] at hnx
          have hw := wrap_dig hdi
          have hcv : convInt .u32 (.int .i32 ((d[i].toNat - 48 : Nat) : Int)) = some (.int .u32 ((d[i].toNat - 48 : Nat) : Int)) := by rw [conv_int, wrap_u32 (by omega) (by omega)]
          have hsh := lims_short2 (hlt i (by omega)) (by omega)
          have hml := fun H => q_mul (l := lims (decV (d.take i))) (tk := tkf i) (m := 10) (c := d[i].toNat - 48) H (lim_lims _) (by omega) (by omega) (by omega)
          simp only [val_lims, ← decV_snoc, ← List.take_succ_eq_append_getElem hi, show ((10 : Nat) : Int) = 10 from rfl] at hml
          have htk1 : tkf (i + 1) = .no := by rw [htk]; rfl
          unfold Sh.dec_Parse_l2
          simp only [ag_zero, ag_succ, hnx, GMb, joinPt, decide_true, decide_false, if_true, if_false, extract_0, show ∀ (x y z : AVal), extractA 2 (.tup [x, y, z]) = some z from fun _ _ _ => rfl, show ∀ (x y z : AVal), extractA 0 (.tup [x, y, z]) = some x from fun _ _ _ => rfl, hw, hcv, hml, htk1]
        · have hnx := next_end (B := H ++ [Blk.cel 0 [.bool false, .sl [] .tight]]) (d := d)
          rw [hBl] at hnx
          unfold Sh.dec_Parse_l2
          simp only [ag_zero, ag_succ, hnx, GMb, joinPt, decide_true, decide_false, if_true, if_false, show ∀ (x : AVal), extractA 0 (.tup [x]) = some x from fun _ => rfl, build_both, List.take_length]
          rw [List.append_assoc H]
          exact fin_big rfl
  by_cases h0 : tailS s = []
  · have hsyn : synB s = true := by simp [synB, h0]
    rw [hsyn] at tail
    simp only [h0, beq_self_eq_true, GMb, joinPt, decide_true, decide_false, if_true, if_false, ag_zero, ag_succ] at tail ⊢
    exact tail
  · have hb : (tailS s == []) = false := by simpa using h0
    simp only [hb, GMb, joinPt, decide_true, decide_false, if_true, if_false, hdg, len_str]
    by_cases hlt : digN (tailS s) < (tailS s).length
    · have hlt' : (digN (tailS s) : Int) < ((tailS s).length : Int) := by omega
      have hsyn : synB s = true := by simp [synB, hlt]
      rw [hsyn] at tail
      simp only [hlt', GMb, joinPt, decide_true, decide_false, if_true, if_false, ag_zero, ag_succ]
      exact tail
    · have hlt' : ¬ (digN (tailS s) : Int) < ((tailS s).length : Int) := by omega
      obtain ⟨c, r, hcr⟩ := List.exists_cons_of_ne_nil h0
      have hix : idxStr (.str (tailS s)) (.int .i64 0) = some (.int .u8 (c.toNat : Int)) := by rw [hcr]; exact idx_str0
      have hsyn : synB s = ((c == 48) && !(s == [48])) := by
        simp only [synB, hb, decide_eq_false hlt, Bool.false_or]
        rw [hcr]
        rfl
      have hcc : decide ((c.toNat : Int) = 48) = (c == 48) := by
        rw [Bool.eq_iff_iff]
        simp only [decide_eq_true_eq, beq_iff_eq]
        constructor
        · intro h
          exact UInt8.toNat.inj (show c.toNat = (48 : UInt8).toNat from by have : (48 : UInt8).toNat = 48 := rfl; omega)
        · intro h; rw [h]; rfl
      rw [hsyn] at tail
      simp only [hlt', GMb, joinPt, decide_true, decide_false, if_true, if_false, hix, hcc, bin_sneq]
      cases hc48 : (c == 48) with
      | false =>
        rw [hc48, Bool.false_and] at tail
        simp only [GMb, joinPt, decide_true, decide_false, if_true, if_false, ag_zero, ag_succ]
        exact tail
      | true =>
        rw [hc48, Bool.true_and] at tail
        simp only [GMb, joinPt, decide_true, decide_false, if_true, if_false, ag_zero, ag_succ]
        exact tail
end Go.Gm
/- The document's Parse; the same, and great. -/
namespace Go.Gm
set_option linter.unusedVariables false
set_option linter.unusedSimpArgs false
theorem syn_ref {s : List UInt8} {c : UInt8} {r : List UInt8} (hcr : tailS s = c :: r) (hlt : ¬ digN (tailS s) < (tailS s).length) : synB s = ((c == 48) && (decide (1 < r.length + 1) || sgnB s)) := by
  have hb : (tailS s == []) = false := by rw [hcr]; rfl
  have hsyn : synB s = ((c == 48) && !(s == [48])) := by
    simp only [synB, hb, decide_eq_false hlt, Bool.false_or]
    rw [hcr]
    rfl
  rw [hsyn]
  by_cases hc : c = 48
  · subst hc
    simp only [beq_self_eq_true, Bool.true_and]
    cases hn : sgnB s with
    | true =>
      have : s ≠ [48] := fun e => by rw [e] at hn; cases hn
      simp [this]
    | false =>
      have hs : s = 48 :: r := by rw [← hcr]; simp [tailS, hn]
      rw [hs]
      cases r <;> simp
  · have : (c == 48) = false := by simpa using hc
    simp [this]
theorem wrap_u8d {c : UInt8} (h : isDig c = true) : IntKind.u8.wrap ((c.toNat : Int) - 48) = ((c.toNat - 48 : Nat) : Int) := by
  rw [isDig_iff] at h
  rw [wrap_u8 (by omega) (by omega)]
  omega
theorem build_one {es : List (List AVal)} {tk : Tok} : buildA (some [(.bool false), (.sl [] .tight)]) [(1, 1, .sl es tk)] = some (.agg [.bool false, .sl es tk]) := by simp [buildA, fillA, putN]
theorem q03_parse (s : List UInt8) (H : AHeap) (hs : s.length < 1152921504606846976) : Sh.gliderref03_Parse (.str s) H = some (.ret (.tup [big (parseZ s), .int .i64 (parseE s)]), H) := by
  unfold Sh.gliderref03_Parse
  have htl : (tailS s).length ≤ s.length := by unfold tailS; split <;> simp
  have hdg := q03_digits (tailS s) 0 (H ++ [Blk.cel 0 [.bool false, .sl [] .tight]]) (by omega) (by omega)
  have hd0 : (digA (tailS s) 0 : Int) = (digN (tailS s) : Int) := by simp [digA]
  rw [hd0] at hdg
  have tail : Sh.gliderref03_Parse_j1 H (.ptr H.length 0 0) (.str (tailS s)) (.bool (sgnB s)) (H ++ [Blk.cel 0 [.bool false, .sl [] .tight]]) = some (.ret (.tup [big (parseZ s), .int .i64 (parseE s)]), H) := by
    unfold Sh.gliderref03_Parse_j1
    have bad : ∀ e : Int, parseE s = e → e ≠ 0 → ((buildA (some [(.bool false), (.sl [] .tight)]) []).bind fun x35 =>
 bP H (retH (storeA 2 (.ptr H.length 0 0) x35 (H ++ [Blk.cel 0 [.bool false, .sl [] .tight]]))) fun _ H37 =>
 (resM [loadA true 2 (.ptr H.length 0 0) H37, some (.int .i64 e)]).bind fun x38 => rPN H x38 H37) = some (.ret (.tup [big (parseZ s), .int .i64 (parseE s)]), H) := by
      intro e he hne
      have hZ : parseZ s = 0 := by simp [parseZ, he, hne]
      rw [he, hZ, ← big_zero, build_none, obind]
      exact fin_big rfl
    cases hcr : tailS s with
    | nil =>
      have hE : parseE s = 2 := by simp [parseE, synB, hcr]
      simp only [len_str, List.length_nil, GMb, joinPt, decide_true, decide_false, if_true, if_false, show ((0 : Nat) : Int) = 0 from rfl]
      exact bad 2 hE (by decide)
    | cons c r =>
      have hix : idxStr (.str (c :: r)) (.int .i64 0) = some (.int .u8 (c.toNat : Int)) := idx_str0
      have hcc : decide ((c.toNat : Int) = 48) = (c == 48) := by
        rw [Bool.eq_iff_iff]
        simp only [decide_eq_true_eq, beq_iff_eq]
        constructor
        · intro h
          exact UInt8.toNat.inj (show c.toNat = (48 : UInt8).toNat from by have : (48 : UInt8).toNat = 48 := rfl; omega)
        · intro h; rw [h]; rfl
      have hl0 : ¬ (((c :: r).length : Int) = 0) := by simp; omega
      rw [hcr] at hdg
      simp only [len_str, hl0, GMb, joinPt, decide_true, decide_false, if_true, if_false, hdg]
      by_cases hlt : digN (c :: r) < (c :: r).length
      · have hsyn : synB s = true := by simp only [synB, hcr, decide_eq_true hlt, Bool.or_true, Bool.true_or]
        have hne : ¬ ((digN (c :: r) : Int) = ((c :: r).length : Int)) := by omega
        have hE : parseE s = 2 := by simp [parseE, hsyn]
        simp only [hne, GMb, joinPt, decide_true, decide_false, if_true, if_false]
        exact bad 2 hE (by decide)
      · have hle := digN_le (c :: r)
        have heq : (digN (c :: r) : Int) = ((c :: r).length : Int) := by omega
        have hsr := syn_ref hcr (by rw [hcr]; exact hlt)
        have hgt : decide (((c :: r).length : Int) > 1) = decide (1 < r.length + 1) := by
          rw [Bool.eq_iff_iff]; simp only [decide_eq_true_eq, List.length_cons]; omega
        have fin : (∀ (K : AVal → Out), True) → (condA (.bool (synB s)) ((buildA (some [(.bool false), (.sl [] .tight)]) []).bind fun x35 =>
 bP H (retH (storeA 2 (.ptr H.length 0 0) x35 (H ++ [Blk.cel 0 [.bool false, .sl [] .tight]]))) fun _ H37 =>
 (resM [loadA true 2 (.ptr H.length 0 0) H37, some (.int .i64 2)]).bind fun x38 => rPN H x38 H37) (
 (lenStr (.str (c :: r))).bind fun x39 =>
 (binA .none .gtr x39 (.int .i64 400)).bind fun x40 =>
 condA x40 (
 (buildA (some [(.bool false), (.sl [] .tight)]) []).bind fun x41 =>
 bP H (retH (storeA 2 (.ptr H.length 0 0) x41 (H ++ [Blk.cel 0 [.bool false, .sl [] .tight]]))) fun _ H43 =>
 (resM [loadA true 2 (.ptr H.length 0 0) H43, some (.int .i64 4)]).bind fun x44 => rPN H x44 H43) (
 loopGen (fun rec2 vs H_1 => Sh.gliderref03_Parse_l2 H rec2 (ag vs 0) (ag vs 1) (ag vs 2) (ag vs 3) (ag vs 4) H_1) FUEL [.ptr H.length 0 0, .str (c :: r), .bool (sgnB s), (.sl [] .tight), (.int .i64 0)] (H ++ [Blk.cel 0 [.bool false, .sl [] .tight]])))) = some (.ret (.tup [big (parseZ s), .int .i64 (parseE s)]), H) := by
          intro _
          cases hsyn : synB s with
          | true =>
            have hE : parseE s = 2 := by simp [parseE, hsyn]
            simp only [GMb, joinPt, decide_true, decide_false, if_true, if_false]
            exact bad 2 hE (by decide)
          | false =>
            obtain ⟨n1, n2, n3⟩ := syn_dig hsyn
            simp only [GMb, joinPt, decide_true, decide_false, if_true, if_false, len_str]
            by_cases hl : (tailS s).length > 400
            · have hl' : ((c :: r).length : Int) > 400 := by rw [hcr] at hl; omega
              have hE : parseE s = 4 := by simp [parseE, hsyn, hl]
              simp only [hl', GMb, joinPt, decide_true, decide_false, if_true, if_false]
              exact bad 4 hE (by decide)
            · have hl' : ¬ ((c :: r).length : Int) > 400 := by rw [hcr] at hl; omega
              have hE : parseE s = 0 := by simp [parseE, hsyn, hl]
              have hZ : parseZ s = (if sgnB s then -(decV (tailS s) : Int) else decV (tailS s)) := by simp [parseZ, hE]
              have hall := digN_all n2
              have hdlt := decV_lt hall
              rw [hE, hZ]
              rw [← hcr]
              rw [← hcr] at hl'
              generalize hd : tailS s = d at *
              simp only [hl', GMb, joinPt, decide_true, decide_false, if_true, if_false]
              obtain ⟨tkf, htk⟩ : ∃ tkf : Nat → Tok, tkf = fun i => if i = 0 then .tight else .no := ⟨_, rfl⟩
              have key := loop_up (G := fun rec2 vs H1 => Sh.gliderref03_Parse_l2 H rec2 (ag vs 0) (ag vs 1) (ag vs 2) (ag vs 3) (ag vs 4) H1) d.length (fun i => [.ptr H.length 0 0, .str d, .bool (sgnB s), .sl (enL cU (lims (decV (d.take i)))) (tkf i), .int .i64 (i : Int)])
                (fun i => H ++ [.cel 0 [.bool false, .sl [] .tight]]) (some (.ret (.tup [big (if sgnB s then -(decV d : Int) else decV d), .int .i64 0]), H)) (by omega) (fun rec i hi => ?_) (fun rec => ?_)
              · rw [List.take_zero, show decV [] = 0 from rfl, lims_zero, htk] at key
                exact key
              · have hdi := hall _ (List.getElem_mem hi)
                have hdi2 := (isDig_iff _).1 hdi
                have hi' : (i : Int) < (d.length : Int) := by omega
                have hw := wrap_u8d hdi
                have hcv : convInt .u32 (.int .u8 ((d[i].toNat - 48 : Nat) : Int)) = some (.int .u32 ((d[i].toNat - 48 : Nat) : Int)) := by rw [conv_int, wrap_u32 (by omega) (by omega)]
                have hsh := lims_short2 (hdlt i (by omega)) (by omega)
                have hml := fun H => q01_mul (l := lims (decV (d.take i))) (tk := tkf i) (m := 10) (c := d[i].toNat - 48) H (lim_lims _) (by omega) (by omega) (by omega)
                simp only [val_lims, ← decV_snoc, ← List.take_succ_eq_append_getElem hi, show ((10 : Nat) : Int) = 10 from rfl] at hml
                have htk1 : tkf (i + 1) = .no := by rw [htk]; rfl
                have w6 : IntKind.i64.wrap ((i : Int) + 1) = ((i + 1 : Nat) : Int) := by rw [wrap_i64] <;> omega
                unfold Sh.gliderref03_Parse_l2
                simp only [GMb, joinPt, decide_true, decide_false, if_true, if_false, ag_succ, len_str, hi', idx_str hi, hw, hcv, hml, htk1, w6]
              · have hsh := lims_short2 (hdlt d.length (Nat.le_refl _)) (by omega)
                rw [List.take_length] at hsh
                have hst : ∀ B : AHeap, storeA 2 (.ptr B.length 0 0) (.agg [.bool false, .sl (enL cU (lims (decV d))) (tkf d.length)]) (B ++ [.cel 0 [.bool false, .sl [] .tight]]) = some (B ++ [.cel 0 [.bool false, .sl (enL cU (lims (decV d))) (tkf d.length)]]) := fun B => by
                  rw [store_app0, store_all (sz := 2) (cs := [.bool false, .sl [] .tight]) (vs := [.bool false, .sl (enL cU (lims (decV d))) (tkf d.length)]) rfl rfl rfl]
                  rfl
                have hld : ∀ B : AHeap, loadA true 2 (.ptr B.length 0 0) (B ++ [.cel 0 [.bool false, .sl (enL cU (lims (decV d))) (tkf d.length)]]) = some (.agg [.bool false, .sl (enL cU (lims (decV d))) (tkf d.length)]) := fun B => by
                  rw [load_app0]; rfl
                have hmn := fun H => q02_minus false (lims (decV d)) (tkf d.length) H (by omega) (lim_lims _)
                have hbi : bigI false (lims (decV d)) = (decV d : Int) := by simp [bigI, val_lims]
                simp only [hbi] at hmn
                unfold Sh.gliderref03_Parse_l2
                simp only [GMb, joinPt, decide_true, decide_false, if_true, if_false, ag_succ, len_str, Int.lt_irrefl, List.take_length, build_one, alloc_eq (cs := [.bool false, .sl [] .tight]) rfl, afterA_some]
                rw [hst]
                simp only [GMb, joinPt, decide_true, decide_false, if_true, if_false]
                cases hn : sgnB s with
                | true =>
                  simp only [GMb, joinPt, decide_true, decide_false, if_true, if_false, if_true]
                  rw [hld]
                  simp only [GMb, joinPt, decide_true, decide_false, if_true, if_false, hmn]
                  rw [big_eq, List.append_assoc H]
                  exact fin_big rfl
                | false =>
                  simp only [GMb, joinPt, decide_true, decide_false, if_true, if_false, Bool.false_eq_true, if_false]
                  rw [hld]
                  simp only [GMb, joinPt, decide_true, decide_false, if_true, if_false]
                  have hbo : AVal.agg [.bool false, .sl (enL cU (lims (decV d))) .no] = big (decV d : Int) := big_of (neg := false) (fun h => by cases h)
                  rw [List.append_assoc H, ← hbo]
                  exact fin_big rfl
        have fin2 := fin (fun _ => trivial)
        simp only [heq, GMb, joinPt, decide_true, decide_false, if_true, if_false, hix, hcc]
        rw [hsr] at fin2
        cases hc48 : (c == 48) with
        | false =>
          rw [hc48, Bool.false_and] at fin2
          simp only [GMb, joinPt, decide_true, decide_false, if_true, if_false]
          exact fin2
        | true =>
          rw [hc48, Bool.true_and] at fin2
          simp only [GMb, joinPt, decide_true, decide_false, if_true, if_false, len_str, hgt]
          cases hg1 : decide (1 < r.length + 1) with
          | true =>
            rw [hg1, Bool.true_or] at fin2
            simp only [GMb, joinPt, decide_true, decide_false, if_true, if_false]
            exact fin2
          | false =>
            rw [hg1, Bool.false_or] at fin2
            simp only [GMb, joinPt, decide_true, decide_false, if_true, if_false]
            exact fin2
  simp only [alloc_eq (cs := [.bool false, .sl [] .tight]) rfl, afterA_some, GMb, joinPt, decide_true, decide_false, if_true, if_false, len_str]
  cases s with
  | nil =>
    simp only [List.length_nil, show ¬ (((0 : Nat) : Int) > 0) from by decide, GMb, joinPt, decide_true, decide_false, if_true, if_false, ag_zero, ag_succ]
    exact tail
  | cons c r =>
    have hgt : ((c :: r).length : Int) > 0 := by simp
    have hix : idxStr (.str (c :: r)) (.int .i64 0) = some (.int .u8 (c.toNat : Int)) := idx_str0
    have hcc : decide ((c.toNat : Int) = 45) = sgnB (c :: r) := by
      rw [Bool.eq_iff_iff]
      simp only [decide_eq_true_eq, sgnB, beq_iff_eq]
      constructor
      · intro h
        exact UInt8.toNat.inj (show c.toNat = (45 : UInt8).toNat from by have : (45 : UInt8).toNat = 45 := rfl; omega)
      · intro h; rw [h]; rfl
    simp only [hgt, GMb, joinPt, decide_true, decide_false, if_true, if_false, hix, hcc]
    cases hn : sgnB (c :: r) with
    | true =>
      have h2 : sliceStr (.str (c :: r)) (some (.int .i64 1)) none = some (.str ((c :: r).drop 1)) := slice_str_from (l := 1) (by simp)
      rw [hn] at tail
      have ht : tailS (c :: r) = (c :: r).drop 1 := by simp [tailS, hn]
      rw [ht] at tail
      simp only [GMb, joinPt, decide_true, decide_false, if_true, if_false, h2, ag_zero, ag_succ]
      exact tail
    | false =>
      rw [hn] at tail
      have ht : tailS (c :: r) = c :: r := by simp [tailS, hn]
      rw [ht] at tail
      simp only [GMb, joinPt, decide_true, decide_false, if_true, if_false, ag_zero, ag_succ]
      exact tail
end Go.Gm
/- The document's Same, and Great. -/
namespace Go.Gm
set_option linter.unusedVariables false
set_option linter.unusedSimpArgs false
theorem q01_same {l m : List Nat} {t1 t2 : Tok} (H : AHeap) (hl : l.length < 1152921504606846976) (hm : m.length < 1152921504606846976) :
    Sh.gliderref01_Same (.sl (enL cU l) t1) (.sl (enL cU m) t2) H = some (.ret (.bool (decide (l = m))), H) := by
  unfold Sh.gliderref01_Same
  simp only [len_enL, GMb, joinPt, decide_true, decide_false, if_true, if_false]
  by_cases hlen : l.length = m.length
  · have hlen' : (l.length : Int) = (m.length : Int) := by omega
    simp only [hlen', GMb, joinPt, decide_true, decide_false, if_true, if_false]
    have key := loop_fun (G := fun rec1 vs H1 => Sh.gliderref01_Same_l1 H rec1 (ag vs 0) (ag vs 1) (ag vs 2) H1) (σ := Nat) (fun i => i ≤ l.length ∧ l.take i = m.take i) (fun i => [.sl (enL cU l) t1, .sl (enL cU m) t2, .int .i64 (i : Int)]) (fun _ => H) (fun i => l.length - i)
      (fun _ => some (.ret (.bool (decide (l = m))), H)) (fun i rec hi hrec => ?_) 0 ⟨Nat.zero_le _, rfl⟩ (by omega)
    · exact key
    · obtain ⟨h1, h2⟩ := hi
      unfold Sh.gliderref01_Same_l1
      by_cases hlt : i < l.length
      · have hlt' : (i : Int) < (m.length : Int) := by omega
        have hlm : i < m.length := by omega
        have w6 : IntKind.i64.wrap ((i : Int) + 1) = ((i + 1 : Nat) : Int) := by rw [wrap_i64] <;> omega
        simp only [GMb, joinPt, decide_true, decide_false, if_true, if_false, ag_succ, len_enL, hlen', hlt', idx_enL hlt, idx_enL hlm, load_cptr, List.getElem?_cons_zero]
        by_cases he : l[i] = m[i]
        · have he' : (l[i] : Int) = (m[i] : Int) := by omega
          simp only [GMb, joinPt, decide_true, decide_false, if_true, if_false, he', w6]
          exact hrec (i + 1) ⟨by omega, by rw [List.take_succ_eq_append_getElem hlt, List.take_succ_eq_append_getElem hlm, h2, he]⟩ (by omega)
        · have he' : ¬ (l[i] : Int) = (m[i] : Int) := by omega
          have hne : l ≠ m := fun e => by subst e; exact he rfl
          simp only [GMb, joinPt, decide_true, decide_false, if_true, if_false, he', decide_eq_false hne]
      · have hlt' : ¬ (i : Int) < (m.length : Int) := by omega
        rw [List.take_of_length_le (by omega), List.take_of_length_le (by omega)] at h2
        simp only [GMb, joinPt, decide_true, decide_false, if_true, if_false, ag_succ, len_enL, hlen', hlt', decide_eq_true h2]
  · have hlen' : ¬ (l.length : Int) = (m.length : Int) := by omega
    have hne : l ≠ m := fun e => hlen (by rw [e])
    simp only [hlen', GMb, joinPt, decide_true, decide_false, if_true, if_false, decide_eq_false hne]
theorem lims_inj {a b : Nat} (h : lims a = lims b) : a = b := by rw [← val_lims a, ← val_lims b, h]
theorem q_sameZ (a b : Int) (H : AHeap) (ha : LB a) (hb : LB b) : Sh.gliderref02_Same (big a) (big b) H = some (.ret (.bool (decide (a = b))), H) := by
  unfold Sh.gliderref02_Same
  have ha' := ha
  have hb' := hb
  unfold LB at ha' hb'
  have f0 : loadA false 1 (.ptr H.length 0 0) (H ++ [.cel 0 (bigC a)] ++ [.cel 0 (bigC b)]) = some (.bool (decide (a < 0))) := load_left (by simp only [loadA, get_cel last_cel, Option.bind_some]; rfl)
  have f1 : loadA false 1 (.ptr H.length 0 1) (H ++ [.cel 0 (bigC a)] ++ [.cel 0 (bigC b)]) = some (.sl (enL cU (lims a.natAbs)) .no) := load_left (by simp only [loadA, get_cel last_cel, Option.bind_some]; rfl)
  have g0 : loadA false 1 (.ptr (H.length + 1) 0 0) (H ++ [.cel 0 (bigC a)] ++ [.cel 0 (bigC b)]) = some (.bool (decide (b < 0))) := by
    have : (H ++ [Blk.cel 0 (bigC a)]).length = H.length + 1 := by simp
    rw [← this]
    simp only [loadA, get_cel last_cel, Option.bind_some]; rfl
  have g1 : loadA false 1 (.ptr (H.length + 1) 0 1) (H ++ [.cel 0 (bigC a)] ++ [.cel 0 (bigC b)]) = some (.sl (enL cU (lims b.natAbs)) .no) := by
    have : (H ++ [Blk.cel 0 (bigC a)]).length = H.length + 1 := by simp
    rw [← this]
    simp only [loadA, get_cel last_cel, Option.bind_some]; rfl
  have hBl : (H ++ [Blk.cel 0 (bigC a)]).length = H.length + 1 := by simp
  have hs := q01_same (l := lims a.natAbs) (m := lims b.natAbs) (t1 := .no) (t2 := .no) (H ++ [.cel 0 (bigC a)] ++ [.cel 0 (bigC b)]) (by omega) (by omega)
  have hr : ∀ p : Bool, rP H (.bool p) (H ++ [.cel 0 (bigC a)] ++ [.cel 0 (bigC b)]) = some (.ret (.bool p), H) := fun p => by rw [List.append_assoc]; exact rP_bool
  simp only [GMb, joinPt, decide_true, decide_false, if_true, if_false, boxBig, hBl, fieldAddr_ptr, Nat.zero_add, f0, f1, g0, g1, beq_bool]
  by_cases hsg : decide (a < 0) = decide (b < 0)
  · simp only [hsg, beq_self_eq_true, GMb, joinPt, decide_true, decide_false, if_true, if_false, fieldAddr_ptr, Nat.zero_add, f1, g1, hs, hr]
    congr 4
    rw [Bool.eq_iff_iff]
    simp only [decide_eq_true_eq]
    constructor
    · intro h
      have := lims_inj h
      have : (a < 0) ↔ (b < 0) := by simpa using hsg
      omega
    · intro h; rw [h]
  · have hb : (decide (a < 0) == decide (b < 0)) = false := by simpa using hsg
    have hne : a ≠ b := fun e => hsg (by rw [e])
    simp only [hb, GMb, joinPt, decide_true, decide_false, if_true, if_false, hr, decide_eq_false hne]
theorem q_great {neg : Bool} {l : List Nat} {tk : Tok} (H : AHeap) : Sh.gliderref02_Great (.agg [.bool neg, .sl (enL cU l) tk]) H = some (.ret (.bool (decide (60 < l.length))), H) := by
  unfold Sh.gliderref02_Great
  have hd : decide ((l.length : Int) > 60) = decide (60 < l.length) := by rw [Bool.eq_iff_iff]; simp only [decide_eq_true_eq]; omega
  have hb : boxA true 2 (.agg [.bool neg, .sl (enL cU l) tk]) H = some (.ptr H.length 0 0, H ++ [.cel 0 [.bool neg, .sl (enL cU l) tk]]) := box_agg rfl rfl
  have g1 : loadA false 1 (.ptr H.length 0 1) (H ++ [.cel 0 [.bool neg, .sl (enL cU l) tk]]) = some (.sl (enL cU l) tk) := by simp only [loadA, get_cel last_cel, Option.bind_some]; rfl
  simp only [GMb, joinPt, decide_true, decide_false, if_true, if_false, hb, fieldAddr_ptr, Nat.zero_add, g1, len_enL, hd, rP_bool]
end Go.Gm
/- Numbers come back of their texts, texts of their numbers. -/
namespace Go.Gm
set_option linter.unusedVariables false
theorem ofNat_dig {r : Nat} (h : r < 10) : (UInt8.ofNat (48 + r)).toNat = 48 + r := UInt8.toNat_ofNat_of_lt' (show 48 + r < 256 by omega)
theorem decV_decN (n : Nat) : decV (decN n) = n := by
  induction n using Nat.strongRecOn with
  | ind n ih =>
    by_cases hn : n < 10
    · rw [decN_small hn]
      have := decV_snoc [] (UInt8.ofNat (48 + n))
      rw [List.nil_append, ofNat_dig hn, show decV [] = 0 from rfl] at this
      rw [this]; omega
    · rw [decN_big hn, decV_snoc, ih (n / 10) (by omega), ofNat_dig (Nat.mod_lt _ (by omega))]
      omega
theorem decN_dig (n : Nat) : ∀ c ∈ decN n, isDig c = true := by
  induction n using Nat.strongRecOn with
  | ind n ih =>
    intro c hc
    by_cases hn : n < 10
    · rw [decN_small hn, List.mem_singleton] at hc
      rw [hc, isDig_iff, ofNat_dig hn]; omega
    · rw [decN_big hn] at hc
      rcases List.mem_append.1 hc with h | h
      · exact ih (n / 10) (by omega) c h
      · have := Nat.mod_lt n (show 10 > 0 by omega)
        rw [List.mem_singleton.1 h, isDig_iff, ofNat_dig this]; omega
theorem all_digN {s : List UInt8} (h : ∀ c ∈ s, isDig c = true) : digN s = s.length := by
  induction s with
  | nil => rfl
  | cons c s ih => rw [digN_cons, if_pos (h c (by simp)), ih fun x hx => h x (by simp [hx])]; rfl
theorem decN_decV : ∀ (k : Nat) (d : List UInt8), d.length = k + 1 → (∀ c ∈ d, isDig c = true) → (d[0]?.getD 0 = 48 → k = 0) → decN (decV d) = d
  | 0, d, hl, hall, _ => by
    match d, hl with
    | [c], _ =>
      have hc := (isDig_iff c).1 (hall c (by simp))
      have hv : decV [c] = c.toNat - 48 := by simp [decV]
      rw [hv, decN_small (by omega), show 48 + (c.toNat - 48) = c.toNat by omega, UInt8.ofNat_toNat]
  | k + 1, d, hl, hall, hhd => by
    rcases List.eq_nil_or_concat d with h | ⟨e, c, h⟩
    · rw [h] at hl; simp at hl
    · rw [List.concat_eq_append] at h
      subst h
      have hel : e.length = k + 1 := by simpa using hl
      have he0 : (e ++ [c])[0]? = e[0]? := List.getElem?_append_left (by omega)
      have hh : e[0]?.getD 0 ≠ 48 := fun h2 => by have := hhd (by rw [he0]; exact h2); omega
      have hea : ∀ x ∈ e, isDig x = true := fun x hx => hall x (by simp [hx])
      have ih := decN_decV k e hel hea (fun h2 => absurd h2 hh)
      have hc := (isDig_iff c).1 (hall c (by simp))
      have hpos : decV e ≠ 0 := fun h0 => by
        rw [h0, decN_small (by omega)] at ih
        rw [← ih] at hh
        exact hh rfl
      rw [decV_snoc, decN_big (by omega), show (decV e * 10 + (c.toNat - 48)) / 10 = decV e by omega, show (decV e * 10 + (c.toNat - 48)) % 10 = c.toNat - 48 by omega, ih, show 48 + (c.toNat - 48) = c.toNat by omega, UInt8.ofNat_toNat]
/-- A text's number has that text. -/
theorem text_of {s : List UInt8} (h : synB s = false) : decZ (if sgnB s then -(decV (tailS s) : Int) else decV (tailS s)) = s := by
  obtain ⟨h1, h2, h3⟩ := syn_dig h
  have hall := digN_all h2
  have hpos : 0 < (tailS s).length := List.length_pos_iff.2 h1
  have hback : decN (decV (tailS s)) = tailS s := decN_decV ((tailS s).length - 1) (tailS s) (by omega) hall (fun h0 => by
    have := h3 h0
    rw [this]; rfl)
  cases hn : sgnB s with
  | true =>
    have hne := decV_ne h hn
    have hs : s = 45 :: tailS s := by
      cases s with
      | nil => cases hn
      | cons c r =>
        simp only [sgnB, beq_iff_eq] at hn
        subst hn
        rfl
    simp only [if_true]
    unfold decZ
    rw [if_pos (by omega), Int.natAbs_neg, Int.natAbs_natCast, hback]
    exact hs.symm
  | false =>
    simp only [Bool.false_eq_true, if_false]
    unfold decZ
    rw [if_neg (by omega), Int.natAbs_natCast, hback]
    simp [tailS, hn]
theorem parse_ok {s : List UInt8} (h : parseE s = 0) : synB s = false ∧ (tailS s).length ≤ 400 := by
  unfold parseE at h
  cases hs : synB s with
  | true => rw [hs] at h; simp at h
  | false =>
    rw [hs] at h
    simp only [Bool.false_eq_true, if_false] at h
    refine ⟨rfl, ?_⟩
    split at h
    · cases h
    · omega
theorem text_parse {s : List UInt8} (h : parseE s = 0) : decZ (parseZ s) = s := by
  unfold parseZ
  rw [if_pos h]
  exact text_of (parse_ok h).1
theorem pow10_pos (k : Nat) : Int.natAbs 0 < 10 ^ k := Nat.pow_pos (by omega)
theorem parseZ_lt (s : List UInt8) : (parseZ s).natAbs < 10 ^ 400 := by
  unfold parseZ
  split
  · rename_i h
    obtain ⟨h1, h2⟩ := parse_ok h
    have hall := digN_all (syn_dig h1).2.1
    have := decV_lt hall (tailS s).length (Nat.le_refl _)
    rw [List.take_length] at this
    have h3 := Nat.lt_of_lt_of_le this (pow10_up h2)
    split
    · rw [Int.natAbs_neg, Int.natAbs_natCast]; exact h3
    · rw [Int.natAbs_natCast]; exact h3
  · exact pow10_pos 400
theorem decZ_sgn (z : Int) : sgnB (decZ z) = decide (z < 0) ∧ tailS (decZ z) = decN z.natAbs := by
  unfold decZ
  by_cases h : z < 0
  · rw [if_pos h, decide_eq_true h]
    exact ⟨rfl, rfl⟩
  · rw [if_neg h, decide_eq_false h]
    have hb : sgnB (decN z.natAbs) = false := by
      cases hd : decN z.natAbs with
      | nil => rfl
      | cons c r =>
        have := (isDig_iff c).1 (decN_dig z.natAbs c (by rw [hd]; simp))
        simp only [sgnB, beq_eq_false_iff_ne]
        intro e
        rw [e] at this
        have h45 : (45 : UInt8).toNat = 45 := rfl
        omega
    exact ⟨hb, by simp [tailS, hb]⟩
theorem syn_text (z : Int) : synB (decZ z) = false := by
  obtain ⟨h1, h2⟩ := decZ_sgn z
  have hall := decN_dig z.natAbs
  have hp := decN_pos z.natAbs
  have hd := all_digN hall
  unfold synB
  rw [h2, hd, decide_eq_false (Nat.lt_irrefl _), Bool.or_false]
  have hne : (decN z.natAbs == []) = false := by
    cases hdd : decN z.natAbs with
    | nil => rw [hdd] at hp; simp at hp
    | cons c r => rfl
  rw [hne, Bool.false_or]
  by_cases h0 : z.natAbs = 0
  · have : z = 0 := by omega
    subst this
    rw [decZ_zero]
    simp
  · obtain ⟨c, r, hc, hc48⟩ := decN_head z.natAbs h0
    rw [hc]
    have : (c == 48) = false := by simpa using hc48
    simp [this]
theorem parse_text {z : Int} (h : (decN z.natAbs).length ≤ 400) : parseE (decZ z) = 0 ∧ parseZ (decZ z) = z := by
  obtain ⟨h1, h2⟩ := decZ_sgn z
  have hE : parseE (decZ z) = 0 := by
    unfold parseE
    rw [syn_text, h2]
    simp only [Bool.false_eq_true, if_false]
    rw [if_neg (by omega)]
  refine ⟨hE, ?_⟩
  unfold parseZ
  rw [if_pos hE, h1, h2, decV_decN]
  by_cases hz : z < 0
  · rw [decide_eq_true hz]; simp only [if_true]; omega
  · rw [decide_eq_false hz]; simp only [Bool.false_eq_true, if_false]; omega
end Go.Gm
/- The fixed fact of the laws of chapter 3. -/
namespace Go.Gm
set_option linter.unusedVariables false
set_option linter.unusedSimpArgs false
theorem store_big {B : AHeap} {z : Int} {es : List AVal} (h : es.length = 2) : storeA 2 (.ptr B.length 0 0) (big z) (B ++ [.cel 0 es]) = some (B ++ [.cel 0 (bigC z)]) := by
  rw [store_app0, store_all (sz := 2) (cs := es) (vs := bigC z) rfl h rfl]
  rfl
theorem load_big {B : AHeap} {z : Int} : loadA true 2 (.ptr B.length 0 0) (B ++ [.cel 0 (bigC z)]) = some (big z) := by
  rw [load_app0]; rfl
theorem pe1 : parseE [45, 48] = 2 := by decide
theorem pe2 : parseE [48, 48, 55] = 2 := by decide
theorem pe3 : parseE [45, 49, 56, 52, 52, 54, 55, 52, 52, 48, 55, 51, 55, 48, 57, 53, 53, 49, 54, 49, 54] = 0 := by decide
theorem pz3 : parseZ [45, 49, 56, 52, 52, 54, 55, 52, 52, 48, 55, 51, 55, 48, 57, 53, 53, 49, 54, 49, 54] = -(2 ^ 64) := by decide
theorem dg1 : digA [97, 49, 50, 98] 1 = 2 := by decide
theorem q_text0 (H : AHeap) : Sh.dec_Text (.agg [.bool false, .sl [] .tight]) H = some (.ret (.str [48]), H) := by
  unfold Sh.dec_Text
  obtain ⟨B, hB⟩ : ∃ B, B = H ++ [Blk.cel 0 [.bool false, .sl [] .tight]] := ⟨_, rfl⟩
  have hb : boxA true 2 (.agg [.bool false, .sl [] .tight]) H = some (.ptr H.length 0 0, B) := by rw [hB]; exact box_agg rfl rfl
  have g1 : loadA false 1 (.ptr H.length 0 1) B = some (.sl [] .tight) := by rw [hB]; simp only [loadA, get_cel last_cel, Option.bind_some]; rfl
  have hrP : ∀ s, rP H (.str s) B = some (.ret (.str s), H) := fun s => by rw [hB]; exact rP_str
  have hr := q_reverse (ty := ty_string) (B := B) (P := []) (by decide)
  simp only [pS, pT, if_true, List.reverse_nil] at hr
  have hj : Sh.strings_Join (.sl [] .tight) (.str []) B = some (.ret (.str []), B) := by
    unfold Sh.strings_Join
    simp [elemsA, strs, join_nil]
  have ht : Sh.strings_TrimLeft (.str []) (.str [48]) B = some (.ret (.str []), B) := rfl
  simp only [GMb, joinPt, decide_true, decide_false, if_true, if_false, hb, fieldAddr_ptr, Nat.zero_add, g1]
  rw [loop_turn fuel_pos]
  unfold Sh.dec_Text_l1
  simp only [GMb, joinPt, decide_true, decide_false, if_true, if_false, ag_succ, show lenSl (.sl [] .tight) = some (.int .i64 0) from rfl, show ¬ ((0 : Int) > 0) from by decide, hr, hj, ht, bin_seql, beq_self_eq_true, hrP]
theorem q_alive (H : AHeap) : Sh.gliderlaw03_alive H = some (.ret (.bool true), H) := by
  have t3 : decZ (-(2 ^ 64)) = [45, 49, 56, 52, 52, 54, 55, 52, 52, 48, 55, 51, 55, 48, 57, 53, 53, 49, 54, 49, 54] := by rw [← pz3]; exact text_parse pe3
  have n64 : ((-(2 ^ 64) : Int)).natAbs < 10 ^ 4096 := by
    rw [← pz3]
    exact Nat.lt_of_lt_of_le (m := 10 ^ 400) (parseZ_lt _) (pow10_up (a := 400) (b := 4096) (by omega))
  have h1 := fun H => q_parse [45, 48] H (by decide)
  have h2 := fun H => q_parse [48, 48, 55] H (by decide)
  have h3 := fun H => q_parse [45, 49, 56, 52, 52, 54, 55, 52, 52, 48, 55, 51, 55, 48, 57, 53, 53, 49, 54, 49, 54] H (by decide)
  simp only [pe1] at h1
  simp only [pe2] at h2
  simp only [pe3, pz3] at h3
  have h4 := fun H => q02_pow 64 H (by omega)
  have h5 := fun H => q02_minusZ (2 ^ 64) H (LB_pow 64 (by omega))
  have h6 := fun H => q_sameZ (-(2 ^ 64)) (-(2 ^ 64)) H (LB_pow 64 (by omega)).neg (LB_pow 64 (by omega)).neg
  have h7 := fun H => q_text (-(2 ^ 64)) H n64
  have h8 := q_text0
  have h9 := fun H => q_digits [97, 49, 50, 98] 1 H (by decide)
  simp only [t3] at h7
  simp only [dg1, show ((2 : Nat) : Int) = 2 from rfl] at h9
  simp only [show ((64 : Nat) : Int) = 64 from rfl] at h4
  generalize hP : (-(2 ^ 64) : Int) = P at *
  generalize parseZ [45, 48] = Z1 at *
  generalize parseZ [48, 48, 55] = Z2 at *
  have hbn : buildA (some [(.bool false), (.sl [] .tight)]) [] = some (.agg [.bool false, .sl [] .tight]) := rfl
  unfold Sh.gliderlaw03_alive
  simp only [h1, h2, h3, GMb, joinPt, decide_true, decide_false, if_true, if_false, extract_0, extract_1, alloc_eq (cs := [.bool false, .sl [] .tight]) rfl, afterA_some, store_big (es := [.bool false, .sl [] .tight]) rfl, h4, h5, load_big]
  rw [show (gR true (some (big P)) = some (big P) ∧ gR true (some (big P)) = some (big P) ∧ True) = True by simp]
  simp only [GMb, joinPt, decide_true, decide_false, if_true, if_false, h6, eq_self, load_big, h7, bin_seql, beq_self_eq_true, hbn, h8, h9]
  rw [List.append_assoc H, List.append_assoc H]
  exact rP_bool
end Go.Gm
/- What the laws of chapter 3 come to: texts. -/
namespace Go.Gm
set_option linter.unusedVariables false
set_option linter.unusedSimpArgs false
theorem big_small {neg : Bool} {l : List Nat} {k : Nat} (hx : Lim l) (hl : l.length ≤ k) : (bigI neg l).natAbs < 4294967296 ^ k := by
  rw [bigI_abs]
  exact Nat.lt_of_lt_of_le (val_lt l hx) (Nat.pow_le_pow_right (by omega) hl)
theorem big_ten {neg : Bool} {l : List Nat} {k m : Nat} (hx : Lim l) (hl : l.length ≤ k) (hm : 10 * k ≤ m) : (bigI neg l).natAbs < 10 ^ m := Nat.lt_of_lt_of_le (big_small hx hl) (pow10_le hm)
theorem LB_ten {z : Int} {m : Nat} (h : z.natAbs < 10 ^ m) (hm : m ≤ 549755813888) : LB z := LB.of (k := m) (Nat.lt_of_lt_of_le h (pow10_32 m)) hm
/-- A number that came in, boxed: what a law reads of it. -/
structure Boxd (H B : AHeap) (neg : Bool) (l : List Nat) : Prop where
  box : boxA true 2 (.agg [.bool neg, .sl (enL cU l) .no]) H = some (.ptr H.length 0 0, B)
  load : ∀ G, loadA true 2 (.ptr H.length 0 0) (B ++ G) = some (.agg [.bool neg, .sl (enL cU l) .no])
  limb : ∀ G, loadA false 1 (.ptr H.length 0 1) (B ++ G) = some (.sl (enL cU l) .no)
  neg : ∀ G, loadA false 1 (.ptr H.length 0 0) (B ++ G) = some (.bool neg)
  fin : ∀ p G, rP H (.bool p) (B ++ G) = some (.ret (.bool p), H)
theorem boxd (H : AHeap) (neg : Bool) (l : List Nat) : ∃ B, Boxd H B neg l := by
  refine ⟨H ++ [.cel 0 [.bool neg, .sl (enL cU l) .no]], box_agg (cs := [.bool neg, .sl (enL cU l) .no]) rfl rfl, fun G => ?_, fun G => ?_, fun G => ?_, fun p G => ?_⟩
  · exact load_left (by rw [load_app0]; rfl)
  · exact load_left (by simp only [loadA, get_cel last_cel, Option.bind_some]; rfl)
  · exact load_left (by simp only [loadA, get_cel last_cel, Option.bind_some]; rfl)
  · rw [List.append_assoc]; exact rP_bool
theorem texts_ok {neg : Bool} {l : List Nat} {s : List UInt8} {at' : Int} (H : AHeap) (hx : Lim l) (hat : -9223372036854775808 ≤ at' ∧ at' ≤ 9223372036854775807) :
    Sh.gliderlaw03_DecTexts (.agg [.bool neg, .sl (enL cU l) .no]) (.str s) (.int .i64 at') H = some (.ret (.bool true), H) := by
  obtain ⟨B, hb⟩ := boxd H neg l
  have b0 := hb.load []
  have bf := fun p => hb.fin p []
  rw [List.append_nil] at b0
  simp only [List.append_nil] at bf
  unfold Sh.gliderlaw03_DecTexts
  simp only [hb.box, afterA_some, q_alive, GMb, joinPt, decide_true, decide_false, if_true, if_false, b0, q_great]
  by_cases hg : 60 < l.length
  · simp only [hg, decide_true, GMb, joinPt, decide_true, decide_false, if_true, if_false, bf]
  · have hr := fun H => q02_right neg l .no H (by omega)
    simp only [hg, decide_false, GMb, joinPt, decide_true, decide_false, if_true, if_false, b0, hr]
    by_cases hok : bigOkB neg l = true
    · simp only [hok, GMb, joinPt, decide_true, decide_false, if_true, if_false, len_str]
      by_cases hs : s.length ≤ 600
      · have hs' : ¬ (s.length : Int) > 600 := by omega
        have hz := big_ten (neg := neg) (k := 60) (m := 4096) hx (by omega) (by omega)
        have hbe : AVal.agg [.bool neg, .sl (enL cU l) .no] = big (bigI neg l) := by rw [bigC_ok hok hx]; rfl
        have h1 := fun H => q_parse s H (by omega)
        have h2 := fun H => q03_parse s H (by omega)
        have h3 := fun H => q_text (bigI neg l) H hz
        have h4 := fun H => q03_text (bigI neg l) H hz
        have hLB := LB_ten (parseZ_lt s) (by omega)
        have h5 := fun H => q_sameZ (parseZ s) (parseZ s) H hLB hLB
        have h6 := fun H => q_digits s at' H (by omega)
        have h7 := fun H => q03_digits s at' H (by omega) hat
        have c1 := hb.load ([.cel 0 (bigC (parseZ s))] ++ [.cel 0 (bigC (parseZ s))])
        rw [hbe, ← List.append_assoc] at c1
        have c2 : loadA true 2 (.ptr B.length 0 0) (B ++ [.cel 0 (bigC (parseZ s))] ++ [.cel 0 (bigC (parseZ s))]) = some (big (parseZ s)) := load_left load_big
        have c3 := hb.fin true ([.cel 0 (bigC (parseZ s))] ++ [.cel 0 (bigC (parseZ s))])
        rw [← List.append_assoc] at c3
        simp only [hs', GMb, joinPt, decide_true, decide_false, if_true, if_false, h1, h2, extract_0, extract_1, alloc_eq (cs := [.bool false, .sl [] .tight]) rfl, afterA_some, store_big (es := [.bool false, .sl [] .tight]) rfl]
        simp only [c1, GMb, joinPt, decide_true, decide_false, if_true, if_false, h3, and_self, h4, bin_seql, beq_self_eq_true, c2, load_big, h5, eq_self, h6, h7, c3]
      · have hs' : (s.length : Int) > 600 := by omega
        simp only [hs', GMb, joinPt, decide_true, decide_false, if_true, if_false, bf]
    · have hok' : bigOkB neg l = false := by simpa using hok
      simp only [hok', GMb, joinPt, decide_true, decide_false, if_true, if_false, bf]
end Go.Gm
/- What the laws of chapter 3 come to: there and back. -/
namespace Go.Gm
set_option linter.unusedVariables false
set_option linter.unusedSimpArgs false
theorem right_big {z : Int} {m : Nat} (h : z.natAbs < 10 ^ m) (hm : m ≤ 549755813888) (H : AHeap) : Sh.gliderref02_Right (big z) H = some (.ret (.bool true), H) := by
  have hl : (lims z.natAbs).length ≤ 549755813888 := LB_ten h hm
  have := q02_right (decide (z < 0)) (lims z.natAbs) .no H hl
  rw [← big_eq] at this
  rw [this]
  have hb : bigOkB (decide (z < 0)) (lims z.natAbs) = true := by
    unfold bigOkB
    rw [(rightB_iff (lim_lims _)).2 (nrm_lims _)]
    by_cases hz : z < 0
    · have := lims_ne (show z.natAbs ≠ 0 by omega)
      cases hc : lims z.natAbs with
      | nil => exact absurd hc this
      | cons a b => simp
    · simp [hz]
  rw [hb]
theorem back_ok {neg : Bool} {l : List Nat} {s : List UInt8} (H : AHeap) (hx : Lim l) :
    Sh.gliderlaw03_DecBack (.agg [.bool neg, .sl (enL cU l) .no]) (.str s) H = some (.ret (.bool true), H) := by
  obtain ⟨B, hb⟩ := boxd H neg l
  have b0 := hb.load []
  have b1 := hb.limb []
  have bf := fun p => hb.fin p []
  rw [List.append_nil] at b0 b1
  simp only [List.append_nil] at bf
  have hd : decide ((l.length : Int) > 40) = decide (40 < l.length) := by rw [Bool.eq_iff_iff]; simp only [decide_eq_true_eq]; omega
  unfold Sh.gliderlaw03_DecBack
  simp only [hb.box, afterA_some, q_alive, GMb, joinPt, decide_true, decide_false, if_true, if_false, b0, b1, fieldAddr_ptr, Nat.zero_add, len_enL, hd]
  by_cases hg : 40 < l.length
  · simp only [hg, decide_true, GMb, joinPt, decide_true, decide_false, if_true, if_false, bf]
  · have hr := fun H => q02_right neg l .no H (by omega)
    simp only [hg, decide_false, GMb, joinPt, decide_true, decide_false, if_true, if_false, b0, hr]
    by_cases hok : bigOkB neg l = true
    · simp only [hok, GMb, joinPt, decide_true, decide_false, if_true, if_false, len_str]
      by_cases hs : s.length ≤ 600
      · have hs' : ¬ (s.length : Int) > 600 := by omega
        have hz := big_ten (neg := neg) (k := 40) (m := 400) hx (by omega) (by omega)
        have hz2 := big_ten (neg := neg) (k := 40) (m := 4096) hx (by omega) (by omega)
        have hbe : AVal.agg [.bool neg, .sl (enL cU l) .no] = big (bigI neg l) := by rw [bigC_ok hok hx]; rfl
        have hlen : (decN (bigI neg l).natAbs).length ≤ 400 := decN_log2 400 _ hz
        obtain ⟨p1, p2⟩ := parse_text hlen
        have hzl : (decZ (bigI neg l)).length ≤ 500 := by
          unfold decZ
          split
          · rw [List.length_cons]; omega
          · omega
        have h1 : ∀ H, Sh.dec_Text (.agg [.bool neg, .sl (enL cU l) .no]) H = some (.ret (.str (decZ (bigI neg l))), H) := fun H => by rw [hbe]; exact q_text _ H hz2
        have h2 := fun H => q_parse (decZ (bigI neg l)) H (by omega)
        simp only [p1, p2] at h2
        have h3 := fun H => q_parse s H (by omega)
        have hLB : LB (bigI neg l) := LB_ten hz (by omega)
        have h4 := fun H => q_sameZ (bigI neg l) (bigI neg l) H hLB hLB
        have hsz := parseZ_lt s
        have h5 := fun H => q_text (parseZ s) H (Nat.lt_of_lt_of_le (m := 10 ^ 400) hsz (pow10_up (a := 400) (b := 4096) (by omega)))
        have h6 := fun H => right_big hsz (by omega) H
        have c1 := hb.load ([.cel 0 (bigC (bigI neg l))] ++ [.cel 0 (bigC (parseZ s))])
        rw [hbe, ← List.append_assoc] at c1
        have c2 : loadA true 2 (.ptr B.length 0 0) (B ++ [.cel 0 (bigC (bigI neg l))] ++ [.cel 0 (bigC (parseZ s))]) = some (big (bigI neg l)) := load_left load_big
        have c3 := hb.fin true ([.cel 0 (bigC (bigI neg l))] ++ [.cel 0 (bigC (parseZ s))])
        rw [← List.append_assoc] at c3
        simp only [hs', GMb, joinPt, decide_true, decide_false, if_true, if_false, b0, h1, h2, h3, extract_0, extract_1, alloc_eq (cs := [.bool false, .sl [] .tight]) rfl, afterA_some, store_big (es := [.bool false, .sl [] .tight]) rfl]
        simp only [c1, c2, GMb, joinPt, decide_true, decide_false, if_true, if_false, h4, eq_self]
        by_cases hE : parseE s = 0
        · have ht := text_parse hE
          simp only [hE, eq_self, GMb, joinPt, decide_true, decide_false, if_true, if_false, load_big, h5, ht, bin_seql, beq_self_eq_true, h6, c3]
        · simp only [hE, GMb, joinPt, decide_true, decide_false, if_true, if_false, c3]
      · have hs' : (s.length : Int) > 600 := by omega
        simp only [hs', GMb, joinPt, decide_true, decide_false, if_true, if_false, bf]
    · have hok' : bigOkB neg l = false := by simpa using hok
      simp only [hok', GMb, joinPt, decide_true, decide_false, if_true, if_false, bf]
end Go.Gm
/- What the laws of chapter 3 come to: as many digits as may be. -/
namespace Go.Gm
set_option linter.unusedVariables false
set_option linter.unusedSimpArgs false
theorem long_parse {c : UInt8} {k : Nat} {neg : Bool} (hc : 49 ≤ c.toNat ∧ c.toNat ≤ 57) (hk : 0 < k) :
    let s := if neg then 45 :: List.replicate k c else List.replicate k c
    synB s = false ∧ sgnB s = neg ∧ tailS s = List.replicate k c := by
  intro s
  obtain ⟨k, rfl⟩ : ∃ j, k = j + 1 := ⟨k - 1, by omega⟩
  have hsg : sgnB s = neg ∧ tailS s = List.replicate (k + 1) c := by
    cases neg with
    | true => exact ⟨rfl, rfl⟩
    | false =>
      have hb : sgnB (List.replicate (k + 1) c) = false := by
        rw [List.replicate_succ]
        simp only [sgnB, beq_eq_false_iff_ne]
        intro e
        rw [e] at hc
        have h45 : (45 : UInt8).toNat = 45 := rfl
        omega
      exact ⟨hb, by show tailS (List.replicate (k + 1) c) = _; simp [tailS, hb]⟩
  obtain ⟨h1, h2⟩ := hsg
  refine ⟨?_, h1, h2⟩
  have hall : ∀ x ∈ List.replicate (k + 1) c, isDig x = true := fun x hx => by
    rw [(List.mem_replicate.1 hx).2, isDig_iff]; omega
  have hd := all_digN hall
  have h48 : (c == 48) = false := by
    simp only [beq_eq_false_iff_ne]
    intro e
    rw [e] at hc
    have : (48 : UInt8).toNat = 48 := rfl
    omega
  unfold synB
  rw [h2, hd, decide_eq_false (Nat.lt_irrefl _), List.replicate_succ]
  simp [h48]
theorem long_ok {n d : Nat} {neg : Bool} (H : AHeap) (hn : n < 65536) (hd : d < 256) : Sh.gliderlaw03_DecLong (.int .u16 (n : Int)) (.int .u8 (d : Int)) (.bool neg) H = some (.ret (.bool true), H) := by
  obtain ⟨k, hk⟩ : ∃ k, k = 1 + n % 450 := ⟨_, rfl⟩
  have hk1 : k ≤ 450 := by have := Nat.mod_lt n (show 450 > 0 by omega); omega
  obtain ⟨c, hc⟩ : ∃ c, c = UInt8.ofNat (49 + d % 9) := ⟨_, rfl⟩
  have hcn : c.toNat = 49 + d % 9 := by rw [hc]; exact UInt8.toNat_ofNat_of_lt' (show 49 + d % 9 < 256 by omega)
  have e1 : (n : Int).tmod 450 = ((n % 450 : Nat) : Int) := rfl
  have e2 : convInt .i64 (.int .u16 ((n % 450 : Nat) : Int)) = some (.int .i64 ((n % 450 : Nat) : Int)) := by rw [conv_int, wrap_i64 (by omega) (by omega)]
  have e3 : IntKind.i64.wrap (1 + ((n % 450 : Nat) : Int)) = (k : Int) := by rw [wrap_i64] <;> omega
  have hmk := make_flat (f := cY) (a := 0) (n := k) (bytes := 1) (H := H) (by omega) (by omega)
  rw [show cY 0 = [AVal.int .u8 0] from rfl] at hmk
  unfold Sh.gliderlaw03_DecLong
  simp only [q_alive, GMb, joinPt, decide_true, decide_false, if_true, if_false, bin_rem (show (450 : Int) ≠ 0 by decide), e1, e2, e3, hmk]
  refine loop_up k (fun i => [.int .u8 (d : Int), .bool neg, .int .i64 (k : Int), .ms H.length 0 0 k k 1 true, .int .i64 (i : Int)])
    (fun i => H ++ [.cel 0 (flat cY (List.replicate i c ++ List.replicate (k - i) 0))]) _ (by omega) (fun rec i hi => ?_) (fun rec => ?_)
  · have hi' : (i : Int) < (k : Int) := by omega
    have hidx := idx_ms (sz := 1) (id := H.length) (n := k) (K := .i64) (g := 0) (off := 0) (cap := k) (ex := true) (i := i) hi
    simp only [Nat.zero_add, Nat.mul_one] at hidx
    have e4 : (d : Int).tmod 9 = ((d % 9 : Nat) : Int) := rfl
    have e5 : IntKind.u8.wrap (49 + ((d % 9 : Nat) : Int)) = (c.toNat : Int) := by rw [wrap_u8 (by omega) (by omega), hcn]; omega
    have e6 : IntKind.i64.wrap ((i : Int) + 1) = ((i + 1 : Nat) : Int) := by rw [wrap_i64] <;> omega
    have hst := store_el (f := cY) (sz := 1) (l := List.replicate i c ++ List.replicate (k - i) 0) (i := i) (a := c) (v := .int .u8 (c.toNat : Int)) (H := H ++ [Blk.cel 0 (flat cY (List.replicate i c ++ List.replicate (k - i) 0))]) (id := H.length) (get_cel last_cel) (by simp; omega) rfl
    have hset : (List.replicate i c ++ List.replicate (k - i) 0).set i c = List.replicate (i + 1) c ++ List.replicate (k - (i + 1)) 0 := by
      rw [show k - i = (k - (i + 1)) + 1 by omega, List.replicate_succ, List.set_append_right _ _ (by simp), List.length_replicate, Nat.sub_self, List.set_cons_zero, List.replicate_succ']
      simp
    rw [Nat.mul_one, setC_cel last_cel, last_set, hset] at hst
    unfold Sh.gliderlaw03_DecLong_l1
    simp only [GMb, joinPt, decide_true, decide_false, if_true, if_false, ag_succ, hi', bin_rem (show (9 : Int) ≠ 0 by decide), e4, e5, hidx, hst, e6]
  · obtain ⟨B, hB⟩ : ∃ B, B = H ++ [Blk.cel 0 (flat cY (List.replicate k c))] := ⟨_, rfl⟩
    have hts := toStr_ms (l := List.replicate k c) (H := B) (id := H.length) (by rw [hB]; exact get_cel last_cel)
    rw [List.length_replicate] at hts
    have hf : ∀ p G, rP H (.bool p) (B ++ G) = some (.ret (.bool p), H) := fun p G => by rw [hB, List.append_assoc]; exact rP_bool
    obtain ⟨s, hs⟩ : ∃ s, s = if neg then 45 :: List.replicate k c else List.replicate k c := ⟨_, rfl⟩
    obtain ⟨p1, p2, p3⟩ := long_parse (c := c) (k := k) (neg := neg) (by omega) (by omega)
    rw [← hs] at p1 p2 p3
    have hsl : s.length ≤ 451 := by rw [hs]; split <;> simp <;> omega
    have tail : Sh.gliderlaw03_DecLong_j2 H (.bool neg) (.int .i64 (k : Int)) (.str s) B = some (.ret (.bool true), H) := by
      have h1 := fun H => q_parse s H (by omega)
      have hdk : decide ((k : Int) > 400) = decide (400 < k) := by rw [Bool.eq_iff_iff]; simp only [decide_eq_true_eq]; omega
      have g1 : ∀ z : Int, loadA false 1 (.ptr B.length 0 1) (B ++ [.cel 0 (bigC z)]) = some (.sl (enL cU (lims z.natAbs)) .no) := fun z => by simp only [loadA, get_cel last_cel, Option.bind_some]; rfl
      have g0 : ∀ z : Int, loadA false 1 (.ptr B.length 0 0) (B ++ [.cel 0 (bigC z)]) = some (.bool (decide (z < 0))) := fun z => by simp only [loadA, get_cel last_cel, Option.bind_some]; rfl
      unfold Sh.gliderlaw03_DecLong_j2
      simp only [h1, GMb, joinPt, decide_true, decide_false, if_true, if_false, extract_0, extract_1, alloc_eq (cs := [.bool false, .sl [] .tight]) rfl, afterA_some, store_big (es := [.bool false, .sl [] .tight]) rfl, hdk]
      by_cases h4 : 400 < k
      · have hE : parseE s = 4 := by simp [parseE, p1, p3, h4]
        have hZ : parseZ s = 0 := by simp [parseZ, hE]
        have hl0 : lims (0 : Int).natAbs = [] := lims_zero
        simp only [h4, decide_true, GMb, joinPt, decide_true, decide_false, if_true, if_false, hE, hZ, eq_self, fieldAddr_ptr, Nat.zero_add, g1, hl0, len_enL, List.length_nil, show ((0 : Nat) : Int) = 0 from rfl, hf]
      · have hE : parseE s = 0 := by simp [parseE, p1, p3, h4]
        have hZ : parseZ s = (if sgnB s then -(decV (tailS s) : Int) else decV (tailS s)) := by simp [parseZ, hE]
        have hne : decV (tailS s) ≠ 0 := by
          rw [p3]
          obtain ⟨j, hj⟩ : ∃ j, k = j + 1 := ⟨k - 1, by omega⟩
          rw [hj, List.replicate_succ, decV_cons]
          have : 1 ≤ 10 ^ (List.replicate j c).length := Nat.pow_pos (by omega)
          have : 1 ≤ (c.toNat - 48) * 10 ^ (List.replicate j c).length := Nat.mul_pos (by omega) this
          omega
        have hsn : decide (parseZ s < 0) = neg := by
          rw [hZ, p2]
          cases neg with
          | true => simp; omega
          | false => simp
        have ht := text_parse hE
        have h5 := fun H => q_text (parseZ s) H (Nat.lt_of_lt_of_le (m := 10 ^ 400) (parseZ_lt s) (pow10_up (a := 400) (b := 4096) (by omega)))
        simp only [h4, decide_false, GMb, joinPt, decide_true, decide_false, if_true, if_false, hE, eq_self, fieldAddr_ptr, Nat.zero_add, g0, hsn, beq_bool, beq_self_eq_true, load_big, h5, ht, bin_seql, hf]
    unfold Sh.gliderlaw03_DecLong_l1
    simp only [GMb, joinPt, decide_true, decide_false, if_true, if_false, ag_succ, Int.lt_irrefl, Nat.sub_self, List.replicate_zero, List.append_nil]
    rw [← hB, hts, obind]
    cases neg with
    | true =>
      simp only [if_true] at hs
      simp only [GMb, joinPt, decide_true, decide_false, if_true, if_false]
      rw [bin_sadd (by simp; omega), obind, show ([45] : List UInt8) ++ List.replicate k c = s from hs.symm]
      exact tail
    | false =>
      simp only [Bool.false_eq_true, if_false] at hs
      simp only [GMb, joinPt, decide_true, decide_false, if_true, if_false, ag_zero, ag_succ, ← hs]
      exact tail
end Go.Gm
/- What the laws of chapter 3 come to: signs; one more digit. -/
namespace Go.Gm
set_option linter.unusedVariables false
set_option linter.unusedSimpArgs false
theorem decZ_neg {z : Int} (h : z < 0) : decZ z = 45 :: decZ (-z) := by
  unfold decZ
  rw [if_pos h, if_neg (by omega), Int.natAbs_neg]
/-- One more digit at the end. -/
theorem decZ_ten {z e : Int} {k : Nat} (hz : z ≠ 0) (hk : k < 10) (he : e = if z < 0 then -(k : Int) else k) : decZ (e + z * 10) = decZ z ++ [UInt8.ofNat (48 + k)] := by
  have hab : (e + z * 10).natAbs = z.natAbs * 10 + k := by
    rw [he]
    split <;> omega
  have hsg : (e + z * 10 < 0) ↔ (z < 0) := by
    rw [he]
    split <;> omega
  have hbig : decN (z.natAbs * 10 + k) = decN z.natAbs ++ [UInt8.ofNat (48 + k)] := by
    rw [decN_big (by omega), show (z.natAbs * 10 + k) / 10 = z.natAbs by omega, show (z.natAbs * 10 + k) % 10 = k by omega]
  unfold decZ
  rw [hab, hbig]
  by_cases h : z < 0
  · rw [if_pos h, if_pos (hsg.2 h)]; rfl
  · rw [if_neg h, if_neg (fun h2 => h (hsg.1 h2))]
theorem ten_up {a m : Nat} (h : m = a + 2) : 10 ^ a * 11 ≤ 10 ^ m := by
  rw [h, Nat.pow_add]
  exact Nat.mul_le_mul_left _ (by decide)
theorem signs_loop {H B : AHeap} {neg : Bool} {l : List Nat} {z e : Int} {k : Nat} (hb : Boxd H B neg l) (hbe : AVal.agg [.bool neg, .sl (enL cU l) .no] = big z) (hz : z.natAbs < 10 ^ 300) (hz0 : z ≠ 0) (hk : k < 10) (he : e = if z < 0 then -(k : Int) else k) :
    Sh.gliderlaw03_DecSigns_j1 H (.ptr H.length 0 0) (.str (decZ z)) (.int .i64 (k : Int)) (.ptr B.length 0 0) (B ++ [.cel 0 (bigC e)]) = some (.ret (.bool true), H) := by
  have hLBz : LB z := LB_ten hz (by omega)
  have hp := ten_up (a := 300) (m := 302) rfl
  have hbd : ∀ i : Nat, i ≤ 10 → (e + z * i).natAbs < 10 ^ 302 := fun i hi => by
    have h1 : (z * (i : Int)).natAbs ≤ z.natAbs * 10 := by
      rw [Int.natAbs_mul, Int.natAbs_natCast]
      exact Nat.mul_le_mul_left _ hi
    have h2 : e.natAbs < 10 := by rw [he]; split <;> omega
    have h3 : (e + z * i).natAbs ≤ e.natAbs + (z * (i : Int)).natAbs := Int.natAbs_add_le _ _
    have h4 : 1 ≤ z.natAbs := by omega
    generalize 10 ^ 300 = X at *
    generalize 10 ^ 302 = Y at *
    omega
  unfold Sh.gliderlaw03_DecSigns_j1
  have key := loop_up (G := fun rec2 vs H1 => Sh.gliderlaw03_DecSigns_l2 H rec2 (ag vs 0) (ag vs 1) (ag vs 2) (ag vs 3) (ag vs 4) H1) 10 (fun i => [.ptr H.length 0 0, .str (decZ z), .int .i64 (k : Int), .ptr B.length 0 0, .int .i64 (i : Int)]) (fun i => B ++ [.cel 0 (bigC (e + z * (i : Int)))]) (some (.ret (.bool true), H)) (by omega) (fun rec i hi => ?_) (fun rec => ?_)
  · simpa using key
  · have hi' : (i : Int) < 10 := by omega
    have c1 := hb.load [.cel 0 (bigC (e + z * (i : Int)))]
    rw [hbe] at c1
    have hadd := fun H => q02_addZ (e + z * (i : Int)) z H (LB_ten (hbd i (by omega)) (by omega)) hLBz
    have hE : e + z * (i : Int) + z = e + z * ((i + 1 : Nat) : Int) := by rw [Int.natCast_add, Int.mul_add]; simp; omega
    rw [hE] at hadd
    have e6 : IntKind.i64.wrap ((i : Int) + 1) = ((i + 1 : Nat) : Int) := by rw [wrap_i64] <;> omega
    unfold Sh.gliderlaw03_DecSigns_l2
    simp only [ag_zero, ag_succ, GMb, joinPt, decide_true, decide_false, if_true, if_false, hi', load_big, c1, hadd, store_big (es := bigC (e + z * (i : Int))) rfl, e6]
  · have hz10 : e + z * ((10 : Nat) : Int) = e + z * 10 := rfl
    have ht := fun H => q_text (e + z * 10) H (Nat.lt_of_lt_of_le (m := 10 ^ 302) (hbd 10 (by omega)) (pow10_up (a := 302) (b := 4096) (by omega)))
    have hten := decZ_ten hz0 hk he
    rw [hten] at ht
    have e1 : IntKind.i64.wrap (48 + (k : Int)) = ((48 + k : Nat) : Int) := by rw [wrap_i64] <;> omega
    have e2 : convInt .u8 (.int .i64 ((48 + k : Nat) : Int)) = some (.int .u8 ((UInt8.ofNat (48 + k)).toNat : Int)) := by
      rw [conv_int, wrap_u8 (by omega) (by omega), ofNat_dig hk]
    have hdl : (decZ z).length ≤ 500 := by
      have := decN_log2 300 z.natAbs hz
      simp at this
      unfold decZ
      split
      · rw [List.length_cons]; omega
      · omega
    have hf := hb.fin true [.cel 0 (bigC (e + z * 10))]
    unfold Sh.gliderlaw03_DecSigns_l2
    rw [hz10]
    simp only [ag_zero, ag_succ, GMb, joinPt, decide_true, decide_false, if_true, if_false, show ¬ (((10 : Nat) : Int) < 10) from by decide, load_big, ht, e1, e2, and_self, build_Y, toStr_enL]
    rw [bin_sadd (by simp; omega)]
    simp only [GMb, joinPt, decide_true, decide_false, if_true, if_false, bin_seql, beq_self_eq_true, hf]
theorem signs_ok {neg : Bool} {l : List Nat} {d : Nat} (H : AHeap) (hx : Lim l) (hd : d < 256) :
    Sh.gliderlaw03_DecSigns (.agg [.bool neg, .sl (enL cU l) .no]) (.int .u8 (d : Int)) H = some (.ret (.bool true), H) := by
  obtain ⟨B, hb⟩ := boxd H neg l
  have b0 := hb.load []
  have b1 := hb.limb []
  have b2 := hb.neg []
  have bf := fun p => hb.fin p []
  rw [List.append_nil] at b0 b1 b2
  simp only [List.append_nil] at bf
  have hdl : decide ((l.length : Int) > 30) = decide (30 < l.length) := by rw [Bool.eq_iff_iff]; simp only [decide_eq_true_eq]; omega
  unfold Sh.gliderlaw03_DecSigns
  simp only [hb.box, afterA_some, q_alive, GMb, joinPt, decide_true, decide_false, if_true, if_false, b0, b1, fieldAddr_ptr, Nat.zero_add, len_enL, hdl]
  by_cases hg : 30 < l.length
  · simp only [hg, decide_true, GMb, joinPt, decide_true, decide_false, if_true, if_false, bf]
  · have hr := fun H => q02_right neg l .no H (by omega)
    simp only [hg, decide_false, GMb, joinPt, decide_true, decide_false, if_true, if_false, b0, hr]
    by_cases hok : bigOkB neg l = true
    · obtain ⟨z, hzz⟩ : ∃ z, z = bigI neg l := ⟨_, rfl⟩
      have hz : z.natAbs < 10 ^ 300 := by rw [hzz]; exact big_ten (neg := neg) (k := 30) (m := 300) hx (by omega) (by omega)
      have hz2 : z.natAbs < 10 ^ 4096 := Nat.lt_of_lt_of_le (m := 10 ^ 300) hz (pow10_up (a := 300) (b := 4096) (by omega))
      have hbe : AVal.agg [.bool neg, .sl (enL cU l) .no] = big z := by rw [bigC_ok hok hx, hzz]; rfl
      have hcell : [AVal.bool neg, .sl (enL cU l) .no] = bigC z := by rw [bigC_ok hok hx, hzz]
      have hng : neg = decide (z < 0) := by injection hcell with h1 _; injection h1
      have hll : l = lims z.natAbs := by
        have h := hcell
        unfold bigC at h
        injection h with _ h2
        injection h2 with h3 _
        injection h3 with h4 _
        exact enL_inj h4
      have h1 : ∀ H, Sh.dec_Text (.agg [.bool neg, .sl (enL cU l) .no]) H = some (.ret (.str (decZ z)), H) := fun H => by rw [hbe]; exact q_text _ H hz2
      have h2 : ∀ H, Sh.gliderref02_Minus (.agg [.bool neg, .sl (enL cU l) .no]) H = some (.ret (big (-z)), H) := fun H => by rw [hbe]; exact q02_minusZ _ H (LB_ten hz (by omega))
      have h3 := fun H => q_text (-z) H (by rw [Int.natAbs_neg]; exact hz2)
      simp only [hok, GMb, joinPt, decide_true, decide_false, if_true, if_false, b0, h1, h2, h3, and_self, b1, b2, len_enL]
      by_cases hz0 : z = 0
      · have hl0 : l = [] := by rw [hll, hz0]; exact lims_zero
        have hlen : (l.length : Int) = 0 := by rw [hl0]; rfl
        simp only [hlen, eq_self, GMb, joinPt, decide_true, decide_false, if_true, if_false, hz0, Int.neg_zero, decZ_zero, bin_seql, beq_self_eq_true, bf]
      · have hne : ¬ ((l.length : Int) = 0) := by
          have := List.length_pos_iff.2 (lims_ne (show z.natAbs ≠ 0 by omega))
          rw [← hll] at this
          omega
        have hzl : (decZ z).length ≤ 500 ∧ (decZ (-z)).length ≤ 500 := by
          have := decN_log2 300 z.natAbs hz
          simp at this
          unfold decZ
          rw [Int.natAbs_neg]
          constructor <;> (split <;> (try simp only [List.length_cons]) <;> omega)
        have hm : d % 10 < 10 := Nat.mod_lt _ (by omega)
        have e1 : (d : Int).tmod 10 = ((d % 10 : Nat) : Int) := rfl
        have e2 : convInt .i64 (.int .u8 ((d % 10 : Nat) : Int)) = some (.int .i64 ((d % 10 : Nat) : Int)) := by rw [conv_int, wrap_i64 (by omega) (by omega)]
        have h4 := fun H => q02_of ((d % 10 : Nat) : Int) H (by omega) (by omega)
        have h5 := fun H => q02_of (-((d % 10 : Nat) : Int)) H (by omega) (by omega)
        have e3 : unA .neg (.int .i64 ((d % 10 : Nat) : Int)) = some (.int .i64 (-((d % 10 : Nat) : Int))) := by
          rw [show unA .neg (.int .i64 ((d % 10 : Nat) : Int)) = some (.int .i64 (IntKind.i64.wrap (0 - ((d % 10 : Nat) : Int)))) from rfl, wrap_i64 (by omega) (by omega), Int.zero_sub]
        have c0 := hb.neg [.cel 0 (bigC ((d % 10 : Nat) : Int))]
        simp only [hne, GMb, joinPt, decide_true, decide_false, if_true, if_false]
        by_cases hzn : z < 0
        · have hnt : neg = true := by rw [hng, decide_eq_true hzn]
          have hs := decZ_neg hzn
          have hsb : (decZ z == 45 :: decZ (-z)) = true := by rw [← hs]; simp
          have key := signs_loop (e := -((d % 10 : Nat) : Int)) hb hbe hz hz0 hm (by rw [if_pos hzn])
          subst hnt
          simp only [GMb, joinPt, decide_true, decide_false, if_true, if_false]
          rw [bin_sadd (by simp; omega)]
          simp only [GMb, joinPt, decide_true, decide_false, if_true, if_false, bin_sneq, List.singleton_append, hsb, bin_rem (show (10 : Int) ≠ 0 by decide), e1, e2, h4, alloc_eq (cs := [.bool false, .sl [] .tight]) rfl, afterA_some, store_big (es := [.bool false, .sl [] .tight]) rfl, c0, e3, h5, store_big (es := bigC ((d % 10 : Nat) : Int)) rfl, ag_zero, ag_succ, fieldAddr_ptr, Nat.zero_add, b2]
          exact key
        · have hnt : neg = false := by rw [hng, decide_eq_false hzn]
          have hs := decZ_neg (z := -z) (by omega)
          rw [Int.neg_neg] at hs
          have hsb : (decZ (-z) == 45 :: decZ z) = true := by rw [← hs]; simp
          have key := signs_loop (e := ((d % 10 : Nat) : Int)) hb hbe hz hz0 hm (by rw [if_neg hzn])
          subst hnt
          simp only [GMb, joinPt, decide_true, decide_false, if_true, if_false, fieldAddr_ptr, Nat.zero_add, b2]
          rw [bin_sadd (by simp; omega)]
          simp only [GMb, joinPt, decide_true, decide_false, if_true, if_false, bin_sneq, List.singleton_append, hsb, bin_rem (show (10 : Int) ≠ 0 by decide), e1, e2, h4, alloc_eq (cs := [.bool false, .sl [] .tight]) rfl, afterA_some, store_big (es := [.bool false, .sl [] .tight]) rfl, c0, ag_zero, ag_succ, fieldAddr_ptr, Nat.zero_add]
          exact key
    · have hok' : bigOkB neg l = false := by simpa using hok
      simp only [hok', GMb, joinPt, decide_true, decide_false, if_true, if_false, bf]
end Go.Gm
