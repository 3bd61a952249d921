/- Texts of this proof, joined. -/
import Derived.Test.YtenmplcmmdaibaaGreatDoorJ4
import Derived.Laws.RangeAny
import Derived.Laws.RangeString
set_option linter.unusedVariables false
set_option linter.unusedSimpArgs false
namespace Go.Gm
def padk : Nat → Nat → List UInt8
 | 0, _ => []
 | k + 1, r => padk k (r / 10) ++ [UInt8.ofNat (48 + r % 10)]
theorem CX {n : Nat} (h : n < 10) : AP n = [UInt8.ofNat (48 + n)] := by unfold AP; rw [dif_pos h]
theorem CY {n : Nat} (h : ¬ n < 10) : AP n = AP (n / 10) ++ [UInt8.ofNat (48 + n % 10)] := by
 conv => lhs; unfold AP
 rw [dif_neg h]
theorem QX {q : Nat} (hq : 0 < q) : ∀ k r, r < 10 ^ k → AP (q * 10 ^ k + r) = AP q ++ padk k r
 | 0, r, h => by
  have : r = 0 := by simpa using h
  subst this
  simp [padk]
 | k + 1, r, h => by
  have h2 : r / 10 < 10 ^ k := by
   rw [Nat.div_lt_iff_lt_mul (by omega), ← Nat.pow_succ]; exact h
  have hp : 1 ≤ 10 ^ k := Nat.pow_pos (by omega)
  have hqk : 1 ≤ q * 10 ^ k := Nat.mul_pos hq hp
  have e : q * 10 ^ (k + 1) + r = 10 * (q * 10 ^ k) + r := by rw [Nat.pow_succ]; rw [← Nat.mul_assoc]; omega
  rw [e, CY (by omega), show (10 * (q * 10 ^ k) + r) / 10 = q * 10 ^ k + r / 10 by omega, show (10 * (q * 10 ^ k) + r) % 10 = r % 10 by omega, QX hq k _ h2, padk]
  simp
theorem QY (n : Nat) (h : n ≠ 0) : ∃ c r, AP n = c :: r ∧ c ≠ 48 := by
 induction n using Nat.strongRecOn with
 | ind n ih =>
  by_cases hn : n < 10
  ·refine ⟨_, _, CX hn, fun e => ?_⟩
   have := congrArg UInt8.toNat e
   rw [UInt8.toNat_ofNat_of_lt' (show 48 + n < 256 by omega)] at this
   have h48 : (48 : UInt8).toNat = 48 := rfl
   omega
  ·obtain ⟨c, r, h1, h2⟩ := ih (n / 10) (by omega) (by omega)
   exact ⟨c, r ++ [UInt8.ofNat (48 + n % 10)], by rw [CY hn, h1]; rfl, h2⟩
theorem pow10_up {a b : Nat} (h : a ≤ b) : 10 ^ a ≤ 10 ^ b := Nat.pow_le_pow_right (by omega) h
end Go.Gm
namespace Go.Gm
def EV (c : UInt8) : Bool := decide (48 ≤ c.toNat) && decide (c.toNat ≤ 57)
def F6 (s : List UInt8) : Nat := (s.takeWhile EV).length
theorem digN_le (s : List UInt8) : F6 s ≤ s.length := (List.takeWhile_sublist EV).length_le
theorem QV (c : UInt8) (s : List UInt8) : F6 (c :: s) = if EV c then F6 s + 1 else 0 := by
 unfold F6
 rw [List.takeWhile_cons]
 split <;> simp
theorem byteAt (s : List UInt8) (pos : Nat) (h : pos < s.length) : ((⟨s.toArray⟩ : ByteArray)[pos]'(by show pos < s.toArray.size; simpa using h)) = s[pos] := by
 show s.toArray[pos] = s[pos]
 simp
theorem idx_from (s : List UInt8) : ∀ (f pos : Nat), pos ≤ s.length → s.length - pos ≤ f → Lib.idxFuncFrom Ib true ⟨s.toArray⟩ f pos = if pos + F6 (s.drop pos) < s.length then ((pos + F6 (s.drop pos) : Nat) : Int) else -1
 | 0, pos, h1, h2 => by
  have : pos = s.length := by omega
  subst this
  rw [Lib.idxFuncFrom, if_neg (by omega)]
 | f + 1, pos, h1, h2 => by
  have hsz : (⟨s.toArray⟩ : ByteArray).size = s.length := by simp [ByteArray.size]
  unfold Lib.idxFuncFrom
  rw [hsz]
  by_cases hp : pos < s.length
  ·rw [if_pos hp, List.drop_eq_getElem_cons hp, QV]
   have hb := byteAt s pos hp
   by_cases ha : s[pos].toNat < 128
   ·rw [decode_ascii ⟨s.toArray⟩ pos (by omega) (by rw [hb]; exact ha), hb]
    simp only []
    by_cases hd : EV s[pos] = true
    ·have hnd : Ib s[pos].toNat = false := by
      simp only [EV, Bool.and_eq_true, decide_eq_true_eq] at hd
      simp only [Ib, Bool.or_eq_false_iff, decide_eq_false_iff_not]
      omega
     rw [hnd, if_neg (by simp), if_pos hd, idx_from s f (pos + 1) (by omega) (by omega)]
     rw [show pos + (F6 (s.drop (pos + 1)) + 1) = pos + 1 + F6 (s.drop (pos + 1)) by omega]
    ·have hnd : Ib s[pos].toNat = true := by
      simp only [EV, Bool.and_eq_true, decide_eq_true_eq] at hd
      simp only [Ib, Bool.or_eq_true, decide_eq_true_eq]
      omega
     rw [hnd, if_pos rfl, if_neg hd, if_pos (by omega)]
     rfl
   ·obtain ⟨k1, k2⟩ := decode_high ⟨s.toArray⟩ pos (by omega) (by rw [hb]; omega)
    have hd : ¬ EV s[pos] = true := by
     simp only [EV, Bool.and_eq_true, decide_eq_true_eq]
     omega
    have hnd : Ib (Utf8.decode ⟨s.toArray⟩ pos).1 = true := by
     simp only [Ib, Bool.or_eq_true, decide_eq_true_eq]
     omega
    rw [hnd, if_pos rfl, if_neg hd, if_pos (by omega)]
    rfl
  ·rw [if_neg hp, if_neg (by omega)]
theorem idx_dig (s : List UInt8) : Lib.idxFunc Ib true ⟨s.toArray⟩ = if F6 s < s.length then (F6 s : Int) else -1 := by
 have hsz : (⟨s.toArray⟩ : ByteArray).size = s.length := by simp [ByteArray.size]
 have := idx_from s s.length 0 (Nat.zero_le _) (by omega)
 rw [Nat.zero_add, List.drop_zero] at this
 rw [Lib.idxFunc, hsz, this]
def digA (s : List UInt8) (at' : Int) : Nat := if at' < 0 then 0 else F6 (s.drop at'.toNat)
theorem q_digits (s : List UInt8) (at' : Int) (H : Ab) (hs : s.length < 1152921504606846976) : Sh.f1g (.str s) (.int .i64 at') H = some (.ret (.int .i64 (digA s at')), H) := by
 unfold Sh.f1g digA
 by_cases h0 : at' < 0
 ·simp only [GMb, GMc, h0, if_true]
  rfl
 ·obtain ⟨a, rfl⟩ : ∃ a : Nat, at' = (a : Int) := ⟨at'.toNat, by omega⟩
  simp only [GMb, GMc, h0, if_false, EA, Int.toNat_natCast]
  by_cases h1 : a ≤ s.length
  ·have h1' : ¬ ((a : Int) > (s.length : Int)) := by omega
   have hsl : Bj (.str s) (some (.int .i64 (a : Int))) none = some (.str (s.drop a)) := by
    simp [Bj, AW, h1]
   have hi : Sh.f17 (.str (s.drop a)) (.fn 120 []) H = some (.ret (.int .i64 (if F6 (s.drop a) < (s.drop a).length then (F6 (s.drop a) : Int) else -1)), H) := by
    unfold Sh.f17
    simp only [idx_dig]
   have hle := digN_le (s.drop a)
   simp only [h1', GMb, GMc, hsl]
   by_cases hd : F6 (s.drop a) < (s.drop a).length
   ·have : ¬ ((F6 (s.drop a) : Int) < 0) := by omega
    rw [hi, if_pos hd]
    simp only [this, GMb, GMc]
   ·have e : F6 (s.drop a) = (s.drop a).length := by omega
    rw [hi, if_neg hd]
    simp only [show ((-1 : Int) < 0) from by decide, GMb, GMc, EA, ← e]
  ·have h1' : (a : Int) > (s.length : Int) := by omega
   rw [List.drop_eq_nil_of_le (by omega)]
   simp only [h1', GMb, GMc]
   rfl
end Go.Gm
namespace Go.Gm
def ES (s : List UInt8) : Nat := s.foldl (fun v c => v * 10 + (c.toNat - 48)) 0
theorem K4 (s : List UInt8) (c : UInt8) : ES (s ++ [c]) = ES s * 10 + (c.toNat - 48) := by simp [ES]
theorem digN_all {s : List UInt8} (h : F6 s = s.length) : ∀ c ∈ s, EV c = true := by
 induction s with
 | nil => intro c hc; cases hc
 | cons x s ih =>
  rw [QV] at h
  by_cases hx : EV x = true
  ·rw [if_pos hx, List.length_cons] at h
   intro c hc
   rcases List.mem_cons.1 hc with e | e
   ·rw [e]; exact hx
   ·exact ih (by omega) c e
  ·rw [if_neg hx] at h
   simp at h
theorem Fo (c : UInt8) : EV c = true ↔ 48 ≤ c.toNat ∧ c.toNat ≤ 57 := by simp [EV]
theorem decV_lt {s : List UInt8} (h : ∀ c ∈ s, EV c = true) : ∀ i, i ≤ s.length → ES (s.take i) < 10 ^ i
 | 0, _ => by simp [ES]
 | i + 1, hi => by
  have := decV_lt h i (by omega)
  have hc := (Fo _).1 (h _ (List.getElem_mem (show i < s.length by omega)))
  rw [List.take_succ_eq_append_getElem (by omega), K4, Nat.pow_succ]
  omega
def Mt (s : List UInt8) : Bool := match s with
 | c :: _ => c == 45
 | [] => false
def B1 (s : List UInt8) : List UInt8 := if Mt s then s.drop 1 else s
def NL (s : List UInt8) : Bool := B1 s == [] || decide (F6 (B1 s) < (B1 s).length) || ((B1 s)[0]?.getD 0 == 48 && !(s == [48]))
def GZ (s : List UInt8) : Int := if NL s then 2 else if (B1 s).length > 400 then 4 else 0
def Ew (s : List UInt8) : Int := if GZ s = 0 then (if Mt s then -(ES (B1 s) : Int) else ES (B1 s)) else 0
theorem q_cutprefix (s : List UInt8) (H : Ab) (hs : s.length < 1152921504606846976) : Sh.f1f (.str s) (.str [45]) H = some (.ret (.tup [.str (B1 s), .bool (Mt s)]), H) := by
 have hp : Sh.f1e (.str s) (.str [45]) H = some (.ret (.bool (Mt s)), H) := by
  unfold Sh.f1e
  cases s with
  | nil => simp [Bx, Mt]
  | cons c r =>
   have h1 : ((c :: r).length : Int) ≥ (([45] : List UInt8).length : Int) := by simp; omega
   have h2 : Bj (.str (c :: r)) none (some (.int .i64 (([45] : List UInt8).length : Int))) = some (.str [c]) := by
    rw [GT (by simp)]; rfl
   simp only [EA, GMb, GMc, h1, h2, Ki]
   simp [Mt]
 unfold Sh.f1f Sh.f2h
 cases hb : Mt s with
 | false => simp only [GMb, GMc, hp, hb, Dg, Ez, B1, Bool.false_eq_true, if_false]
 | true =>
  have h2 : Bj (.str s) (some (.int .i64 (([45] : List UInt8).length : Int))) none = some (.str (s.drop 1)) := by
   refine CN (l := 1) ?_
   cases s with
   | nil => cases hb
   | cons c r => simp
  simp only [GMb, GMc, hp, hb, EA, h2, Dg, Ez, B1, if_true]
theorem next_dig {B : Ab} {d : List UInt8} {i : Nat} (h : i < d.length) (hd : d[i].toNat < 128) : LN (.ptr B.length 0 0) (B ++ [.iter d i]) = some (.tup [.bool true, .int .i64 (i : Int), .int .i32 (d[i].toNat : Int)], B ++ [.iter d (i + 1)]) := by
 have hb := byteAt d i h
 have hdec := decode_ascii ⟨d.toArray⟩ i (by show i < d.toArray.size; simpa using h) (by rw [hb]; exact hd)
 simp only [LN, List.getElem?_concat_length, h, if_true, hdec, hb, BU]
theorem next_end {B : Ab} {d : List UInt8} : LN (.ptr B.length 0 0) (B ++ [.iter d d.length]) = some (.tup [.bool false], B ++ [.iter d d.length]) := by
 simp [LN]
theorem fin_big {H G : Ab} {zb : List Aa} {neg : Bool} {l : List Nat} {tk : Tok} {e : Int} (hz : zb.length = 2) :
  (bP H (AJ (Ak 2 (.ptr H.length 0 0) (.agg [.bool neg, .sl (enL cU l) tk]) (H ++ (.cel 0 zb :: G)))) fun _ H40 => (KG [Ad true 2 (.ptr H.length 0 0) H40, some (.int .i64 e)]).bind fun x => rPN H x H40) = some (.ret (.tup [.agg [.bool neg, .sl (enL cU l) .no], .int .i64 e]), H) := by
 have h1 : Ak 2 (.ptr H.length 0 0) (.agg [.bool neg, .sl (enL cU l) tk]) (H ++ (.cel 0 zb :: G)) = some (H ++ (.cel 0 [.bool neg, .sl (enL cU l) tk] :: G)) := by
  rw [Fu, Ms (vs := [.bool neg, .sl (enL cU l) tk]) rfl hz rfl]
  rfl
 have h2 : Ad true 2 (.ptr H.length 0 0) (H ++ (.cel 0 [.bool neg, .sl (enL cU l) tk] :: G)) = some (.agg [.bool neg, .sl (enL cU l) tk]) := by
  rw [G2]; rfl
 simp only [h1, GMb, GMc, h2, resM_eq, Mv, OB, Option.map_some, D0, EI, Ct, CU, K1, FX, Hv, LZ, P7, DJ]
theorem big_zero : Aa.agg [.bool false, .sl (enL cU []) .no] = big 0 := by
 rw [big_eq, show (0 : Int).natAbs = 0 from rfl, Kw]
 rfl
theorem big_of {neg : Bool} {n : Nat} (h : neg = true → n ≠ 0) : Aa.agg [.bool neg, .sl (enL cU (Cy n)) .no] = big (if neg then -(n : Int) else n) := by
 have h1 := big_sgn neg n
 have h2 : sgn neg n = neg := by
  unfold sgn
  cases neg with
  | false => rfl
  | true => simp [h rfl]
 rw [h2] at h1
 rw [h1]
 rfl
theorem PH : A5 (some [(.bool false), (.sl [] .tight)]) [] = some (.agg [.bool false, .sl (enL cU []) .tight]) := rfl
theorem build_both {neg : Bool} {es : List (List Aa)} {tk : Tok} : A5 (some [(.bool false), (.sl [] .tight)]) [(0, 1, .bool neg), (1, 1, .sl es tk)] = some (.agg [.bool neg, .sl es tk]) := by simp [A5, G7, D4]
theorem syn_dig {s : List UInt8} (h : NL s = false) : B1 s ≠ [] ∧ F6 (B1 s) = (B1 s).length ∧ ((B1 s)[0]?.getD 0 = 48 → s = [48]) := by
 unfold NL at h
 simp only [Bool.or_eq_false_iff, Bool.and_eq_false_iff, beq_eq_false_iff_ne, decide_eq_false_iff_not, ne_eq, Bool.not_eq_false', beq_iff_eq] at h
 have := digN_le (B1 s)
 refine ⟨h.1.1, by omega, fun h0 => ?_⟩
 rcases h.2 with h3 | h3
 ·exact absurd h0 h3
 ·exact h3
theorem decV_cons (c : UInt8) (s : List UInt8) : ES (c :: s) = (c.toNat - 48) * 10 ^ s.length + ES s := by
 have key : ∀ (s : List UInt8) (v : Nat), s.foldl (fun v c => v * 10 + (c.toNat - 48)) v = v * 10 ^ s.length + ES s := by
  intro s
  induction s with
  | nil => intro v; simp [ES]
  | cons x s ih =>
   intro v
   rw [List.foldl_cons, ih, List.length_cons, Nat.pow_succ]
   have e : ES (x :: s) = (x.toNat - 48) * 10 ^ s.length + ES s := by
    have := ih (0 * 10 + (x.toNat - 48))
    rw [Nat.zero_mul, Nat.zero_add] at this
    unfold ES
    rw [List.foldl_cons, Nat.zero_mul, Nat.zero_add]
    exact this
   rw [e, Nat.add_mul, Nat.mul_assoc v 10, Nat.mul_comm 10]
   omega
 have := key s (0 * 10 + (c.toNat - 48))
 rw [Nat.zero_mul, Nat.zero_add] at this
 conv => lhs; unfold ES
 rw [List.foldl_cons, Nat.zero_mul, Nat.zero_add]
 exact this
theorem decV_ne {s : List UInt8} (h : NL s = false) (hn : Mt s = true) : ES (B1 s) ≠ 0 := by
 obtain ⟨h1, h2, h3⟩ := syn_dig h
 cases hd : B1 s with
 | nil => exact absurd hd h1
 | cons c r =>
  rw [decV_cons]
  have hc := digN_all h2 c (by rw [hd]; simp)
  rw [Fo] at hc
  have h48 : c.toNat ≠ 48 := fun e => by
   have : c = 48 := UInt8.toNat.inj e
   have := h3 (by rw [hd, this]; rfl)
   rw [this] at hn
   cases hn
  have : 1 ≤ 10 ^ r.length := Nat.pow_pos (by omega)
  have : 1 ≤ (c.toNat - 48) * 10 ^ r.length := Nat.mul_pos (by omega) this
  omega
theorem wrap_i32 {n : Int} (h0 : -2147483648 ≤ n) (h : n ≤ 2147483647) : IntKind.i32.wrap n = n := by
 have h1 : IntKind.i32.bits = 32 := rfl
 have h2 : IntKind.i32.signed = true := rfl
 unfold IntKind.wrap
 simp only [h1, h2, Bool.true_and]
 split <;> rename_i hc <;> simp at hc <;> omega
theorem wrap_dig {c : UInt8} (h : EV c = true) : IntKind.i32.wrap ((c.toNat : Int) - 48) = ((c.toNat - 48 : Nat) : Int) := by
 rw [Fo] at h
 rw [wrap_i32 (by omega) (by omega)]
 omega
theorem lims_short2 {n m : Nat} (h : n < 10 ^ m) (hm : m ≤ 4096) : (Cy n).length ≤ 4096 := Po (n := n) (Nat.lt_of_lt_of_le (m := 10 ^ m) h (pow10_up (a := m) (b := 4096) hm))
theorem q_parse (s : List UInt8) (H : Ab) (hs : s.length < 1152921504606846976) : Sh.f1i (.str s) H = some (.ret (.tup [big (Ew s), .int .i64 (GZ s)]), H) := by
 unfold Sh.f1i
 have htl : (B1 s).length ≤ s.length := by unfold B1; split <;> simp
 have hcp := q_cutprefix s (H ++ [Blk.cel 0 [.bool false, .sl [] .tight]]) hs
 have hdg := q_digits (B1 s) 0 (H ++ [Blk.cel 0 [.bool false, .sl [] .tight]]) (by omega)
 have hd0 : (digA (B1 s) 0 : Int) = (F6 (B1 s) : Int) := by simp [digA]
 rw [hd0] at hdg
 simp only [alloc_eq (cs := [.bool false, .sl [] .tight]) rfl, BD, hcp, GMb, GMc, Dg, Ez, Ki]
 have tail : Sh.f44 H (.ptr H.length 0 0) (.str (B1 s)) (.bool (Mt s)) (.bool (NL s)) (H ++ [Blk.cel 0 [.bool false, .sl [] .tight]]) = some (.ret (.tup [big (Ew s), .int .i64 (GZ s)]), H) := by
  unfold Sh.f44
  cases hsyn : NL s with
  | true =>
   have hE : GZ s = 2 := by simp [GZ, hsyn]
   have hZ : Ew s = 0 := by simp [Ew, hE]
   rw [hE, hZ, ← big_zero]
   simp only [GMb, GMc, PH]
   exact fin_big rfl
  | false =>
   obtain ⟨n1, n2, n3⟩ := syn_dig hsyn
   simp only [GMb, GMc, EA]
   by_cases hl : (B1 s).length > 400
   ·have hl' : ((B1 s).length : Int) > 400 := by omega
    have hE : GZ s = 4 := by simp [GZ, hsyn, hl]
    have hZ : Ew s = 0 := by simp [Ew, hE]
    rw [hE, hZ, ← big_zero]
    simp only [hl', GMb, GMc, PH]
    exact fin_big rfl
   ·have hl' : ¬ ((B1 s).length : Int) > 400 := by omega
    have hE : GZ s = 0 := by simp [GZ, hsyn, hl]
    have hZ : Ew s = (if Mt s then -(ES (B1 s) : Int) else ES (B1 s)) := by simp [Ew, hE]
    have hne := decV_ne hsyn
    have hall := digN_all n2
    have hlt := decV_lt hall
    rw [hE, hZ, ← big_of (neg := Mt s) hne]
    generalize hd : B1 s = d at *
    simp only [hl', GMb, GMc]
    have hrg : Lg (.str d) (H ++ [Blk.cel 0 [.bool false, .sl [] .tight]]) = some (.ptr (H.length + 1) 0 0, H ++ [.cel 0 [.bool false, .sl [] .tight]] ++ [.iter d 0]) := by simp [Lg]
    simp only [hrg, GMb, GMc]
    have hBl : (H ++ [Blk.cel 0 [.bool false, .sl [] .tight]]).length = H.length + 1 := by simp
    obtain ⟨tkf, htk⟩ : ∃ tkf : Nat → Tok, tkf = fun i => if i = 0 then .tight else .no := ⟨_, rfl⟩
    have key := BM (G := fun rec2 vs H1 => Sh.f2v H rec2 (ag vs 0) (ag vs 1) (ag vs 2) (ag vs 3) H1) d.length (fun i => [.ptr H.length 0 0, .bool (Mt s), .sl (enL cU (Cy (ES (d.take i)))) (tkf i), .ptr (H.length + 1) 0 0])
     (fun i => H ++ [.cel 0 [.bool false, .sl [] .tight]] ++ [.iter d i]) (some (.ret (.tup [.agg [.bool (Mt s), .sl (enL cU (Cy (ES d))) .no], .int .i64 0]), H)) (by omega) (fun rec i hi => ?_) (fun rec => ?_)
    ·rw [List.take_zero, show ES [] = 0 from rfl, Kw, htk] at key
     exact key
    ·have hdi := hall _ (List.getElem_mem hi)
     have hdi2 := (Fo _).1 hdi
     have hnx := next_dig (B := H ++ [Blk.cel 0 [.bool false, .sl [] .tight]]) hi (by omega)
     rw [hBl] at hnx
     have hw := wrap_dig hdi
     have hcv : AU .u32 (.int .i32 ((d[i].toNat - 48 : Nat) : Int)) = some (.int .u32 ((d[i].toNat - 48 : Nat) : Int)) := by rw [BJ, CM (by omega) (by omega)]
     have hsh := lims_short2 (hlt i (by omega)) (by omega)
     have hml := fun H => q_mul (l := Cy (ES (d.take i))) (tk := tkf i) (m := 10) (c := d[i].toNat - 48) H (lim_lims _) (by omega) (by omega) (by omega)
     simp only [Gl, ← K4, ← List.take_succ_eq_append_getElem hi, show ((10 : Nat) : Int) = 10 from rfl] at hml
     have htk1 : tkf (i + 1) = .no := by rw [htk]; rfl
     unfold Sh.f2v
     simp only [A9, Aw, hnx, GMb, GMc, Dg, show ∀ (x y z : Aa), An 2 (.tup [x, y, z]) = some z from fun _ _ _ => rfl, show ∀ (x y z : Aa), An 0 (.tup [x, y, z]) = some x from fun _ _ _ => rfl, hw, hcv, hml, htk1]
    ·have hnx := next_end (B := H ++ [Blk.cel 0 [.bool false, .sl [] .tight]]) (d := d)
     rw [hBl] at hnx
     unfold Sh.f2v
     simp only [A9, Aw, hnx, GMb, GMc, show ∀ (x : Aa), An 0 (.tup [x]) = some x from fun _ => rfl, build_both, List.take_length]
     rw [List.append_assoc H]
     exact fin_big rfl
 by_cases h0 : B1 s = []
 ·have hsyn : NL s = true := by simp [NL, h0]
  rw [hsyn] at tail
  simp only [h0, beq_self_eq_true, GMb, GMc, A9, Aw] at tail ⊢
  exact tail
 ·have hb : (B1 s == []) = false := by simpa using h0
  simp only [hb, GMb, GMc, hdg, EA]
  by_cases hlt : F6 (B1 s) < (B1 s).length
  ·have hlt' : (F6 (B1 s) : Int) < ((B1 s).length : Int) := by omega
   have hsyn : NL s = true := by simp [NL, hlt]
   rw [hsyn] at tail
   simp only [hlt', GMb, GMc, A9, Aw]
   exact tail
  ·have hlt' : ¬ (F6 (B1 s) : Int) < ((B1 s).length : Int) := by omega
   obtain ⟨c, r, hcr⟩ := List.exists_cons_of_ne_nil h0
   have hix : CS (.str (B1 s)) (.int .i64 0) = some (.int .u8 (c.toNat : Int)) := by rw [hcr]; exact idx_str0
   have hsyn : NL s = ((c == 48) && !(s == [48])) := by
    simp only [NL, hb, decide_eq_false hlt, Bool.false_or]
    rw [hcr]
    rfl
   have hcc : decide ((c.toNat : Int) = 48) = (c == 48) := by
    rw [Bool.eq_iff_iff]
    simp only [decide_eq_true_eq, beq_iff_eq]
    constructor
    ·intro h
     exact UInt8.toNat.inj (show c.toNat = (48 : UInt8).toNat from by have : (48 : UInt8).toNat = 48 := rfl; omega)
    ·intro h; rw [h]; rfl
   rw [hsyn] at tail
   simp only [hlt', GMb, GMc, hix, hcc, bin_sneq]
   cases hc48 : (c == 48) with
   | false =>
    rw [hc48, Bool.false_and] at tail
    simp only [GMb, GMc, A9, Aw]
    exact tail
   | true =>
    rw [hc48, Bool.true_and] at tail
    simp only [GMb, GMc, A9, Aw]
    exact tail
end Go.Gm
namespace Go.Gm
def hv (e : Int × List UInt8) : Aa := Pz e.1 e.2
def LD (er : Er) (v : Aa) : Res := match er with
 | none => .ret v
 | some e => .pan (hv e)
@[simp] theorem Bq (v : Aa) : LD none v = .ret v := (rfl)
@[simp] theorem Be (e : Int × List UInt8) (v : Aa) : LD (some e) v = .pan (hv e) := (rfl)
theorem Gu (b : List UInt8) (a : Nat) (s : List UInt8) : Nr b a s = hv (Fs b a s) := by
 unfold Nr hv Fs; split <;> rfl
section
variable {H : Ab} {p a : Nat} {b : List UInt8} {r : List Aa}
theorem Dq (h : Lx H p b a r) (s : List UInt8) : Sh.f1 (.ptr p 0 0) (.str s) H = some (.pan (hv (Fs b a s)), H) := by
 rw [Ku h, ← Gu]; rfl
theorem lx_endS (h : Lx H p b a r) (ha : a ≤ b.length) (hb : b.length < 1152921504606846976) (rest : List UInt8) (hr : rest.length ≤ 1000000) :
  Sh.ff (.ptr p 0 0) (.str rest) H = some (LD (Hw b a rest).1 (.tup []), AG H p b r (Hw b a rest).2) := by
 rw [lx_end h ha hb rest hr]
 unfold endO Hw eolN
 by_cases e : a = b.length
 ·have hs := B6 h
  rw [e] at hs
  simp only [e, if_true, Bq, hs]
 ·simp only [if_neg e]
  cases hs : A7 b (crN b a) [10] with
  | true => simp only [if_true, Bq]
  | false => simp only [Bool.false_eq_true, if_false, Be, Gu]
theorem LR (h : Lx H p b a r) (ha : a ≤ b.length) (hb : b.length < 1152921504606846976) (s rest : List UInt8) (hs : s.length ≤ 1000000) (hr : rest.length ≤ 1000000) :
  Sh.f4 (.ptr p 0 0) (.str s) (.str rest) H = some (LD (BA b a s rest).1 (.tup []), AG H p b r (BA b a s rest).2) := by
 rw [lx_must h ha hb s rest hs hr]
 unfold mustO BA Ho
 by_cases e : cpN (b.drop a) s < s.length
 ·simp only [if_pos e, Be, Gu]
 ·simp only [if_neg e, Bq]
theorem lx_ruleS (h : Lx H p b a r) (ha : a ≤ b.length) (hb : b.length < 1152921504606846976) (rest : List UInt8) (hr : rest.length ≤ 1000000) :
  Sh.fy (.ptr p 0 0) (.str rest) H = some (LD (NO b a rest).1 (.str ((b.take (NO b a rest).2).drop a)), AG H p b r (NO b a rest).2) := by
 rw [lx_rule h ha hb rest hr]
 unfold ruleO NO
 by_cases e : FN b a 40 a = a
 ·simp only [e, if_true, Be, Gu]
 ·simp only [if_neg e, Bq]
theorem numR_S (b : List UInt8) (f : Nat) (rest : List UInt8) : ∀ n a, Lp b f rest n a = ((Lo b f rest n a).1.map hv, (Lo b f rest n a).2)
 | 0, a => rfl
 | n + 1, a => by
  rw [Lp, Lo]
  split
  ·split
   ·rw [Gu]; rfl
   ·split
    ·rfl
    ·exact numR_S b f rest n (a + 1)
  ·split
   ·rw [Gu]; rfl
   ·rfl
theorem lx_lt (h : Lx H p b a r) : p < H.length := by
 rcases Nat.lt_or_ge p H.length with h' | h'
 ·exact h'
 ·unfold Lx at h; rw [List.getElem?_eq_none h'] at h; cases h
theorem Mu {G : Ab} {e : Nat} (h : p < H.length) : AG (H ++ G) p b r e = AG H p b r e ++ G := by
 unfold AG; rw [List.set_append_left _ _ h]
theorem lx_num_end (h : Lx H p b a r) {f e : Nat} (hfe : f ≤ e) (he : e ≤ b.length) (hb : b.length < 1152921504606846976) (zb : List Aa) (hz : zb.length = 2) :
  ∃ G, Sh.f2i H (.ptr p 0 0) (.ptr H.length 0 0) (.int .i64 (f : Int)) (AG H p b r e ++ [.cel 0 zb]) = some (.ret (big (Ew ((b.take e).drop f))), AG H p b r e ++ G) := by
 have hx := Cw (a' := e) h
 have hl := Fv H p e b r
 have hld0 : ∀ G, Ad false 1 (.ptr p 0 0) (AG H p b r e ++ G) = some (.str b) := fun G => Qa (Lx.push hx)
 have hld1 : ∀ G, Ad false 1 (.ptr p 0 1) (AG H p b r e ++ G) = some (.int .i64 (e : Int)) := fun G => De (Lx.push hx)
 unfold Sh.f2i
 rw [← hl]
 generalize AG H p b r e = K at *
 have hq := fun H => q_parse ((b.take e).drop f) H (by simp only [List.length_drop, List.length_take]; omega)
 obtain ⟨sg, es, hbig⟩ : ∃ sg es, big (Ew ((b.take e).drop f)) = .agg [.bool sg, .sl es .no] := ⟨_, _, big_eq _⟩
 rw [hbig] at hq ⊢
 refine ⟨[.cel 0 [.bool sg, .sl es .no], .cel 0 [.bool sg, .sl es .no]], ?_⟩
 simp only [GMb, GMc, HPa, HPc, HPd, HPe, HPz, Nat.reduceAdd, Nat.reduceLT, hld0, hld1, Qs hfe he, hq, hz]
 rfl

end
end Go.Gm
namespace Go.Gm
theorem numS_le (b : List UInt8) (f : Nat) (rest : List UInt8) : ∀ n a, a ≤ b.length → a ≤ (Lo b f rest n a).2 ∧ (Lo b f rest n a).2 ≤ b.length := fun n a h => by
 have := numR_le b f rest n a h
 rw [numR_S] at this; exact this
theorem intF_le {b : List UInt8} {a : Nat} (ha : a ≤ b.length) (neg : Bool) : a ≤ NU b a neg ∧ NU b a neg ≤ b.length := by
 unfold NU
 cases neg with
 | false => exact ⟨Nat.le_refl _, ha⟩
 | true =>
  cases hs : A7 b a [45] with
  | true => have := Cf hs; simp; omega
  | false => simpa using ha
theorem intS_le {b : List UInt8} {a : Nat} (ha : a ≤ b.length) (neg : Bool) (rest : List UInt8) : a ≤ (Gf b a neg rest).2 ∧ (Gf b a neg rest).2 ≤ b.length := by
 unfold Gf
 have h1 := intF_le ha neg
 have h2 := numS_le b (NU b a neg) rest 402 (NU b a neg) h1.2
 split
 ·rename_i h
  simp only [Bool.and_eq_true] at h
  have := Cf h.2
  exact ⟨Nat.le_succ _, by omega⟩
 ·omega
section
variable {H : Ab} {p a : Nat} {b : List UInt8} {r : List Aa}
theorem Q7 (h : Lx H p b a r) {f : Nat} (haf : a ≤ f) (hf : f ≤ b.length) (hb : b.length < 1152921504606846976) (rest : List UInt8) (hr : rest.length ≤ 1000000) (zb : List Aa) (hz : zb.length = 2) :
  ∃ G, Sh.f2y H (.ptr p 0 0) (.str rest) (.ptr H.length 0 0) (.int .i64 (a : Int)) (AG H p b r f ++ [.cel 0 zb]) = some (LD (Lo b f rest 402 f).1 (big (Ew ((b.take (Lo b f rest 402 f).2).drop a))), AG H p b r (Lo b f rest 402 f).2 ++ G) := by
 have hp := lx_lt h
 have hx : Lx (AG H p b r f ++ [.cel 0 zb]) p b f r := Lx.push (Cw h)
 have key := lx_num_loop (H0 := H) hx hf hb rest hr (.ptr H.length 0 0) (.int .i64 (a : Int))
 have hle := numS_le b f rest 402 f hf
 unfold Sh.f2y
 simp only [GMb, GMc, HPa, HPc, HPd, HPe, HPz, Nat.reduceAdd, Nat.reduceLT, De hx]
 rw [key, numR_S]
 generalize Lo b f rest 402 f = R at *
 obtain ⟨er, e⟩ := R
 have hpp : ∀ G : Ab, AG (AG H p b r f ++ G) p b r e = AG H p b r e ++ G := fun G => by
  rw [Mu (by rw [Fv]; exact hp), Kq]
 cases er with
 | some v =>
  refine ⟨[.cel 0 zb], ?_⟩
  show some (Res.pan (hv v), AG _ p b r e) = _
  rw [hpp]; rfl
 | none =>
  obtain ⟨G, hG⟩ := lx_num_end h (f := a) (e := e) (by dsimp only at hle; omega) hle.2 hb zb hz
  refine ⟨G, ?_⟩
  show Sh.f2i H (.ptr p 0 0) (.ptr H.length 0 0) (.int .i64 (a : Int)) (AG _ p b r e) = _
  rw [hpp, hG]; rfl
theorem lx_number (h : Lx H p b a r) (ha : a ≤ b.length) (hb : b.length < 1152921504606846976) (neg : Bool) (rest : List UInt8) (hr : rest.length ≤ 1000000) :
  ∃ G, Sh.f1j (.ptr p 0 0) (.bool neg) (.str rest) H = some (LD (Gf b a neg rest).1 (big (Ew ((b.take (Gf b a neg rest).2).drop a))), AG H p b r (Gf b a neg rest).2 ++ G) := by
 have hx : Lx (H ++ [.cel 0 [.bool false, .sl [] .tight]]) p b a r := Lx.push h
 have hss := B6 h
 unfold Sh.f1j
 have plain : NU b a neg = a → Gf b a neg rest = Lo b a rest 402 a → ∃ G, Sh.f2y H (.ptr p 0 0) (.str rest) (.ptr H.length 0 0) (.int .i64 (a : Int)) (H ++ [.cel 0 [.bool false, .sl [] .tight]]) = some (LD (Gf b a neg rest).1 (big (Ew ((b.take (Gf b a neg rest).2).drop a))), AG H p b r (Gf b a neg rest).2 ++ G) := by
  intro e1 e2
  have := Q7 h (Nat.le_refl a) ha hb rest hr [.bool false, .sl [] .tight] rfl
  rw [hss] at this
  rw [e2]; exact this
 cases neg with
 | false =>
  simp only [GMb, GMc, HPa, HPc, HPd, HPe, HPz, Nat.reduceAdd, Nat.reduceLT, De hx]
  exact plain rfl rfl
 | true =>
  simp only [GMb, GMc, HPa, HPc, HPd, HPe, HPz, Nat.reduceAdd, Nat.reduceLT, De hx, BL hx ha]
  cases hs : A7 b a [45] with
  | false =>
   simp only [GMb, GMc, HPa, HPc, HPd, HPe, HPz, Nat.reduceAdd, Nat.reduceLT]
   exact plain (by simp [NU, hs]) (by simp [Gf, NU, hs])
  | true =>
   have hlt := Cf hs
   have hm := E9 (a' := a) hx (a + 1)
   rw [B6 hx] at hm
   have hx1 := Cw (a' := a + 1) hx
   have hpu := Mu (b := b) (r := r) (G := [.cel 0 [.bool false, .sl [] .tight]]) (e := a + 1) (lx_lt h)
   simp only [GMb, GMc, HPa, HPc, HPd, HPe, HPz, Nat.reduceAdd, Nat.reduceLT, De hx, Au (show a < 9223372036854775807 by omega), hm, BL hx1 (show a + 1 ≤ b.length by omega)]
   have e1 : NU b a true = a + 1 := by simp [NU, hs]
   cases h0 : A7 b (a + 1) [48] with
   | true =>
    have e2 : Gf b a true rest = (some (Fs b (a + 1) []), a + 1) := by simp [Gf, hs, h0]
    rw [e2]
    refine ⟨[.cel 0 [.bool false, .sl [] .tight]], ?_⟩
    simp only [GMb, GMc, HPa, HPc, HPd, HPe, HPz, Nat.reduceAdd, Nat.reduceLT, Dq hx1]
    rw [hpu]; rfl
   | false =>
    have e2 : Gf b a true rest = Lo b (a + 1) rest 402 (a + 1) := by simp [Gf, hs, h0, e1]
    rw [e2]
    have := Q7 h (f := a + 1) (by omega) hlt hb rest hr [.bool false, .sl [] .tight] rfl
    simp only [GMb, GMc, HPa, HPc, HPd, HPe, HPz, Nat.reduceAdd, Nat.reduceLT]
    rw [hpu]
    exact this

end
end Go.Gm
namespace Go.Gm
end Go.Gm
namespace Go.Gm
def cBO : Option Int → List Aa
 | none => [.bool false, .sl [] .tight]
 | some z => Eo z
instance : Sz cBO 2 := ⟨fun a => by cases a <;> rfl⟩
instance : Pl cBO := ⟨fun a => by cases a <;> rfl⟩
def bo (a : Option Int) : Int := a.getD 0
end Go.Gm
namespace Go.Gm
section
variable {len sz id g o m p : Nat} {K : IntKind} {Hc : Ab} {nf : Nat → Nat}
theorem Oh (h : m < len) : AZ len sz (.ptr id g o) (.int K (m : Int)) = some (.ptr id g (o + m * sz)) := by
 unfold AZ
 simp only []
 rw [if_pos ⟨by omega, by omega⟩]; simp
end
end Go.Gm
namespace Go.Gm
end Go.Gm
namespace Go.Gm
end Go.Gm
namespace Go.Gm
end Go.Gm
namespace Go.Gm
end Go.Gm
namespace Go.Gm
def bx (L : List Nd) (f : List Nd → Int) : Int := if L = [] then 0 else f L
end Go.Gm
namespace Go.Gm
end Go.Gm
namespace Go.Gm
section
variable {α : Type} {f : α → List Aa} {ty : TypeId} {sz : Nat}
def RS (f : α → List Aa) (ty : TypeId) (sz b : Nat) (out : List α) (v : Aa) (H : Ab) : Prop := (out = [] ∧ v = .sl [] .tight) ∨ ∃ t, b ≤ t ∧ v = .sl (enL f out) (.own t) ∧ H[t]? = some (.tok out.length ty sz)
theorem RS.sl {b : Nat} {out : List α} {v : Aa} {H : Ab} (h : RS f ty sz b out v H) : ∃ tk, v = .sl (enL f out) tk := by
 rcases h with ⟨rfl, rfl⟩ | ⟨t, _, rfl, _⟩
 ·exact ⟨_, rfl⟩
 ·exact ⟨_, rfl⟩
theorem RS.left {b : Nat} {out : List α} {v : Aa} {H : Ab} (h : RS f ty sz b out v H) (G : Ab) : RS f ty sz b out v (H ++ G) := by
 rcases h with h1 | ⟨t, h1, h2, h3⟩
 ·exact .inl h1
 ·exact .inr ⟨t, h1, h2, By h3⟩
theorem RS.put {b p : Nat} {out : List α} {v : Aa} {H : Ab} {c c' : List Aa} (h : RS f ty sz b out v H) (hp : H[p]? = some (.cel 0 c)) : RS f ty sz b out v (H.set p (.cel 0 c')) := by
 rcases h with h1 | ⟨t, h1, h2, h3⟩
 ·exact .inl h1
 ·refine .inr ⟨t, h1, h2, ?_⟩
  have : p ≠ t := fun e => by rw [← e, hp] at h3; cases h3
  rw [List.getElem?_set_ne this]; exact h3
theorem RS.snoc [hf : Sz f sz] {bytes b : Nat} {out : List α} {v : Aa} {H : Ab} (h : RS f ty sz b out v H) (hb : b ≤ H.length) (x : α) (tk : Tok) (hl : (out.length + 1) * bytes ≤ 140737488355328) (hl2 : out.length + 1 ≤ 140737488355328) :
  ∃ v' H', AE ty sz bytes v (.sl (enL f [x]) tk) H = some (v', H') ∧ RS f ty sz b (out ++ [x]) v' H' ∧ Kp b H H' := by
 rcases h with ⟨rfl, rfl⟩ | ⟨t, h1, rfl, h3⟩
 ·have := Cj (f := f) (l := []) (m := [x]) (ty := ty) (bytes := bytes) (tk := tk) (H := H) (by simp) (by simpa using hl) (by simp)
  exact ⟨_, _, this, .inr ⟨H.length, hb, rfl, by simp⟩, Kp.app hb _⟩
 ·have := DA (f := f) (l := out) (m := [x]) (ty := ty) (bytes := bytes) (tk := tk) (H := H) (t := t) (by simp) h3 (by simpa using hl) (by simpa using hl2)
  have htl := (List.getElem?_eq_some_iff.1 h3).1
  refine ⟨_, _, this, .inr ⟨t, h1, rfl, by simp [htl]⟩, ⟨by simp, fun i cs hc => ?_, fun i hi => ?_⟩⟩
  ·have : t ≠ i := fun e => by rw [← e, h3] at hc; cases hc
   rw [List.getElem?_set_ne this]; exact hc
  ·rw [List.getElem?_set_ne (by omega)]

end
end Go.Gm
namespace Go.Gm
def lnC (q : Nat × Int) : List Aa := [.int .i64 (q.1 : Int), .int .i64 q.2]
instance : Sz lnC 2 := ⟨fun _ => rfl⟩
instance : Pl lnC := ⟨fun _ => rfl⟩
def rdR (bx N : Int) (law : List UInt8) (v w : Aa) : List Aa := [.int .i64 bx, .int .i64 N, .str law, v, w]
structure RDx (b0 p : Nat) (b : List UInt8) (a : Nat) (bx N : Int) (st : MSt) (v w : Aa) (H : Ab) : Prop where
 hb : b0 ≤ p
 lx : Lx H p b a (rdR bx N st.law v w)
 nodes : RS cNd Aq 5 b0 st.nodes v H
 lines : RS lnC CC 2 b0 st.lines w H
def RD (b0 p : Nat) (b : List UInt8) (a : Nat) (bx N : Int) (st : MSt) (H : Ab) : Prop := ∃ v w, RDx b0 p b a bx N st v w H
section
variable {b0 p a : Nat} {b : List UInt8} {bx N : Int} {st : MSt} {H : Ab} {v w : Aa}
theorem RDx.lt (h : RDx b0 p b a bx N st v w H) : p < H.length := lx_lt h.lx
theorem RDx.move (h : RDx b0 p b a bx N st v w H) (a' : Nat) : RDx b0 p b a' bx N st v w (AG H p b (rdR bx N st.law v w) a') :=
 ⟨h.hb, Cw h.lx, h.nodes.put h.lx, h.lines.put h.lx⟩
theorem RDx.push (h : RDx b0 p b a bx N st v w H) (G : Ab) : RDx b0 p b a bx N st v w (H ++ G) :=
 ⟨h.hb, Lx.push h.lx, h.nodes.left G, h.lines.left G⟩
theorem Ext.setP (h : RDx b0 p b a bx N st v w H) (cs : List Aa) : Ext b0 p H (H.set p (.cel 0 cs)) :=
 ⟨by simp, fun i c hi hc => by rw [List.getElem?_set_ne (Ne.symm hi)]; exact hc, fun i hi => by rw [List.getElem?_set_ne (by have := h.hb; omega)]⟩
theorem Ext.push (b id : Nat) (hb : b ≤ H.length) (G : Ab) : Ext b id H (H ++ G) :=
 ⟨by simp, fun i c hi hc => By hc, fun i hi => List.getElem?_append_left (by omega)⟩
theorem RDx.ble (h : RDx b0 p b a bx N st v w H) : b0 ≤ H.length := Nat.le_trans h.hb (Nat.le_of_lt h.lt)
theorem RDx.go (h : RDx b0 p b a bx N st v w H) (a' : Nat) (G : Ab) : RDx b0 p b a' bx N st v w (AG H p b (rdR bx N st.law v w) a' ++ G) ∧ Ext b0 p H (AG H p b (rdR bx N st.law v w) a' ++ G) :=
 ⟨(h.move a').push G, (Ext.setP h _).trans (Ext.push b0 p (by show b0 ≤ List.length _; rw [show (H.set p _).length = H.length from by simp]; exact h.ble) G)⟩
theorem RDx.go0 (h : RDx b0 p b a bx N st v w H) (a' : Nat) : RDx b0 p b a' bx N st v w (AG H p b (rdR bx N st.law v w) a') ∧ Ext b0 p H (AG H p b (rdR bx N st.law v w) a') :=
 ⟨h.move a', Ext.setP h _⟩
def Nm (b0 p : Nat) (b : List UInt8) (bx N : Int) (H : Ab) (x : Out) (v : Aa) (s : (Er × Nat) × MSt) : Prop := ∃ H', x = some (LD s.1.1 v, H') ∧ Ext b0 p H H' ∧ RD b0 p b s.1.2 bx N s.2 H'
theorem mustS_le {s rest : List UInt8} (ha : a ≤ b.length) : (BA b a s rest).2 ≤ b.length := Hn ha s
theorem rulS_le {rest : List UInt8} (ha : a ≤ b.length) : a ≤ (NO b a rest).2 ∧ (NO b a rest).2 ≤ b.length := ruleN_le 40 a ha
theorem anyN_le (ha : a ≤ b.length) : FL b a ≤ b.length := by
 unfold FL
 have := (List.takeWhile_sublist (l := b.drop a) fun c => !([13, 10] : List UInt8).contains c).length_le
 rw [List.length_drop] at this
 omega
theorem rd_mark (h : RD b0 p b a bx N st H) (ha : a < b.length) (hb : b.length < 1152921504606846976) : Nm b0 p b bx N H (Sh.f1l (.ptr p 0 0) H) (.tup []) (Pa b a st) := by
 obtain ⟨v, w, h⟩ := h
 have hm := E9 (a' := a) h.lx (a + 1)
 rw [B6 h.lx] at hm
 have h1 := (h.go0 (a + 1)).1
 have e1 := (h.go0 (a + 1)).2
 have hle : a + 1 ≤ b.length := by omega
 unfold Nm Sh.f1l Pa
 simp only [GMb, GMc, HPa, HPc, HPd, HPe, HPz, Nat.reduceAdd, Nat.reduceLT, De h.lx, Au (show a < 9223372036854775807 by omega), hm]
 generalize AG H p b (rdR bx N st.law v w) (a + 1) = H1 at h1 e1
 simp only [BL h1.lx hle]
 cases hC : A7 b (a + 1) [67] with
 | true =>
  simp only [GMb, GMc, HPa, HPc, HPd, HPe, HPz, Nat.reduceAdd, Nat.reduceLT, lx_any h1.lx hle hb, if_true]
  exact ⟨_, rfl, e1.trans (h1.go0 _).2, _, _, (h1.go0 _).1⟩
 | false =>
  simp only [GMb, GMc, HPa, HPc, HPd, HPe, HPz, Nat.reduceAdd, Nat.reduceLT, BL h1.lx hle, Bool.false_eq_true, if_false]
  cases hG : A7 b (a + 1) [71] with
  | true =>
   simp only [GMb, GMc, HPa, HPc, HPd, HPe, HPz, Nat.reduceAdd, Nat.reduceLT, LR h1.lx hle hb [71, 32] [49] (by decide) (by decide), if_true]
   have hM := mustS_le (s := [71, 32]) (rest := [49]) hle
   generalize BA b (a + 1) [71, 32] [49] = M at hM
   obtain ⟨er, c⟩ := M
   dsimp only at hM ⊢
   obtain ⟨h2, e2⟩ := h1.go0 c
   cases er with
   | some e =>
    simp only [GMb, GMc, HPa, HPc, HPd, HPe, HPz, Nat.reduceAdd, Nat.reduceLT, Be]
    exact ⟨_, rfl, e1.trans e2, _, _, h2⟩
   | none =>
    obtain ⟨G, hn⟩ := lx_number h2.lx hM hb false [] (by decide)
    obtain ⟨h3, e3⟩ := h2.go (Gf b c false []).2 G
    simp only [GMb, GMc, HPa, HPc, HPd, HPe, HPz, Nat.reduceAdd, Nat.reduceLT, Bq, hn]
    generalize AG _ p b _ (Gf b c false []).2 ++ G = H3 at h3 e3
    refine ⟨H3, ?_, (e1.trans e2).trans e3, _, _, h3⟩
    cases (Gf b c false []).1 <;> simp only [GMb, GMc, HPa, HPc, HPd, HPe, HPz, Nat.reduceAdd, Nat.reduceLT, Bq, Be]
  | false =>
   simp only [GMb, GMc, HPa, HPc, HPd, HPe, HPz, Nat.reduceAdd, Nat.reduceLT, BL h1.lx hle, Bool.false_eq_true, if_false]
   cases hR : A7 b (a + 1) [82] with
   | true =>
    simp only [GMb, GMc, HPa, HPc, HPd, HPe, HPz, Nat.reduceAdd, Nat.reduceLT, LR h1.lx hle hb [82, 32] [97] (by decide) (by decide), if_true]
    have hM := mustS_le (s := [82, 32]) (rest := [97]) hle
    generalize BA b (a + 1) [82, 32] [97] = M at hM
    obtain ⟨er, c⟩ := M
    dsimp only at hM ⊢
    obtain ⟨h2, e2⟩ := h1.go0 c
    cases er with
    | some e =>
     simp only [GMb, GMc, HPa, HPc, HPd, HPe, HPz, Nat.reduceAdd, Nat.reduceLT, Be]
     exact ⟨_, rfl, e1.trans e2, _, _, h2⟩
    | none =>
     simp only [GMb, GMc, HPa, HPc, HPd, HPe, HPz, Nat.reduceAdd, Nat.reduceLT, Bq, lx_ruleS h2.lx hM hb [] (by decide)]
     generalize NO b c [] = M
     obtain ⟨er, d⟩ := M
     dsimp only
     obtain ⟨h3, e3⟩ := h2.go0 d
     generalize AG _ p b _ d = H3 at h3 e3
     cases er with
     | some e =>
      simp only [GMb, GMc, HPa, HPc, HPd, HPe, HPz, Nat.reduceAdd, Nat.reduceLT, Be]
      exact ⟨_, rfl, (e1.trans e2).trans e3, _, _, h3⟩
     | none =>
      have hst := st_cel (o := 4) (v := .str ((b.take d).drop c)) h3.lx rfl (by simp [rdR])
      simp only [GMb, GMc, HPa, HPc, HPd, HPe, HPz, Nat.reduceAdd, Nat.reduceLT, Bq, hst]
      refine ⟨_, rfl, ((e1.trans e2).trans e3).trans (Ext.setP h3 _), v, w, h3.hb, ?_, h3.nodes.put h3.lx, h3.lines.put h3.lx⟩
      unfold Lx
      rw [List.getElem?_set_self h3.lt]; rfl
   | false =>
    simp only [GMb, GMc, HPa, HPc, HPd, HPe, HPz, Nat.reduceAdd, Nat.reduceLT, Dq h1.lx, Bool.false_eq_true, if_false]
    exact ⟨_, rfl, e1, _, _, h1⟩

end
end Go.Gm
namespace Go.Gm
section
variable {α β : Type} {f : α → List Aa} {g : β → List Aa} {ty ty2 : TypeId} {sz sz2 : Nat}
structure GL (v v' : Aa) (H H' : Ab) : Prop where
 len : H.length ≤ H'.length
 keep : ∀ i, i < H.length → (∀ es, v ≠ .sl es (.own i)) → H'[i]? = H[i]?
 own : ∀ i es, v' = .sl es (.own i) → H.length ≤ i ∨ ∃ es', v = .sl es' (.own i)
theorem RS.snoc2 [hf : Sz f sz] {bytes b : Nat} {out : List α} {v : Aa} {H : Ab} (h : RS f ty sz b out v H) (hb : b ≤ H.length) (x : α) (tk : Tok) (hl : (out.length + 1) * bytes ≤ 140737488355328) (hl2 : out.length + 1 ≤ 140737488355328) :
  ∃ v' H', AE ty sz bytes v (.sl (enL f [x]) tk) H = some (v', H') ∧ RS f ty sz b (out ++ [x]) v' H' ∧ Kp b H H' ∧ GL v v' H H' := by
 rcases h with ⟨rfl, rfl⟩ | ⟨t, h1, rfl, h3⟩
 ·have := Cj (f := f) (l := []) (m := [x]) (ty := ty) (bytes := bytes) (tk := tk) (H := H) (by simp) (by simpa using hl) (by simp)
  refine ⟨_, _, this, .inr ⟨H.length, hb, rfl, by simp⟩, Kp.app hb _, by simp, fun i hi _ => List.getElem?_append_left hi, fun i es e => ?_⟩
  injection e with _ e; injection e with e
  exact .inl (by omega)
 ·have := DA (f := f) (l := out) (m := [x]) (ty := ty) (bytes := bytes) (tk := tk) (H := H) (t := t) (by simp) h3 (by simpa using hl) (by simpa using hl2)
  have htl := (List.getElem?_eq_some_iff.1 h3).1
  refine ⟨_, _, this, .inr ⟨t, h1, rfl, by simp [htl]⟩, ⟨by simp, fun i cs hc => ?_, fun i hi => ?_⟩, by simp, fun i hi hne => ?_, fun i es e => ?_⟩
  ·have : t ≠ i := fun e => by rw [← e, h3] at hc; cases hc
   rw [List.getElem?_set_ne this]; exact hc
  ·rw [List.getElem?_set_ne (by omega)]
  ·have : t ≠ i := fun e => hne _ (by rw [e])
   rw [List.getElem?_set_ne this]
  ·injection e with _ e; injection e with e
   exact .inr ⟨_, by rw [e]⟩
theorem RS.stay {b : Nat} {out : List α} {v w w' : Aa} {H H' : Ab} (h : RS f ty sz b out v H) (hg : GL w w' H H') (hne : ∀ i es es', v = .sl es (.own i) → w ≠ .sl es' (.own i)) : RS f ty sz b out v H' := by
 rcases h with h1 | ⟨t, h1, h2, h3⟩
 ·exact .inl h1
 ·have htl := (List.getElem?_eq_some_iff.1 h3).1
  exact .inr ⟨t, h1, h2, by rw [hg.keep t htl fun es => hne t _ es h2]; exact h3⟩
theorem RS.apart {b b2 : Nat} {out : List α} {out2 : List β} {v w : Aa} {H : Ab} (h : RS f ty sz b out v H) (h2 : RS g ty2 sz2 b2 out2 w H) (hne : (ty, sz) ≠ (ty2, sz2)) : ∀ i es es', v = .sl es (.own i) → w ≠ .sl es' (.own i) := by
 intro i es es' e1 e2
 rcases h with ⟨_, k1⟩ | ⟨t, _, k1, k2⟩
 ·rw [k1] at e1; injection e1 with _ e1; cases e1
 ·rcases h2 with ⟨_, l1⟩ | ⟨t2, _, l1, l2⟩
  ·rw [l1] at e2; injection e2 with _ e2; cases e2
  ·rw [k1] at e1; injection e1 with _ e1; injection e1 with e1
   rw [l1] at e2; injection e2 with _ e2; injection e2 with e2
   rw [e1] at k2; rw [e2, k2] at l2
   injection l2 with l2; injection l2 with _ l3 l4
   exact hne (by rw [l3, l4])
theorem RS.notok {b i : Nat} {out : List α} {v : Aa} {H : Ab} {B : Blk} (h : RS f ty sz b out v H) (hB : H[i]? = some B) (hn : ∀ n e s, B ≠ .tok n e s) : ∀ es, v ≠ .sl es (.own i) := by
 intro es e
 rcases h with ⟨_, k1⟩ | ⟨t, _, k1, k2⟩
 ·rw [k1] at e; injection e with _ e; cases e
 ·rw [k1] at e; injection e with _ e; injection e with e
  rw [e, hB] at k2; injection k2 with k2
  exact hn _ _ _ k2
theorem RS.setB {b i : Nat} {out : List α} {v : Aa} {H : Ab} {B B' : Blk} (h : RS f ty sz b out v H) (hB : H[i]? = some B) (hn : ∀ n e s, B ≠ .tok n e s) : RS f ty sz b out v (H.set i B') := by
 have hne := h.notok hB hn
 rcases h with h1 | ⟨t, h1, h2, h3⟩
 ·exact .inl h1
 ·refine .inr ⟨t, h1, h2, ?_⟩
  have : i ≠ t := fun e => hne _ (by rw [h2, e])
  rw [List.getElem?_set_ne this]; exact h3
theorem RS.one {b : Nat} {out : List α} {v : Aa} {H : Ab} (h : RS f ty sz b out v H) : v.isScal = true := by
 obtain ⟨tk, rfl⟩ := h.sl; rfl
theorem RS.len {b : Nat} {out : List α} {v : Aa} {H : Ab} (h : RS f ty sz b out v H) : A8 v = some (.int .i64 (out.length : Int)) := by
 obtain ⟨tk, rfl⟩ := h.sl; exact A2
theorem RS.idx [hf : Sz f sz] {b i : Nat} {out : List α} {v : Aa} {H : Ab} (h : RS f ty sz b out v H) (hi : i < out.length) (K : IntKind) : A3 sz v (.int K (i : Int)) = some (.cptr (f out[i]) 0) := by
 obtain ⟨tk, rfl⟩ := h.sl; exact Av hi

end
end Go.Gm
namespace Go.Gm
theorem cNd_len (x : Nd) : (cNd x).length = 5 := (rfl)
theorem shl_one {v : Nat} (h : v < 60) : Af .none .shl (.int .i64 1) (.int .i64 (v : Int)) = some (.int .i64 ((2 ^ v : Nat) : Int)) := by
 have hm : min ((v : Int)).toNat IntKind.i64.bits = v := by simp [IntKind.bits]; omega
 have hp : 2 ^ v < 1152921504606846976 := Nat.lt_of_lt_of_le (Nat.pow_lt_pow_right (by decide) h) (by decide)
 have hn : ¬ (v : Int) < 0 := by omega
 unfold Af
 simp only [Ci, if_true, Ju, if_neg hn, hm]
 have : (1 * 2 ^ v : Int) = ((2 ^ v : Nat) : Int) := by simp
 rw [this]
 generalize 2 ^ v = m at *
 rw [C7 (by omega)]
section
variable {b0 p a : Nat} {b : List UInt8} {bx N : Int} {st : MSt} {H : Ab}
def RDw (b0 p : Nat) (b : List UInt8) (a : Nat) (bx N : Int) (st : MSt) (w : Aa) (H : Ab) : Prop := ∃ v, RDx b0 p b a bx N st v w H
def MSt.put (st : MSt) (x : Nd) : MSt := { st with nodes := st.nodes ++ [x] }
theorem rd_put {w : Aa} (h : RDw b0 p b a bx N st w H) (x : Nd) (hn : st.nodes.length < 3000000000000) :
  ∃ H', Sh.fg (.ptr p 0 0) (.agg (cNd x)) H = some (.ret (.int .i64 ((st.nodes.length + 1 : Nat) : Int)), H') ∧ Ext b0 p H H' ∧ RDw b0 p b a bx N (st.put x) w H' := by
 obtain ⟨v, h⟩ := h
 have hB : b0 ≤ (H ++ [Blk.cel 0 (cNd x)]).length := by have := h.ble; simp; omega
 have h1 := h.push [.cel 0 (cNd x)]
 obtain ⟨v', H', ha, hr, hk, hg⟩ := RS.snoc2 (bytes := 40) h1.nodes hB x .tight (by omega) (by omega)
 have hc' := hk.cel _ _ h1.lx
 have hst := st_cel (o := 5) (v := v') hc' hr.one (by simp [rdR])
 have hlt' : p < H'.length := (List.getElem?_eq_some_iff.1 hc').1
 have e1 : Ext b0 p H (H ++ [.cel 0 (cNd x)]) := Ext.push b0 p h.ble _
 have e2 : Ext b0 p (H ++ [.cel 0 (cNd x)]) H' := ⟨hk.len, fun i cs _ hc => hk.cel i cs hc, hk.old⟩
 have e3 : ∀ cs, Ext b0 p H' (H'.set p (.cel 0 cs)) := fun cs => ⟨by simp, fun i c hi hc => by rw [List.getElem?_set_ne (Ne.symm hi)]; exact hc, fun i hi => by rw [List.getElem?_set_ne (by have := h.hb; omega)]⟩
 have hset : ∀ cs : List Aa, (H'.set p (.cel 0 cs))[p]? = some (.cel 0 cs) := fun cs => by rw [List.getElem?_set_self hlt']
 unfold Sh.fg
 rw [FZ (sz := 5) Cq rfl]
 simp only [GMb, GMc, HPa, HPc, HPd, HPe, HPz, Nat.reduceAdd, Nat.reduceLT, Bv h1.lx, rdR, cNd_len, F9, ha, hst, Bv (hset _), hr.len]
 refine ⟨_, by rw [List.length_append]; rfl, (e1.trans e2).trans (e3 _), v', h.hb, ?_, hr.put hc', (h1.lines.stay hg (RS.apart h1.lines h1.nodes (by decide))).put hc'⟩
 unfold Lx
 rw [hset]; rfl
def OnC (q : Nat) (on : List Bool) (H : Ab) : Prop := H[q]? = some (.cel 0 (flat cB on))
theorem onC_load {q : Nat} {on : List Bool} (h : OnC q on H) (hl : on.length = 64) {x y : Nat} (hx : x < 8) (hy : y < 8) : Ad false 1 (.ptr q 0 (y * 8 + x * 1)) H = some (.bool (onQ on x y)) := by
 have hi : y * 8 + x < on.length := by omega
 rw [show y * 8 + x * 1 = y * 8 + x by omega, Hm (f := cB) (AT h) hi]
 unfold onQ
 rw [List.getD_eq_getElem?_getD, List.getElem?_eq_getElem hi]; rfl
theorem Oc {on : Nat → Nat → Bool} {rec : Nat → Nat → List Nd → List Nd} {m : Nat} (hr : ∀ x y l, (rec x y l).length ≤ l.length + m) (level x y half : Nat) : ∀ k l, (sqK on rec level x y half k l).1.length ≤ l.length + k * m
 | 0, l => by simp [sqK]
 | k + 1, l => by
  have ih := Oc (on := on) hr level x y half k l
  unfold sqK
  simp only
  split
  ·rw [Nat.succ_mul]; dsimp only; omega
  ·have := hr (x + k % 2 * half) (y + k / 2 * half) (sqK on rec level x y half k l).1
   rw [Nat.succ_mul]; dsimp only; omega
def sqM : Nat → Nat
 | 0 => 0
 | v + 1 => 4 * sqM v + 1
theorem Od (on : Nat → Nat → Bool) : ∀ v x y l, (sqF on v x y l).length ≤ l.length + sqM v
 | 0, x, y, l => by simp [sqF, sqM]
 | v + 1, x, y, l => by
  have := Oc (on := on) (Od on v) (v + 1) x y (2 ^ v) 4 l
  unfold sqF sqM
  simp only [List.length_append, List.length_singleton]
  omega
theorem rd_square {w : Aa} {q : Nat} {on : List Bool} (hl : on.length = 64) (hq : q ≠ p) : ∀ (v d x y : Nat) (st : MSt) (H : Ab), v ≤ 3 → v < d → x + 2 ^ v ≤ 8 → y + 2 ^ v ≤ 8 → 0 < v → st.nodes.length + sqM v < 3000000000000 → RDw b0 p b a bx N st w H → OnC q on H →
  ∃ H', Sh.fa d (.ptr p 0 0) (.ptr q 0 0) (.int .i64 (v : Int)) (.int .i64 (x : Int)) (.int .i64 (y : Int)) H = some (.ret (.int .i64 ((sqF (onQ on) v x y st.nodes).length : Int)), H') ∧ Ext b0 p H H' ∧ RDw b0 p b a bx N { st with nodes := sqF (onQ on) v x y st.nodes } w H' := by
 intro v
 induction v with
 | zero => intro d x y st H _ _ _ _ h0; omega
 | succ v ih =>
  intro d x y st H hv hd hx hy _ hn h hon
  obtain ⟨d, rfl⟩ : ∃ e, d = e + 1 := ⟨d - 1, by omega⟩
  have hble : b0 ≤ H.length := by obtain ⟨_, h⟩ := h; exact h.ble
  have hlt : p < H.length := by obtain ⟨_, h⟩ := h; exact h.lt
  have hw1 : IntKind.i64.wrap (((v + 1 : Nat) : Int) - 1) = (v : Int) := by rw [Ay] <;> omega
  have hbd : A5 (some [(.int .i64 0), (.int .i64 0), (.int .i64 0), (.int .i64 0), (.int .i64 0)]) [(0, 1, .int .i64 ((v + 1 : Nat) : Int))] = some (.agg (cNd ⟨((v + 1 : Nat) : Int), 0, 0, 0, 0⟩)) := rfl
  have hhalf : 2 ^ v ≤ 4 := by
   have : v = 0 ∨ v = 1 ∨ v = 2 := by omega
   rcases this with h | h | h <;> subst h <;> decide
  have h2v : 2 ^ (v + 1) = 2 * 2 ^ v := by rw [Nat.pow_succ]; omega
  have hpos : 0 < 2 ^ v := Nat.pow_pos (by decide)
  show ∃ H', Sh.f47 (Sh.fa d) _ _ _ _ _ _ = _ ∧ _
  unfold Sh.f47
  simp only [GMb, GMc, hw1, shl_one (show v < 60 by omega), hbd, FB, Ev (AA (B := H) (cs := cNd nd0)) rfl, BU]
  have hsl : ∀ k, k ≤ 4 → (sqK (onQ on) (sqF (onQ on) v) (v + 1) x y (2 ^ v) k st.nodes).1.length ≤ st.nodes.length + 4 * sqM v := fun k hk => by
   have := Oc (on := onQ on) (Od (onQ on) v) (v + 1) x y (2 ^ v) k st.nodes
   have : k * sqM v ≤ 4 * sqM v := Nat.mul_le_mul_right _ hk
   omega
  have hsm : sqM (v + 1) = 4 * sqM v + 1 := rfl
  have hsk : ∀ k, k < 4 → (sqK (onQ on) (sqF (onQ on) v) (v + 1) x y (2 ^ v) k st.nodes).1.length ≤ st.nodes.length + 3 * sqM v := fun k hk => by
   have := Oc (on := onQ on) (Od (onQ on) v) (v + 1) x y (2 ^ v) k st.nodes
   have : k * sqM v ≤ 3 * sqM v := Nat.mul_le_mul_right _ (by omega)
   omega
  generalize hhf : 2 ^ v = half at *
  have loop := LS (G := fun rec1 vs H1 => Sh.f1m H (Sh.fa d) rec1 (ag vs 0) (ag vs 1) (ag vs 2) (ag vs 3) (ag vs 4) (ag vs 5) (ag vs 6) (ag vs 7) H1) 4
   (fun k vs Hc => vs = [.ptr p 0 0, .ptr q 0 0, .int .i64 ((v + 1 : Nat) : Int), .int .i64 (x : Int), .int .i64 (y : Int), .int .i64 (half : Int), .ptr H.length 0 0, .int .i64 (k : Int)] ∧ Ext b0 p H Hc ∧
    RDw b0 p b a bx N { st with nodes := (sqK (onQ on) (sqF (onQ on) v) (v + 1) x y half k st.nodes).1 } w Hc ∧ Hc[H.length]? = some (.cel 0 (cNd (sqK (onQ on) (sqF (onQ on) v) (v + 1) x y half k st.nodes).2)))
   (by decide) (fun k vs Hc hk hI => ?_) (vs := [.ptr p 0 0, .ptr q 0 0, .int .i64 ((v + 1 : Nat) : Int), .int .i64 (x : Int), .int .i64 (y : Int), .int .i64 (half : Int), .ptr H.length 0 0, .int .i64 0]) (H := H ++ [.cel 0 (cNd ⟨((v + 1 : Nat) : Int), 0, 0, 0, 0⟩)])
   ⟨rfl, Ext.push b0 p hble _, by obtain ⟨v', h⟩ := h; exact ⟨v', h.push _⟩, by simp [sqK]⟩
  ·obtain ⟨vs', Hc, ⟨rfl, hE, hR, hcell⟩, rec, hloop⟩ := loop
   rw [hloop]
   unfold Sh.f1m
   obtain ⟨H', hp1, hp2, hp3⟩ := rd_put hR (sqK (onQ on) (sqF (onQ on) v) (v + 1) x y half 4 st.nodes).2 (by have := hsl 4 (by omega); dsimp only; omega)
   simp only [GMb, GMc, Aw, show ¬ (((4 : Nat) : Int) < 4) from by decide, Ds hcell, hp1]
   have hfin : sqF (onQ on) (v + 1) x y st.nodes = (sqK (onQ on) (sqF (onQ on) v) (v + 1) x y half 4 st.nodes).1 ++ [(sqK (onQ on) (sqF (onQ on) v) (v + 1) x y half 4 st.nodes).2] := by
    unfold sqF; rw [hhf]
   rw [hfin]
   exact ⟨H', by rw [List.length_append]; rfl, hE.trans hp2, hp3⟩
  ·obtain ⟨rfl, hE, hR, hcell⟩ := hI
   have hk' : (k : Int) < 4 := by omega
   have hk2 : k % 2 ≤ 1 := by omega
   have hk3 : k / 2 ≤ 1 := by omega
   have m1 : k % 2 * half ≤ half := by rcases Nat.le_one_iff_eq_zero_or_eq_one.1 hk2 with h | h <;> rw [h] <;> omega
   have m2 : k / 2 * half ≤ half := by rcases Nat.le_one_iff_eq_zero_or_eq_one.1 hk3 with h | h <;> rw [h] <;> omega
   have hr2 : Af .none .rem (.int .i64 (k : Int)) (.int .i64 2) = some (.int .i64 ((k % 2 : Nat) : Int)) := by rw [HR (by decide)]; rfl
   have hq2 : Af .none .quo (.int .i64 (k : Int)) (.int .i64 2) = some (.int .i64 ((k / 2 : Nat) : Int)) := by
    rw [K7 (by decide), show ((k : Int).tdiv 2) = ((k / 2 : Nat) : Int) from rfl, C7 (by omega)]
   have hm1 : IntKind.i64.wrap (((k % 2 : Nat) : Int) * (half : Int)) = ((k % 2 * half : Nat) : Int) := by rw [← Int.natCast_mul, C7 (by omega)]
   have hm2 : IntKind.i64.wrap (((k / 2 : Nat) : Int) * (half : Int)) = ((k / 2 * half : Nat) : Int) := by rw [← Int.natCast_mul, C7 (by omega)]
   have ha1 : IntKind.i64.wrap ((x : Int) + ((k % 2 * half : Nat) : Int)) = ((x + k % 2 * half : Nat) : Int) := Km (by omega)
   have ha2 : IntKind.i64.wrap ((y : Int) + ((k / 2 * half : Nat) : Int)) = ((y + k / 2 * half : Nat) : Int) := Km (by omega)
   have hws := Au (show k < 9223372036854775807 by omega)
   have hon' : OnC q on Hc := hE.cel q _ hq hon
   have hHl : H.length ≠ p := by omega
   generalize hX : x + k % 2 * half = X at *
   generalize hY : y + k / 2 * half = Y at *
   have hl1 := hsl (k + 1) (by omega)
   have hl0 := hsk k (by omega)
   by_cases hv0 : v = 0
   ·have hgt : ¬ (((v + 1 : Nat) : Int) > 1) := by omega
    have hh1 : half = 1 := by rw [← hhf, hv0]
    have hX8 : X < 8 := by omega
    have hY8 : Y < 8 := by omega
    have hstep : sqK (onQ on) (sqF (onQ on) v) (v + 1) x y half (k + 1) st.nodes = ((sqK (onQ on) (sqF (onQ on) v) (v + 1) x y half k st.nodes).1, (sqK (onQ on) (sqF (onQ on) v) (v + 1) x y half k st.nodes).2.setKid k (if onQ on X Y then 1 else 0)) := by
     conv => lhs; unfold sqK
     simp only [hX, hY]
     rw [if_pos (show v + 1 ≤ 1 by omega)]
    have hkid0 : (sqK (onQ on) (sqF (onQ on) v) (v + 1) x y half k st.nodes).2.setKid k 0 = (sqK (onQ on) (sqF (onQ on) v) (v + 1) x y half k st.nodes).2 := by
     have : ∀ j, (sqK (onQ on) (sqF (onQ on) v) (v + 1) x y half j st.nodes).2.kid k = 0 ∨ k < j := by
      intro j
      induction j with
      | zero => left; match k, hk with
       | 0, _ => rfl
       | 1, _ => rfl
       | 2, _ => rfl
       | 3, _ => rfl
      | succ j ihj =>
       by_cases hkj : k < j + 1
       ·exact .inr hkj
       ·left
        rcases ihj with h | h
        ·unfold sqK
         simp only
         by_cases hj4 : j < 4
         ·split <;> (rw [DQ _ _ hj4 hk (by omega)]; exact h)
         ·omega
        ·omega
     have h0 := (this k).resolve_right (by omega)
     generalize (sqK (onQ on) (sqF (onQ on) v) (v + 1) x y half k st.nodes).2 = z at h0
     obtain ⟨z0, z1, z2, z3, z4⟩ := z
     match k, hk, h0 with
     | 0, _, h0 => simp only [Nd.kid] at h0; simp [Nd.setKid, h0]
     | 1, _, h0 => simp only [Nd.kid] at h0; simp [Nd.setKid, h0]
     | 2, _, h0 => simp only [Nd.kid] at h0; simp [Nd.setKid, h0]
     | 3, _, h0 => simp only [Nd.kid] at h0; simp [Nd.setKid, h0]
    have hi1 := Oh (sz := 8) (K := .i64) (id := q) (g := 0) (o := 0) hY8
    have hi2 := Oh (sz := 1) (K := .i64) (id := q) (g := 0) (o := Y * 8) hX8
    have hld := onC_load hon' hl hX8 hY8
    rw [hstep]
    cases hb1 : onQ on X Y with
    | true =>
     rw [hb1] at hld
     refine ⟨[.ptr p 0 0, .ptr q 0 0, .int .i64 ((v + 1 : Nat) : Int), .int .i64 (x : Int), .int .i64 (y : Int), .int .i64 (half : Int), .ptr H.length 0 0, .int .i64 ((k + 1 : Nat) : Int)], Hc.set H.length (.cel 0 (cNd ((sqK (onQ on) (sqF (onQ on) v) (v + 1) x y half k st.nodes).2.setKid k 1))), ⟨rfl, ⟨by have := hE.len; simpa using this, fun i cs hi hc => ?_, fun i hi => ?_⟩, ?_, ?_⟩, fun rec => ?_⟩
     ·rw [List.getElem?_set_ne (by have := (List.getElem?_eq_some_iff.1 hc).1; omega)]; exact hE.cel i cs hi hc
     ·rw [List.getElem?_set_ne (by omega)]; exact hE.old i hi
     ·obtain ⟨v', hR⟩ := hR
      refine ⟨v', hR.hb, ?_, hR.nodes.put hcell, hR.lines.put hcell⟩
      unfold Lx; rw [List.getElem?_set_ne hHl]; exact hR.lx
     ·rw [List.getElem?_set_self (List.getElem?_eq_some_iff.1 hcell).1]; rfl
     ·unfold Sh.f1m
      simp only [GMb, GMc, Aw, hk', hr2, hm1, ha1, hq2, hm2, ha2, hgt, Ae, hi1, hi2, hld, Aj, Nat.zero_add, Du hk, Cv hcell hk, hws]
    | false =>
     rw [hb1] at hld
     simp only [Bool.false_eq_true, if_false, hkid0]
     refine ⟨[.ptr p 0 0, .ptr q 0 0, .int .i64 ((v + 1 : Nat) : Int), .int .i64 (x : Int), .int .i64 (y : Int), .int .i64 (half : Int), .ptr H.length 0 0, .int .i64 ((k + 1 : Nat) : Int)], Hc, ⟨rfl, hE, hR, hcell⟩, fun rec => ?_⟩
     unfold Sh.f1m
     simp only [GMb, GMc, Aw, hk', hr2, hm1, ha1, hq2, hm2, ha2, hgt, Ae, hi1, hi2, hld, hws, Nat.zero_add]
   ·have hgt : (((v + 1 : Nat) : Int) > 1) := by omega
    have hstep : sqK (onQ on) (sqF (onQ on) v) (v + 1) x y half (k + 1) st.nodes = (sqF (onQ on) v X Y (sqK (onQ on) (sqF (onQ on) v) (v + 1) x y half k st.nodes).1, (sqK (onQ on) (sqF (onQ on) v) (v + 1) x y half k st.nodes).2.setKid k ((sqF (onQ on) v X Y (sqK (onQ on) (sqF (onQ on) v) (v + 1) x y half k st.nodes).1).length : Int)) := by
     conv => lhs; unfold sqK
     simp only [hX, hY]
     rw [if_neg (show ¬ v + 1 ≤ 1 by omega)]
    rw [hstep]
    obtain ⟨H1, i1, i2, i3⟩ := ih d X Y _ Hc (by omega) (by omega) (by omega) (by omega) (by omega) (by dsimp only; omega) hR hon'
    dsimp only at i1 i3
    have hcell1 := i2.cel _ _ hHl hcell
    refine ⟨[.ptr p 0 0, .ptr q 0 0, .int .i64 ((v + 1 : Nat) : Int), .int .i64 (x : Int), .int .i64 (y : Int), .int .i64 (half : Int), .ptr H.length 0 0, .int .i64 ((k + 1 : Nat) : Int)], H1.set H.length (.cel 0 (cNd ((sqK (onQ on) (sqF (onQ on) v) (v + 1) x y half k st.nodes).2.setKid k ((sqF (onQ on) v X Y (sqK (onQ on) (sqF (onQ on) v) (v + 1) x y half k st.nodes).1).length : Int)))), ⟨rfl, ⟨?_, fun i cs hi hc => ?_, fun i hi => ?_⟩, ?_, ?_⟩, fun rec => ?_⟩
    ·have := hE.len; have := i2.len; simp; omega
    ·rw [List.getElem?_set_ne (by have := (List.getElem?_eq_some_iff.1 hc).1; omega)]; exact i2.cel i cs hi (hE.cel i cs hi hc)
    ·rw [List.getElem?_set_ne (by omega), i2.old i hi]; exact hE.old i hi
    ·obtain ⟨v', hR⟩ := i3
     refine ⟨v', hR.hb, ?_, hR.nodes.put hcell1, hR.lines.put hcell1⟩
     unfold Lx; rw [List.getElem?_set_ne hHl]; exact hR.lx
    ·rw [List.getElem?_set_self (List.getElem?_eq_some_iff.1 hcell1).1]
    ·unfold Sh.f1m
     simp only [GMb, GMc, Aw, hk', hr2, hm1, ha1, hq2, hm2, ha2, hgt, hw1, i1, Aj, Nat.zero_add, Du hk, Cv hcell1 hk, hws]

end
end Go.Gm
namespace Go.Gm
theorem flat_cB (on : List Bool) : flat cB on = on.map Aa.bool := by
 induction on with
 | nil => rfl
 | cons c l ih => rw [Cc, ih]; rfl
theorem flat_cB_set (on : List Bool) (i : Nat) (t : Bool) : (flat cB on).set i (.bool t) = flat cB (on.set i t) := by
 rw [flat_cB, flat_cB, List.map_set]
theorem lx_moveG {H G : Ab} {p a a' : Nat} {b : List UInt8} {r : List Aa} (h : Lx H p b a r) (n : Nat) : Ak 1 (.ptr p 0 1) (.int .i64 (n : Int)) (AG H p b r a' ++ G) = some (AG H p b r n ++ G) := by
 have hp := lx_lt h
 rw [lx_step (Lx.push (Cw (a' := a') h))]
 congr 1
 rw [List.set_append_left _ _ (by rw [Fv]; exact hp)]
 congr 1
 exact Kq H p a' n b r r
theorem G3 (b : List UInt8) : ∀ n a x y on, a ≤ b.length → a ≤ (DH b n a x y on).2.1 ∧ (DH b n a x y on).2.1 ≤ b.length ∧ (DH b n a x y on).2.2.length = on.length
 | 0, a, x, y, on, h => ⟨Nat.le_refl _, h, rfl⟩
 | n + 1, a, x, y, on, h => by
  unfold DH
  cases hs : A7 b a [46, 42, 36] with
  | false => exact ⟨Nat.le_refl _, h, rfl⟩
  | true =>
   simp only [if_true]
   split
   ·exact ⟨Nat.le_refl _, h, rfl⟩
   ·split
    ·have := G3 b n (a + 1) 0 (y + 1) on (Cf hs); omega
    ·have := G3 b n (a + 1) (x + 1) y (on.set (y * 8 + x) (A7 b a [42])) (Cf hs)
     rw [List.length_set] at this; omega
section
variable {b0 p a : Nat} {b : List UInt8} {bx N : Int} {st : MSt} {H : Ab}
noncomputable def Pp (H0 : Ab) (r_4 on_5 : Aa) (H12 : Ab) : Out :=
 BZ (Sh.fa AI r_4 on_5 (.int .i64 3) (.int .i64 0) (.int .i64 0) H12) fun x60 H61 =>
 (Ae r_4).bind fun x62 =>
 (Ac 6 x62).bind fun x63 =>
 bC (Ad false 1 x63 H61) (fun x64 => Ad false 1 x63 H12 = some x64 ∧ True) fun x64 =>
 (A5 (some [(.int .i64 0), (.int .i64 0)]) [(0, 1, x60), (1, 1, (.int .i64 3))]).bind fun x65 =>
 (AD 2 [x65]).bind fun x66 =>
 BZ (B5 (AE CC 2 16 x64 x66 H61)) fun x67 H68 =>
 (Ae r_4).bind fun x69 =>
 (Ac 6 x69).bind fun x70 =>
 bK H0 (AJ (Ak 1 x70 x67 H68)) fun _ H72 =>
 rK H0 (.tup []) H72
theorem leaf_loop {r : List Aa} (h : Lx H p b a r) (ha : a ≤ b.length) (hb : b.length < 1152921504606846976) :
  Ao (fun rec1 vs H1 => Sh.f30 H rec1 (ag vs 0) (ag vs 1) (ag vs 2) (ag vs 3) H1) AI [.ptr p 0 0, .ptr H.length 0 0, .int .i64 0, .int .i64 0] (H ++ [.cel 0 (flat cB (List.replicate 64 false))]) =
   match DH b (b.length + 1 - a) a 0 0 (List.replicate 64 false) with
   | (some e, c, on) => some (.pan (hv e), AG H p b r c ++ [.cel 0 (flat cB on)])
   | (none, c, on) => Pp H (.ptr p 0 0) (.ptr H.length 0 0) (AG H p b r c ++ [.cel 0 (flat cB on)]) := by
 have key := Bl (G := fun rec1 vs H1 => Sh.f30 H rec1 (ag vs 0) (ag vs 1) (ag vs 2) (ag vs 3) H1) (σ := Nat × Nat × Nat × List Bool) (fun s => s.1 ≤ b.length ∧ s.2.1 ≤ 8 ∧ s.2.2.1 ≤ 8 ∧ s.2.2.2.length = 64)
  (fun s => [.ptr p 0 0, .ptr H.length 0 0, .int .i64 (s.2.1 : Int), .int .i64 (s.2.2.1 : Int)]) (fun s => AG H p b r s.1 ++ [.cel 0 (flat cB s.2.2.2)]) (fun s => b.length - s.1)
  (fun s => match DH b (b.length + 1 - s.1) s.1 s.2.1 s.2.2.1 s.2.2.2 with
   | (some e, c, on) => some (.pan (hv e), AG H p b r c ++ [.cel 0 (flat cB on)])
   | (none, c, on) => Pp H (.ptr p 0 0) (.ptr H.length 0 0) (AG H p b r c ++ [.cel 0 (flat cB on)])) (fun s rec hi hrec => ?_) (a, 0, 0, List.replicate 64 false) ⟨ha, by simp, by simp, by simp⟩ (by dsimp only; omega)
 ·rw [B6 h] at key; exact key
 ·obtain ⟨i, x, y, on⟩ := s
  obtain ⟨h1, h2, h3, h4⟩ := hi
  dsimp only at h1 h2 h3 h4 hrec ⊢
  have hx : Lx (AG H p b r i ++ [.cel 0 (flat cB on)]) p b i r := Lx.push (Cw h)
  rw [show b.length + 1 - i = (b.length - i) + 1 by omega]
  unfold Sh.f30
  simp only [GMb, GMc, HPa, HPc, HPd, HPe, HPz, Nat.reduceAdd, Nat.reduceLT, Aw, BL hx h1]
  unfold DH
  cases hs : A7 b i [46, 42, 36] with
  | false =>
   unfold Pp
   simp only [GMb, GMc, HPa, HPc, HPd, HPe, HPz, Nat.reduceAdd, Nat.reduceLT, Bool.false_eq_true, if_false]
  | true =>
   have hlt := Cf hs
   simp only [GMb, GMc, HPa, HPc, HPd, HPe, HPz, Nat.reduceAdd, Nat.reduceLT, BL hx h1, if_true]
   have hy8 : decide ((y : Int) = 8) = decide (y = 8) := by rw [Bool.eq_iff_iff]; simp only [decide_eq_true_eq]; omega
   have hx8 : decide ((x : Int) = 8) = decide (x = 8) := by rw [Bool.eq_iff_iff]; simp only [decide_eq_true_eq]; omega
   rw [hy8]
   have go : ¬ (y = 8 ∨ (x = 8 ∧ ¬ A7 b i [36] = true)) → Sh.f48 H (fun vs H1 => Sh.f2z H rec (ag vs 0) (ag vs 1) (ag vs 2) (ag vs 3) H1) (.ptr p 0 0) (.ptr H.length 0 0) (.int .i64 (x : Int)) (.int .i64 (y : Int)) (.bool (A7 b i [36])) (AG H p b r i ++ [.cel 0 (flat cB on)]) =
     match (if A7 b i [36] then DH b (b.length - i) (i + 1) 0 (y + 1) on else DH b (b.length - i) (i + 1) (x + 1) y (on.set (y * 8 + x) (A7 b i [42]))) with
     | (some e, c, on) => some (.pan (hv e), AG H p b r c ++ [.cel 0 (flat cB on)])
     | (none, c, on) => Pp H (.ptr p 0 0) (.ptr H.length 0 0) (AG H p b r c ++ [.cel 0 (flat cB on)]) := by
    intro hn
    unfold Sh.f48
    cases hd : A7 b i [36] with
    | true =>
     have hyl : y < 8 := by omega
     have := hrec (i + 1, 0, y + 1, on) ⟨hlt, by simp, hyl, h4⟩ (by dsimp only; omega)
     dsimp only at this
     rw [show b.length + 1 - (i + 1) = b.length - i by omega] at this
     simp only [GMb, GMc, HPa, HPc, HPd, HPe, HPz, Nat.reduceAdd, Nat.reduceLT, Au (show y < 9223372036854775807 by omega), if_true]
     unfold Sh.f2z
     simp only [GMb, GMc, HPa, HPc, HPd, HPe, HPz, Nat.reduceAdd, Nat.reduceLT, De hx, Au (show i < 9223372036854775807 by omega), lx_moveG h]
     exact this
    | false =>
     have hyl : y < 8 := by omega
     have hxl : x < 8 := by
      rcases Nat.lt_or_ge x 8 with h | h
      ·exact h
      ·exact absurd (.inr ⟨by omega, by rw [hd]; decide⟩) hn
     have hi1 := Oh (sz := 8) (K := .i64) (id := H.length) (g := 0) (o := 0) hyl
     have hi2 := Oh (sz := 1) (K := .i64) (id := H.length) (g := 0) (o := y * 8) hxl
     rw [Nat.zero_add] at hi1
     rw [Nat.mul_one] at hi2
     have hst : ∀ t, Ak 1 (.ptr H.length 0 (y * 8 + x)) (.bool t) (AG H p b r i ++ [.cel 0 (flat cB on)]) = some (AG H p b r i ++ [.cel 0 (flat cB (on.set (y * 8 + x) t))]) := fun t => by
      rw [← Fv H p i b r, Fu, Ko rfl (by rw [flat_cB, List.length_map]; omega), flat_cB_set]; rfl
     have hx2 : Lx (AG H p b r i ++ [.cel 0 (flat cB (on.set (y * 8 + x) (A7 b i [42])))]) p b i r := Lx.push (Cw h)
     have := hrec (i + 1, x + 1, y, on.set (y * 8 + x) (A7 b i [42])) ⟨hlt, hxl, h3, by rw [List.length_set]; exact h4⟩ (by dsimp only; omega)
     dsimp only at this
     rw [show b.length + 1 - (i + 1) = b.length - i by omega] at this
     simp only [GMb, GMc, HPa, HPc, HPd, HPe, HPz, Nat.reduceAdd, Nat.reduceLT, BL hx h1, hi1, hi2, hst, Au (show x < 9223372036854775807 by omega), Bool.false_eq_true, if_false]
     unfold Sh.f2z
     simp only [GMb, GMc, HPa, HPc, HPd, HPe, HPz, Nat.reduceAdd, Nat.reduceLT, De hx2, Au (show i < 9223372036854775807 by omega), lx_moveG h]
     exact this
   by_cases hy : y = 8
   ·simp only [hy, GMb, GMc, HPa, HPc, HPd, HPe, HPz, Nat.reduceAdd, Nat.reduceLT, hx8, Dq hx, true_or, if_true]
   ·by_cases hxx : x = 8
    ·cases hd : A7 b i [36] with
     | false =>
      have hx8' : decide ((x : Int) = 8) = true := by rw [hx8, hxx]; rfl
      rw [if_pos (.inr ⟨hxx, by decide⟩)]
      simp only [hy, hx8', GMb, GMc, HPa, HPc, HPd, HPe, HPz, Nat.reduceAdd, Nat.reduceLT, Dq hx]
     | true =>
      have := go (by rw [hd]; simp [hy])
      rw [hd] at this
      simp only [hy, hx8, hxx, GMb, GMc, HPa, HPc, HPd, HPe, HPz, Nat.reduceAdd, Nat.reduceLT, false_or, not_true_eq_false, if_false] at this ⊢
      exact this
    ·have := go (by simp [hy, hxx])
     simp only [hy, hx8, hxx, GMb, GMc, HPa, HPc, HPd, HPe, HPz, Nat.reduceAdd, Nat.reduceLT, false_or, false_and, if_false] at this ⊢
     exact this
theorem build_ln (n : Nat) (v : Int) : A5 (some [(.int .i64 0), (.int .i64 0)]) [(0, 1, .int .i64 (n : Int)), (1, 1, .int .i64 v)] = some (.agg (lnC (n, v))) := (rfl)
theorem Re (q : Nat × Int) : AD 2 [.agg (lnC q)] = some (.sl (enL lnC [q]) .tight) := by
 simp [AD, BS, Aa.acells]; simp [lnC, Lt, Bf, enL, Aa.isScal]
theorem Ext.ble {b id : Nat} {H H' : Ab} (h : Ext b id H H') (hb : b ≤ H.length) : b ≤ H'.length := Nat.le_trans hb h.len
theorem rd_line {v w : Aa} (h : RDx b0 p b a bx N st v w H) (q : Nat × Int) (hn : st.lines.length < 3000000000000) :
  ∃ w' H', AE CC 2 16 w (.sl (enL lnC [q]) .tight) H = some (w', H') ∧ Ak 1 (.ptr p 0 6) w' H' = some (H'.set p (.cel 0 (.str b :: .int .i64 (a : Int) :: rdR bx N st.law v w'))) ∧
   Ext b0 p H (H'.set p (.cel 0 (.str b :: .int .i64 (a : Int) :: rdR bx N st.law v w'))) ∧ RD b0 p b a bx N { st with lines := st.lines ++ [q] } (H'.set p (.cel 0 (.str b :: .int .i64 (a : Int) :: rdR bx N st.law v w'))) := by
 obtain ⟨w', H', ha, hr, hk, hg⟩ := RS.snoc2 (bytes := 16) h.lines h.ble q .tight (by omega) (by omega)
 have hc' := hk.cel _ _ h.lx
 have hlt' : p < H'.length := (List.getElem?_eq_some_iff.1 hc').1
 have hst := st_cel (o := 6) (v := w') hc' hr.one (by simp [rdR])
 have e2 : Ext b0 p H H' := ⟨hk.len, fun i cs _ hc => hk.cel i cs hc, hk.old⟩
 have e3 : ∀ cs, Ext b0 p H' (H'.set p (.cel 0 cs)) := fun cs => ⟨by simp, fun i c hi hc => by rw [List.getElem?_set_ne (Ne.symm hi)]; exact hc, fun i hi => by rw [List.getElem?_set_ne (by have := h.hb; omega)]⟩
 refine ⟨w', H', ha, hst, e2.trans (e3 _), v, w', h.hb, ?_, (h.nodes.stay hg (RS.apart h.nodes h.lines (by decide))).put hc', hr.put hc'⟩
 unfold Lx; rw [List.getElem?_set_self hlt']
theorem rd_leaf (h : RD b0 p b a bx N st H) (ha : a ≤ b.length) (hb : b.length < 1152921504606846976) (hn : st.nodes.length + 100 < 3000000000000) (hn2 : st.lines.length < 3000000000000) : Nm b0 p b bx N H (Sh.f1n (.ptr p 0 0) H) (.tup []) (Pq b a st) := by
 obtain ⟨v, w, h⟩ := h
 have hal : ∀ K : Ab, AC (some [(.bool false), (.bool false), (.bool false), (.bool false), (.bool false), (.bool false), (.bool false), (.bool false), (.bool false), (.bool false), (.bool false), (.bool false), (.bool false), (.bool false), (.bool false), (.bool false), (.bool false), (.bool false), (.bool false), (.bool false), (.bool false), (.bool false), (.bool false), (.bool false), (.bool false), (.bool false), (.bool false), (.bool false), (.bool false), (.bool false), (.bool false), (.bool false), (.bool false), (.bool false), (.bool false), (.bool false), (.bool false), (.bool false), (.bool false), (.bool false), (.bool false), (.bool false), (.bool false), (.bool false), (.bool false), (.bool false), (.bool false), (.bool false), (.bool false), (.bool false), (.bool false), (.bool false), (.bool false), (.bool false), (.bool false), (.bool false), (.bool false), (.bool false), (.bool false), (.bool false), (.bool false), (.bool false), (.bool false), (.bool false)]) K = some (.ptr K.length 0 0, K ++ [.cel 0 (flat cB (List.replicate 64 false))]) := fun K => by
  rw [alloc_eq rfl]; rfl
 unfold Sh.f1n Nm Pq
 rw [hal]
 simp only [GMb, GMc]
 rw [leaf_loop h.lx ha hb]
 have hle := G3 b (b.length + 1 - a) a 0 0 (List.replicate 64 false) ha
 generalize DH b (b.length + 1 - a) a 0 0 (List.replicate 64 false) = R at hle
 obtain ⟨er, c, on⟩ := R
 dsimp only at hle ⊢
 obtain ⟨h1, e1⟩ := h.go c [.cel 0 (flat cB on)]
 cases er with
 | some e => exact ⟨_, rfl, e1, _, _, h1⟩
 | none =>
  have hon : OnC H.length on (AG H p b (rdR bx N st.law v w) c ++ [.cel 0 (flat cB on)]) := by
   unfold OnC
   rw [← Fv H p c b (rdR bx N st.law v w)]; exact AA
  have hld1 := Bv (o := 6) (sz := 1) h1.lx
  dsimp only
  generalize AG H p b (rdR bx N st.law v w) c ++ [.cel 0 (flat cB on)] = H1 at h1 e1 hon hld1 ⊢
  obtain ⟨H2, s1, s2, v2, s3⟩ := rd_square (w := w) (on := on) (q := H.length) (by rw [hle.2.2]; simp) (by have := h.lt; omega) 3 AI 0 0 st H1 (by omega) (by rw [CT]; decide) (by decide) (by decide) (by decide) (by have : sqM 3 = 21 := rfl; omega) ⟨v, h1⟩ hon
  have hld2 := Bv (o := 6) (sz := 1) s3.lx
  obtain ⟨w3, H3, t1, t2, t3, t4⟩ := rd_line s3 ((sqF (onQ on) 3 0 0 st.nodes).length, 3) hn2
  unfold Pp
  rw [show (((3 : Nat) : Int)) = 3 from rfl, show (((0 : Nat) : Int)) = 0 from rfl] at s1
  simp only [GMb, GMc, HPa, HPc, HPd, HPe, HPz, Nat.reduceAdd, Nat.reduceLT, s1, hld1, hld2, rdR, build_ln, Re, t1, t2]
  exact ⟨_, rfl, (e1.trans s2).trans t3, t4⟩

end
end Go.Gm
namespace Go.Gm
theorem Mf {b : List UInt8} {i : Nat} (h : A7 b i BI = true) : ∃ hl : i < b.length, 48 ≤ b[i].toNat ∧ b[i].toNat ≤ 57 ∧ Dh b i = b[i].toNat - 48 := by
 have hl := Cf h
 unfold A7 at h
 rw [List.getElem?_eq_getElem hl] at h
 unfold BI at h
 simp only [digs_mem, decide_eq_true_eq] at h
 refine ⟨hl, h.1, h.2, ?_⟩
 unfold Dh
 rw [List.getD_eq_getElem?_getD, List.getElem?_eq_getElem hl]; rfl
theorem digV_le {b : List UInt8} {i : Nat} (h : A7 b i BI = true) : Dh b i ≤ 9 := by
 obtain ⟨hl, h1, h2, h3⟩ := Mf h; omega
theorem dig_bin {b : List UInt8} {i : Nat} (h : A7 b i BI = true) (hl : i < b.length) : IntKind.u8.wrap ((b[i].toNat : Int) - 48) = (Dh b i : Int) ∧ IntKind.i64.wrap (Dh b i : Int) = (Dh b i : Int) := by
 obtain ⟨_, h1, h2, h3⟩ := Mf h
 rw [h3]
 refine ⟨?_, by rw [C7 (by omega)]⟩
 rw [wrap_u8 (by omega) (by omega)]; omega
theorem Of (b : List UInt8) : ∀ k a n, a ≤ b.length → a ≤ (FK b k a n).2.1 ∧ (FK b k a n).2.1 ≤ b.length
 | 0, a, n, h => ⟨Nat.le_refl _, h⟩
 | k + 1, a, n, h => by
  unfold FK
  cases hs : A7 b a BI with
  | true =>
   simp only [if_true]
   split
   ·exact ⟨Nat.le_refl _, h⟩
   ·have := Of b k (a + 1) (10 * n + Dh b a) (Cf hs); omega
  | false =>
   simp only [Bool.false_eq_true, if_false]
   split <;> exact ⟨Nat.le_refl _, h⟩
theorem levF_ok (b : List UInt8) : ∀ k a n, n ≤ 1329 → a ≤ b.length → b.length < a + k → (FK b k a n).1 = none → 0 < (FK b k a n).2.2 ∧ (FK b k a n).2.2 ≤ 1329
 | 0, a, n, h, ha, hk, _ => by omega
 | k + 1, a, n, h, ha, hk, he => by
  unfold FK at he ⊢
  cases hs : A7 b a BI with
  | true =>
   rw [hs] at he
   simp only [if_true] at he ⊢
   split
   ·rename_i hgt; rw [if_pos hgt] at he; cases he
   ·rename_i hgt; rw [if_neg hgt] at he
    exact levF_ok b k (a + 1) _ (by omega) (Cf hs) (by omega) he
  | false =>
   rw [hs] at he
   simp only [Bool.false_eq_true, if_false] at he ⊢
   split
   ·rename_i h0; rw [if_pos h0] at he; cases he
   ·rename_i h0; exact ⟨by dsimp only; omega, h⟩
section
variable {b0 p a : Nat} {b : List UInt8} {bx N : Int} {st : MSt} {H : Ab} {r : List Aa}
theorem lx_level (h : Lx H p b a r) (ha : a ≤ b.length) (hb : b.length < 1152921504606846976) :
  Sh.f1o (.ptr p 0 0) H = some (LD (BT b a).1 (.int .i64 ((BT b a).2.2 : Int)), AG H p b r (BT b a).2.1) := by
 have hss := B6 h
 unfold Sh.f1o BT
 simp only [GMb, GMc, HPa, HPc, HPd, HPe, HPz, Nat.reduceAdd, Nat.reduceLT, BL h ha]
 cases h0 : A7 b a [48] with
 | true =>
  simp only [GMb, GMc, HPa, HPc, HPd, HPe, HPz, Nat.reduceAdd, Nat.reduceLT, Dq h, if_true, Be, hss]
 | false =>
  simp only [GMb, GMc, HPa, HPc, HPd, HPe, HPz, Nat.reduceAdd, Nat.reduceLT, Bool.false_eq_true, if_false]
  unfold Sh.f4x
  have key := Bl (G := fun rec2 vs H1 => Sh.f49 H rec2 (ag vs 0) (ag vs 1) H1) (σ := Nat × Nat) (fun s => s.1 ≤ b.length ∧ s.2 ≤ 1329) (fun s => [.ptr p 0 0, .int .i64 (s.2 : Int)]) (fun s => AG H p b r s.1) (fun s => b.length - s.1)
   (fun s => some (LD (FK b (b.length + 1 - s.1) s.1 s.2).1 (.int .i64 ((FK b (b.length + 1 - s.1) s.1 s.2).2.2 : Int)), AG H p b r (FK b (b.length + 1 - s.1) s.1 s.2).2.1)) (fun s rec hi hrec => ?_) (a, 0) ⟨ha, by simp⟩ (by dsimp only; omega)
  ·rw [hss] at key; exact key
  ·obtain ⟨i, n⟩ := s
   obtain ⟨h1, h2⟩ := hi
   dsimp only at h1 h2 hrec ⊢
   have hx := Cw (a' := i) h
   have hsd := BL hx h1 BI
   unfold BI at hsd
   rw [show b.length + 1 - i = (b.length - i) + 1 by omega]
   have hds : A7 b i [48, 49, 50, 51, 52, 53, 54, 55, 56, 57] = A7 b i BI := rfl
   rw [hds] at hsd
   unfold Sh.f49
   simp only [GMb, GMc, HPa, HPc, HPd, HPe, HPz, Nat.reduceAdd, Nat.reduceLT, hsd]
   unfold FK
   cases hs : A7 b i BI with
   | true =>
    obtain ⟨hlt, d1, d2, d3⟩ := Mf hs
    obtain ⟨w1, w2⟩ := dig_bin hs hlt
    have hd9 := digV_le hs
    have w3 : IntKind.i64.wrap (10 * (n : Int)) = ((10 * n : Nat) : Int) := by rw [show (10 * (n : Int)) = ((10 * n : Nat) : Int) by omega, C7 (by omega)]
    have w4 : IntKind.i64.wrap (((10 * n : Nat) : Int) + (Dh b i : Int)) = ((10 * n + Dh b i : Nat) : Int) := Km (by omega)
    simp only [GMb, GMc, HPa, HPc, HPd, HPe, HPz, Nat.reduceAdd, Nat.reduceLT, De hx, Qa hx, FV hlt, w1, BJ, w2, w3, w4, if_true]
    by_cases hgt : 1329 < 10 * n + Dh b i
    ·have hgt' : ((10 * n + Dh b i : Nat) : Int) > 1329 := by omega
     simp only [hgt', GMb, GMc, HPa, HPc, HPd, HPe, HPz, Nat.reduceAdd, Nat.reduceLT, lx_limit, if_pos hgt, Be]
     rfl
    ·have hgt' : ¬ ((10 * n + Dh b i : Nat) : Int) > 1329 := by omega
     have := hrec (i + 1, 10 * n + Dh b i) ⟨hlt, by dsimp only; omega⟩ (by dsimp only; omega)
     dsimp only at this
     rw [show b.length + 1 - (i + 1) = b.length - i by omega] at this
     unfold Sh.f4w
     simp only [hgt', GMb, GMc, HPa, HPc, HPd, HPe, HPz, Nat.reduceAdd, Nat.reduceLT, if_neg hgt, De hx, Au (show i < 9223372036854775807 by omega), E9 h]
     exact this
   | false =>
    by_cases hn : n = 0
    ·have hn' : ((0 : Nat) : Int) = 0 := rfl
     simp only [hn, hn', GMb, GMc, HPa, HPc, HPd, HPe, HPz, Nat.reduceAdd, Nat.reduceLT, Dq hx, Bool.false_eq_true, if_false, if_true, Be]
    ·have hn' : ¬ (n : Int) = 0 := by omega
     simp only [hn', hn, GMb, GMc, HPa, HPc, HPd, HPe, HPz, Nat.reduceAdd, Nat.reduceLT, Bool.false_eq_true, if_false, Bq]
theorem rd_may {v w : Aa} (h : RDx b0 p b a bx N st v w H) {level : Int} (h1 : 1 ≤ level) (h2 : level ≤ 1329) (n : Nat) (hn : n < 4000000000000000000) : Sh.fb (.ptr p 0 0) (.int .i64 level) (.int .i64 (n : Int)) H = some (.ret (.bool (CQ st.lines level n)), H) := by
 have hld := Bv (o := 6) (sz := 1) h.lx
 have w1 : IntKind.i64.wrap (level - 1) = level - 1 := by rw [Ay] <;> omega
 unfold Sh.fb CQ
 by_cases hl : level = 1
 ·have : decide ((n : Int) ≤ 255) = decide (n ≤ 255) := by rw [Bool.eq_iff_iff]; simp only [decide_eq_true_eq]; omega
  simp only [hl, GMb, GMc, HPa, HPc, HPd, HPe, HPz, Nat.reduceAdd, Nat.reduceLT, this, if_true]
 ·simp only [hl, GMb, GMc, HPa, HPc, HPd, HPe, HPz, Nat.reduceAdd, Nat.reduceLT, if_false]
  by_cases h0 : n = 0
  ·have h0' : ((0 : Nat) : Int) = 0 := rfl
   simp only [h0, h0', GMb, GMc, HPa, HPc, HPd, HPe, HPz, Nat.reduceAdd, Nat.reduceLT, if_true]
  ·have h0' : ¬ (n : Int) = 0 := by omega
   simp only [h0', h0, GMb, GMc, HPa, HPc, HPd, HPe, HPz, Nat.reduceAdd, Nat.reduceLT, if_false, hld, rdR, h.lines.len]
   by_cases hle : n ≤ st.lines.length
   ·have hle' : (n : Int) ≤ (st.lines.length : Int) := by omega
    have hlt : n - 1 < st.lines.length := by omega
    have w2 : IntKind.i64.wrap ((n : Int) - 1) = ((n - 1 : Nat) : Int) := Db (by omega) (by omega)
    simp only [hle', GMb, GMc, HPa, HPc, HPd, HPe, HPz, Nat.reduceAdd, Nat.reduceLT, hld, rdR, w1, w2, h.lines.idx hlt, Ah, As, lnC, List.getElem?_eq_getElem hlt]
   ·have hle' : ¬ (n : Int) ≤ (st.lines.length : Int) := by omega
    simp only [hle', GMb, GMc, HPa, HPc, HPd, HPe, HPz, Nat.reduceAdd, Nat.reduceLT, List.getElem?_eq_none (show st.lines.length ≤ n - 1 by omega)]
theorem Q6 (lines : List (Nat × Int)) (level : Int) : CQ lines level 0 = true := by
 unfold CQ; split <;> simp
theorem Pf (lines : List (Nat × Int)) (level : Int) : ∀ (f f' low high : Nat), 1 ≤ low → lines.length + 1 - low ≤ f → lines.length + 1 - low ≤ f' → Fz lines level f low high = Fz lines level f' low high := by
 intro f
 induction f with
 | zero =>
  intro f' low high h1 h2 h3
  cases f' with
  | zero => rfl
  | succ f' => unfold Fz; rw [if_neg (by omega)]
 | succ f ih =>
  intro f' low high h1 h2 h3
  cases f' with
  | zero => unfold Fz; rw [if_neg (by omega)]
  | succ f' =>
   unfold Fz
   rw [ih f' (low * 10) (high * 10 + 9) (by omega) (by omega) (by omega)]
theorem Q1 {v w : Aa} (h : RDx b0 p b a bx N st v w H) {level : Int} (h1 : 1 ≤ level) (h2 : level ≤ 1329) (n : Nat) (hn : n < 40000000000000) (hll : st.lines.length < 3000000000000) :
  Sh.fz (.ptr p 0 0) (.int .i64 level) (.int .i64 (n : Int)) H = some (.ret (.tup [.int .i64 (((EF st.lines level n).getD 0 : Nat) : Int), .bool (EF st.lines level n).isSome]), H) := by
 have hld := Bv (o := 6) (sz := 1) h.lx
 unfold Sh.fz EF
 simp only [GMb, GMc, HPa, HPc, HPd, HPe, HPz, Nat.reduceAdd, Nat.reduceLT, rd_may h h1 h2 n (by omega)]
 cases hm : CQ st.lines level n with
 | true => simp only [GMb, GMc, HPa, HPc, HPd, HPe, HPz, Nat.reduceAdd, Nat.reduceLT, rd_may h h1 h2 n (by omega), hm, if_true, Option.getD_some, Option.isSome_some]
 | false =>
  have hn0 : n ≠ 0 := fun e => by rw [e, Q6] at hm; cases hm
  have hn0' : ¬ (n : Int) = 0 := by omega
  have w1 : IntKind.i64.wrap ((n : Int) * 10) = ((n * 10 : Nat) : Int) := by rw [show ((n : Int) * 10) = ((n * 10 : Nat) : Int) by omega, C7 (by omega)]
  have w2 : IntKind.i64.wrap (((n * 10 : Nat) : Int) + 9) = ((n * 10 + 9 : Nat) : Int) := by rw [Ay] <;> omega
  simp only [hn0', hn0, GMb, GMc, HPa, HPc, HPd, HPe, HPz, Nat.reduceAdd, Nat.reduceLT, w1, w2, Bool.false_eq_true, if_false]
  have key := Bl (G := fun rec1 vs H1 => Sh.f4a H rec1 (ag vs 0) (ag vs 1) (ag vs 2) (ag vs 3) H1) (σ := Nat × Nat) (fun s => 10 ≤ s.1 ∧ s.2 < 2 * s.1 ∧ s.1 ≤ s.2 ∧ s.1 < 400000000000000) (fun s => [.ptr p 0 0, .int .i64 level, .int .i64 (s.1 : Int), .int .i64 (s.2 : Int)]) (fun _ => H) (fun s => st.lines.length + 1 - s.1)
   (fun s => some (.ret (.tup [.int .i64 (((Fz st.lines level (st.lines.length + 1 - s.1) s.1 s.2).getD 0 : Nat) : Int), .bool (Fz st.lines level (st.lines.length + 1 - s.1) s.1 s.2).isSome]), H)) (fun s rec hi hrec => ?_) (n * 10, n * 10 + 9) ⟨by dsimp only; omega, by dsimp only; omega, by dsimp only; omega, by dsimp only; omega⟩ (by dsimp only; omega)
  ·rw [Pf st.lines level (st.lines.length + 1) (st.lines.length + 1 - n * 10) _ _ (by omega) (by omega) (by omega)]
   exact key
  ·obtain ⟨low, high⟩ := s
   obtain ⟨i1, i2, i3, i4⟩ := hi
   dsimp only at i1 i2 i3 i4 hrec ⊢
   unfold Sh.f4a
   simp only [GMb, GMc, HPa, HPc, HPd, HPe, HPz, Nat.reduceAdd, Nat.reduceLT, hld, rdR, h.lines.len]
   by_cases hle : low ≤ st.lines.length
   ·have hle' : (low : Int) ≤ (st.lines.length : Int) := by omega
    rw [show st.lines.length + 1 - low = (st.lines.length - low) + 1 by omega]
    unfold Fz
    have w3 : IntKind.i64.wrap ((low : Int) * 10) = ((low * 10 : Nat) : Int) := by rw [show ((low : Int) * 10) = ((low * 10 : Nat) : Int) by omega, C7 (by omega)]
    have w4 : IntKind.i64.wrap ((high : Int) * 10) = ((high * 10 : Nat) : Int) := by rw [show ((high : Int) * 10) = ((high * 10 : Nat) : Int) by omega, C7 (by omega)]
    have w5 : IntKind.i64.wrap (((high * 10 : Nat) : Int) + 9) = ((high * 10 + 9 : Nat) : Int) := by rw [Ay] <;> omega
    have hnext := hrec (low * 10, high * 10 + 9) ⟨by dsimp only; omega, by dsimp only; omega, by dsimp only; omega, by dsimp only; omega⟩ (by dsimp only; omega)
    dsimp only at hnext
    have inner := Hk (G := fun rec2 vs H1 => Sh.f31 H rec rec2 (ag vs 0) (ag vs 1) (ag vs 2) (ag vs 3) (ag vs 4) H1) (min high st.lines.length + 1 - low) (fun i => CQ st.lines level (low + i)) (fun i => [.ptr p 0 0, .int .i64 level, .int .i64 (low : Int), .int .i64 (high : Int), .int .i64 ((low + i : Nat) : Int)]) H
     (rec [.ptr p 0 0, .int .i64 level, .int .i64 ((low * 10 : Nat) : Int), .int .i64 ((high * 10 + 9 : Nat) : Int)] H) (fun i => some (.ret (.tup [.int .i64 ((low + i : Nat) : Int), .bool true]), H)) (by omega) (fun rec2 i hi => ?_) (fun rec2 => ?_)
    ·simp only [hle', GMb, GMc, HPa, HPc, HPd, HPe, HPz, Nat.reduceAdd, Nat.reduceLT, if_pos hle]
     rw [Nat.add_zero] at inner
     rw [inner]
     cases (List.range (min high st.lines.length + 1 - low)).find? (fun i => CQ st.lines level (low + i)) with
     | some i => simp only [Option.getD_some, Option.isSome_some]
     | none =>
      simp only
      rw [hnext, Pf st.lines level (st.lines.length + 1 - low * 10) (st.lines.length - low) _ _ (by omega) (by omega) (by omega)]
    ·have c1 : ((low + i : Nat) : Int) ≤ (high : Int) := by omega
     have c2 : ((low + i : Nat) : Int) ≤ (st.lines.length : Int) := by omega
     unfold Sh.f31
     simp only [GMb, GMc, HPa, HPc, HPd, HPe, HPz, Nat.reduceAdd, Nat.reduceLT, c1, c2, hld, rdR, h.lines.len, rd_may h h1 h2 (low + i) (by omega)]
     cases hmm : CQ st.lines level (low + i) with
     | true => simp only [GMb, GMc, HPa, HPc, HPd, HPe, HPz, Nat.reduceAdd, Nat.reduceLT, if_true]
     | false => simp only [GMb, GMc, HPa, HPc, HPd, HPe, HPz, Nat.reduceAdd, Nat.reduceLT, Bool.false_eq_true, if_false, Au (show low + i < 9223372036854775807 by omega)]; rfl
    ·unfold Sh.f31
     have hN : low + (min high st.lines.length + 1 - low) = min high st.lines.length + 1 := by omega
     rw [hN]
     by_cases hc : high ≤ st.lines.length
     ·have c1 : ¬ ((min high st.lines.length + 1 : Nat) : Int) ≤ (high : Int) := by omega
      simp only [GMb, GMc, HPa, HPc, HPd, HPe, HPz, Nat.reduceAdd, Nat.reduceLT, c1, w3, w4, w5]
     ·have c1 : ((min high st.lines.length + 1 : Nat) : Int) ≤ (high : Int) := by omega
      have c2 : ¬ ((min high st.lines.length + 1 : Nat) : Int) ≤ (st.lines.length : Int) := by omega
      simp only [GMb, GMc, HPa, HPc, HPd, HPe, HPz, Nat.reduceAdd, Nat.reduceLT, c1, c2, hld, rdR, h.lines.len, w3, w4, w5]
   ·have hle' : ¬ (low : Int) ≤ (st.lines.length : Int) := by omega
    rw [show st.lines.length + 1 - low = 0 by omega]
    unfold Fz
    simp only [hle', GMb, GMc, HPa, HPc, HPd, HPe, HPz, Nat.reduceAdd, Nat.reduceLT, Option.getD_none, Option.isSome_none]
    rfl

end
end Go.Gm
namespace Go.Gm
theorem decN_mono : ∀ (m n : Nat), m ≤ n → (AP m).length ≤ (AP n).length := by
 intro m
 induction m using Nat.strongRecOn with
 | _ m ih =>
  intro n h
  by_cases hm : m < 10
  ·rw [CX hm]
   unfold AP
   split <;> simp
  ·rw [CY hm, CY (n := n) (by omega), List.length_append, List.length_append]
   have := ih (m / 10) (by omega) (n / 10) (by omega)
   simp only [List.length_singleton]; omega
theorem longF_ge (lines : List (Nat × Int)) (level : Int) : ∀ (f low high k : Nat), 1 ≤ low → Fz lines level f low high = some k → low ≤ k ∧ k ≤ lines.length := by
 intro f
 induction f with
 | zero => intro low high k _ h; cases h
 | succ f ih =>
  intro low high k h1 h
  unfold Fz at h
  by_cases hl : low ≤ lines.length
  ·rw [if_pos hl] at h
   split at h
   ·rename_i i hf
    injection h with h
    have := List.mem_of_find?_eq_some hf
    rw [List.mem_range] at this
    omega
   ·have := ih _ _ _ (by omega) h; omega
  ·rw [if_neg hl] at h; cases h
theorem longS_ge {lines : List (Nat × Int)} {level : Int} {n k : Nat} (h : EF lines level n = some k) : n ≤ k := by
 unfold EF at h
 split at h
 ·injection h with h; omega
 ·split at h
  ·cases h
  ·have := longF_ge _ _ _ _ _ _ (by omega) h; omega
theorem mayB_le {lines : List (Nat × Int)} {level : Int} {n : Nat} (h : CQ lines level n = true) : n ≤ max 255 lines.length := by
 unfold CQ at h
 split at h
 ·simp only [decide_eq_true_eq] at h; omega
 ·split at h
  ·omega
  ·split at h
   ·rename_i hq
    have := (List.getElem?_eq_some_iff.1 hq).1; omega
   ·cases h
theorem longS_le {lines : List (Nat × Int)} {level : Int} {n k : Nat} (h : EF lines level n = some k) : k ≤ max 255 lines.length := by
 unfold EF at h
 split at h
 ·rename_i hm; injection h with h; rw [← h]; exact mayB_le hm
 ·split at h
  ·cases h
  ·have := longF_ge _ _ _ _ _ _ (by omega) h; omega
theorem kidF_le (b : List UInt8) (lines : List (Nat × Int)) (level : Int) (f : Nat) (rest : List UInt8) : ∀ k a n, a ≤ b.length → a ≤ (G4 b lines level f rest k a n).2.1 ∧ (G4 b lines level f rest k a n).2.1 ≤ b.length
 | 0, a, n, h => ⟨Nat.le_refl _, h⟩
 | k + 1, a, n, h => by
  unfold G4
  cases hs : A7 b a BI with
  | true =>
   simp only [if_true]
   split
   ·exact ⟨Nat.le_refl _, h⟩
   ·split
    ·have := kidF_le b lines level f rest k (a + 1) (10 * n + Dh b a) (Cf hs); omega
    ·exact ⟨Nat.le_refl _, h⟩
  | false =>
   simp only [Bool.false_eq_true, if_false]
   split
   ·exact ⟨Nat.le_refl _, h⟩
   ·split <;> exact ⟨Nat.le_refl _, h⟩
section
variable {b0 p a : Nat} {b : List UInt8} {bx N : Int} {st : MSt} {H : Ab}
theorem rd_tell {v w : Aa} (h : RDx b0 p b a bx N st v w H) {level : Int} (h1 : 1 ≤ level) (n : Nat) (hm : CQ st.lines level n = true) (hn : n < 4000000000000000000) : Sh.f32 H (.ptr p 0 0) (.int .i64 level) (.int .i64 (n : Int)) H = some (.ret (.int .i64 (DP st.lines level n : Int)), H) := by
 have hld := Bv (o := 6) (sz := 1) h.lx
 unfold Sh.f32 DP
 by_cases hl : 1 < level
 ·have hl' : level > 1 := hl
  by_cases h0 : 0 < n
  ·have h0' : (n : Int) > 0 := by omega
   have hlt : n - 1 < st.lines.length := by
    unfold CQ at hm
    rw [if_neg (by omega), if_neg (by omega)] at hm
    split at hm
    ·rename_i hq; exact (List.getElem?_eq_some_iff.1 hq).1
    ·cases hm
   have w2 : IntKind.i64.wrap ((n : Int) - 1) = ((n - 1 : Nat) : Int) := Db (by omega) (by omega)
   simp only [hl', h0', GMb, GMc, HPa, HPc, HPd, HPe, HPz, Nat.reduceAdd, Nat.reduceLT, hld, rdR, w2, h.lines.idx hlt, Ah, As, lnC, hl, h0, if_true, List.getElem?_eq_getElem hlt, Option.getD_some]
  ·have h0' : ¬ (n : Int) > 0 := by omega
   simp only [hl', h0', GMb, GMc, HPa, HPc, HPd, HPe, HPz, Nat.reduceAdd, Nat.reduceLT, h0, and_false, if_false]
 ·have hl' : ¬ level > 1 := hl
  simp only [hl', GMb, GMc, HPa, HPc, HPd, HPe, HPz, Nat.reduceAdd, Nat.reduceLT, hl, false_and, if_false]
theorem rd_kid {v w : Aa} (h : RDx b0 p b a bx N st v w H) (ha : a ≤ b.length) (hb : b.length < 1152921504606846976) {level : Int} (h1 : 1 ≤ level) (h2 : level ≤ 1329) (hll : st.lines.length < 3000000000000) (rest : List UInt8) (hr : rest.length ≤ 1000000) :
  ∃ x, Sh.f1p (.ptr p 0 0) (.int .i64 level) (.str rest) H = some (LD (LT b a st.lines level rest).1 (.int .i64 x), AG H p b (rdR bx N st.law v w) (LT b a st.lines level rest).2.1) ∧ ((LT b a st.lines level rest).1 = none → x = ((LT b a st.lines level rest).2.2 : Int)) := by
 have hss := B6 h.lx
 have key := Bl (G := fun rec1 vs H1 => Sh.f4d H rec1 (ag vs 0) (ag vs 1) (ag vs 2) (ag vs 3) (ag vs 4) H1) (σ := Nat × Nat) (fun s => a ≤ s.1 ∧ s.1 ≤ b.length ∧ s.2 ≤ max 255 st.lines.length ∧ (a < s.1 → (AP s.2).length = s.1 - a ∧ (EF st.lines level s.2).isSome = true) ∧ (s.1 = a → s.2 = 0))
  (fun s => [.ptr p 0 0, .int .i64 level, .str rest, .int .i64 (s.2 : Int), .int .i64 (a : Int)]) (fun s => AG H p b (rdR bx N st.law v w) s.1) (fun s => b.length - s.1)
  (fun s => some (LD (G4 b st.lines level a rest (b.length + 1 - s.1) s.1 s.2).1 (.int .i64 (DP st.lines level (G4 b st.lines level a rest (b.length + 1 - s.1) s.1 s.2).2.2 : Int)), AG H p b (rdR bx N st.law v w) (G4 b st.lines level a rest (b.length + 1 - s.1) s.1 s.2).2.1)) (fun s rec hi hrec => ?_) (a, 0) ⟨Nat.le_refl _, ha, Nat.zero_le _, fun h => absurd h (by simp), fun _ => rfl⟩ (by dsimp only; omega)
 ·rw [hss] at key
  refine ⟨_, ?_, fun _ => rfl⟩
  unfold Sh.f1p LT
  simp only [GMb, GMc, HPa, HPc, HPd, HPe, HPz, Nat.reduceAdd, Nat.reduceLT, De h.lx]
  exact key
 ·obtain ⟨i, n⟩ := s
  obtain ⟨i0, i1, i2, i3, i4⟩ := hi
  dsimp only at i0 i1 i2 i3 i4 hrec ⊢
  have hR := h.move i
  have hx := hR.lx
  have hsd := BL hx i1 BI
  have hds : A7 b i [48, 49, 50, 51, 52, 53, 54, 55, 56, 57] = A7 b i BI := rfl
  unfold BI at hsd
  rw [hds] at hsd
  rw [show b.length + 1 - i = (b.length - i) + 1 by omega]
  unfold Sh.f4d
  simp only [GMb, GMc, HPa, HPc, HPd, HPe, HPz, Nat.reduceAdd, Nat.reduceLT, Aw, hsd]
  unfold G4
  cases hs : A7 b i BI with
  | true =>
   obtain ⟨hlt, d1, d2, d3⟩ := Mf hs
   obtain ⟨w1, w2⟩ := dig_bin hs hlt
   have hd9 := digV_le hs
   have go : ¬ (a < i ∧ n = 0) → Sh.f4c H (fun vs H1 => Sh.f4b H rec (ag vs 0) (ag vs 1) (ag vs 2) (ag vs 3) (ag vs 4) H1) (.ptr p 0 0) (.int .i64 level) (.str rest) (.int .i64 (n : Int)) (.int .i64 (a : Int)) (AG H p b (rdR bx N st.law v w) i) =
     some (LD (if (EF st.lines level (10 * n + Dh b i)).isSome then G4 b st.lines level a rest (b.length - i) (i + 1) (10 * n + Dh b i) else (some (Fs b i []), i, n)).1 (.int .i64 (DP st.lines level (if (EF st.lines level (10 * n + Dh b i)).isSome then G4 b st.lines level a rest (b.length - i) (i + 1) (10 * n + Dh b i) else (some (Fs b i []), i, n)).2.2 : Int)), AG H p b (rdR bx N st.law v w) (if (EF st.lines level (10 * n + Dh b i)).isSome then G4 b st.lines level a rest (b.length - i) (i + 1) (10 * n + Dh b i) else (some (Fs b i []), i, n)).2.1) := by
    intro hn
    have w3 : IntKind.i64.wrap (10 * (n : Int)) = ((10 * n : Nat) : Int) := by rw [show (10 * (n : Int)) = ((10 * n : Nat) : Int) by omega, C7 (by omega)]
    have w4 : IntKind.i64.wrap (((10 * n : Nat) : Int) + (Dh b i : Int)) = ((10 * n + Dh b i : Nat) : Int) := Km (by omega)
    unfold Sh.f4c
    simp only [GMb, GMc, HPa, HPc, HPd, HPe, HPz, Nat.reduceAdd, Nat.reduceLT, De hx, Qa hx, FV hlt, w1, BJ, w2, w3, w4, Q1 hR h1 h2 (10 * n + Dh b i) (by omega) hll]
    cases hl : EF st.lines level (10 * n + Dh b i) with
    | none =>
     simp only [GMb, GMc, HPa, HPc, HPd, HPe, HPz, Nat.reduceAdd, Nat.reduceLT, Option.isSome_none, Dq hx, Bool.false_eq_true, if_false, Be]
    | some k =>
     have hk1 := longS_ge hl
     have hk2 := longS_le hl
     have hlen : (AP (10 * n + Dh b i)).length = i + 1 - a := by
      by_cases hai : a < i
      ·have hn0 : n ≠ 0 := fun e => hn ⟨hai, e⟩
       rw [CY (by omega), List.length_append, show (10 * n + Dh b i) / 10 = n by omega, (i3 hai).1, List.length_singleton]; omega
      ·have hia : i = a := by omega
       rw [i4 hia, CX (by omega), List.length_singleton]; omega
     have := hrec (i + 1, 10 * n + Dh b i) ⟨by dsimp only; omega, hlt, by dsimp only; omega, fun _ => ⟨hlen, by rw [hl]; rfl⟩, fun e => by dsimp only at e; omega⟩ (by dsimp only; omega)
     dsimp only at this
     rw [show b.length + 1 - (i + 1) = b.length - i by omega] at this
     unfold Sh.f4b
     simp only [GMb, GMc, HPa, HPc, HPd, HPe, HPz, Nat.reduceAdd, Nat.reduceLT, Option.isSome_some, if_true, De hx, Au (show i < 9223372036854775807 by omega), E9 h.lx]
     exact this
   simp only [GMb, GMc, HPa, HPc, HPd, HPe, HPz, Nat.reduceAdd, Nat.reduceLT, De hx, if_true]
   by_cases hai : a < i
   ·have hai' : (i : Int) > (a : Int) := by omega
    simp only [hai', GMb, GMc, HPa, HPc, HPd, HPe, HPz, Nat.reduceAdd, Nat.reduceLT]
    by_cases hn : n = 0
    ·have hn' : ((0 : Nat) : Int) = 0 := rfl
     simp only [hn, hn', GMb, GMc, HPa, HPc, HPd, HPe, HPz, Nat.reduceAdd, Nat.reduceLT, hai, if_true, Dq hx, Be]
    ·have hn' : ¬ (n : Int) = 0 := by omega
     simp only [hn', hn, GMb, GMc, HPa, HPc, HPd, HPe, HPz, Nat.reduceAdd, Nat.reduceLT, and_false, if_false]
     exact go (fun hc => hn hc.2)
   ·have hai' : ¬ (i : Int) > (a : Int) := by omega
    simp only [hai', GMb, GMc, HPa, HPc, HPd, HPe, HPz, Nat.reduceAdd, Nat.reduceLT, hai, false_and, if_false]
    exact go (fun hc => hai hc.1)
  | false =>
   simp only [GMb, GMc, HPa, HPc, HPd, HPe, HPz, Nat.reduceAdd, Nat.reduceLT, De hx, Bool.false_eq_true, if_false]
   by_cases hia : i = a
   ·have hia' : (i : Int) = (a : Int) := by omega
    have hcat : Af .none .add (.str [48]) (.str rest) = some (.str (48 :: rest)) := Bm (by simp only [List.length_cons, List.length_nil]; omega)
    rw [if_pos hia]
    simp only [hia', GMb, GMc, HPa, HPc, HPd, HPe, HPz, Nat.reduceAdd, Nat.reduceLT, hcat, Dq hx, Be]
   ·have hia' : ¬ (i : Int) = (a : Int) := by omega
    obtain ⟨k1, k2⟩ := i3 (by omega)
    rw [if_neg hia]
    unfold Sh.f4y
    simp only [hia', GMb, GMc, HPa, HPc, HPd, HPe, HPz, Nat.reduceAdd, Nat.reduceLT, rd_may hR h1 h2 n (by omega)]
    cases hm : CQ st.lines level n with
    | true =>
     simp only [GMb, GMc, HPa, HPc, HPd, HPe, HPz, Nat.reduceAdd, Nat.reduceLT, if_true, Bq]
     have := rd_tell hR h1 n hm (by omega)
     unfold Sh.f32 at this ⊢
     exact this
    | false =>
     simp only [GMb, GMc, HPa, HPc, HPd, HPe, HPz, Nat.reduceAdd, Nat.reduceLT, Bool.false_eq_true, if_false, Q1 hR h1 h2 n (by omega) hll]
     obtain ⟨k, hk⟩ := Option.isSome_iff_exists.1 k2
     have hge := longS_ge hk
     have hle := longS_le hk
     have hit : Sh.f16 (.int .i64 (k : Int)) (AG H p b (rdR bx N st.law v w) i) = some (.ret (.str (AP k)), AG H p b (rdR bx N st.law v w) i) := by
      unfold Sh.f16
      simp only
      rw [if_pos ⟨by omega, by omega⟩, Lib.itoa, if_neg (by omega), Int.toNat_natCast, decN_lib]
     have hmono := decN_mono n k hge
     have hw : IntKind.i64.wrap ((i : Int) - (a : Int)) = ((i - a : Nat) : Int) := by rw [Ay] <;> omega
     have hklen := decN_len k
     have hcat : Af .none .add (.str ((AP k).drop (i - a))) (.str rest) = some (.str ((AP k).drop (i - a) ++ rest)) := Bm (by rw [List.length_drop]; omega)
     simp only [hk, Option.getD_some, hit, GMb, GMc, HPa, HPc, HPd, HPe, HPz, Nat.reduceAdd, Nat.reduceLT, De hx, hw, CN (show i - a ≤ (AP k).length by omega), hcat, Dq hx, Be]

end
end Go.Gm
namespace Go.Gm
end Go.Gm
namespace Go.Gm
end Go.Gm
namespace Go.Gm
theorem Kr {r : Nat} (h : r < 10) : (UInt8.ofNat (48 + r)).toNat = 48 + r := UInt8.toNat_ofNat_of_lt' (show 48 + r < 256 by omega)
theorem QW (n : Nat) : ES (AP n) = n := by
 induction n using Nat.strongRecOn with
 | ind n ih =>
  by_cases hn : n < 10
  ·rw [CX hn]
   have := K4 [] (UInt8.ofNat (48 + n))
   rw [List.nil_append, Kr hn, show ES [] = 0 from rfl] at this
   rw [this]; omega
  ·rw [CY hn, K4, ih (n / 10) (by omega), Kr (Nat.mod_lt _ (by omega))]
   omega
theorem decN_dig (n : Nat) : ∀ c ∈ AP n, EV c = true := by
 induction n using Nat.strongRecOn with
 | ind n ih =>
  intro c hc
  by_cases hn : n < 10
  ·rw [CX hn, List.mem_singleton] at hc
   rw [hc, Fo, Kr hn]; omega
  ·rw [CY hn] at hc
   rcases List.mem_append.1 hc with h | h
   ·exact ih (n / 10) (by omega) c h
   ·have := Nat.mod_lt n (show 10 > 0 by omega)
    rw [List.mem_singleton.1 h, Fo, Kr this]; omega
end Go.Gm
namespace Go.Gm
theorem decN_inj {m n : Nat} (h : AP m = AP n) : m = n := by
 have := congrArg ES h
 rwa [QW, QW] at this
theorem dec_pre {m : Nat} (hm : m ≠ 0) : ∀ (k : Nat), (∃ s, AP k = AP m ++ s) ↔ ∃ j, k / 10 ^ j = m := by
 intro k
 constructor
 ·intro h
  induction k using Nat.strongRecOn with
  | _ k ih =>
   obtain ⟨s, h⟩ := h
   rcases List.eq_nil_or_concat s with hs | ⟨s', c, hs⟩
   ·rw [hs, List.append_nil] at h; exact ⟨0, by simp [decN_inj h]⟩
   ·rw [List.concat_eq_append] at hs
    subst hs
    by_cases hk : k < 10
    ·rw [CX hk] at h
     have := congrArg List.length h
     have := PC m
     simp only [List.length_append, List.length_singleton] at *; omega
    ·rw [CY hk, ← List.append_assoc] at h
     obtain ⟨h1, _⟩ := List.append_inj' h rfl
     obtain ⟨j, hj⟩ := ih (k / 10) (by omega) ⟨s', h1⟩
     exact ⟨j + 1, by rw [Nat.pow_succ, Nat.mul_comm, ← Nat.div_div_eq_div_mul]; exact hj⟩
 ·rintro ⟨j, h⟩
  have hp : 0 < 10 ^ j := Nat.pow_pos (by decide)
  have e : k = m * 10 ^ j + k % 10 ^ j := by rw [← h, Nat.mul_comm]; exact (Nat.div_add_mod k (10 ^ j)).symm
  have hj := QX (q := m) (by omega) j (k % 10 ^ j) (Nat.mod_lt _ hp)
  rw [← e] at hj
  exact ⟨_, hj⟩
theorem longF_iff (lines : List (Nat × Int)) (level : Int) : ∀ (f j m : Nat), m ≠ 0 → lines.length + 1 - m * 10 ^ j ≤ f → ((Fz lines level f (m * 10 ^ j) (m * 10 ^ j + 10 ^ j - 1)).isSome = true ↔ ∃ k j', j ≤ j' ∧ k / 10 ^ j' = m ∧ k ≤ lines.length ∧ CQ lines level k = true) := by
 intro f
 induction f with
 | zero =>
  intro j m hm hf
  constructor
  ·intro h; cases h
  ·rintro ⟨k, j', h1, h2, h3, h4⟩
   have hp : 10 ^ j ≤ 10 ^ j' := Nat.pow_le_pow_right (by decide) h1
   have : m * 10 ^ j' ≤ k := by rw [← h2]; exact Nat.div_mul_le_self k _
   have : m * 10 ^ j ≤ m * 10 ^ j' := Nat.mul_le_mul_left _ hp
   omega
 | succ f ih =>
  intro j m hm hf
  have hp : 0 < 10 ^ j := Nat.pow_pos (by decide)
  have hmp : 1 ≤ m * 10 ^ j := Nat.mul_pos (by omega) hp
  have e1 : m * 10 ^ j * 10 = m * 10 ^ (j + 1) := by rw [Nat.pow_succ, Nat.mul_assoc]
  have e2 : (m * 10 ^ j + 10 ^ j - 1) * 10 + 9 = m * 10 ^ (j + 1) + 10 ^ (j + 1) - 1 := by rw [← e1, Nat.pow_succ]; omega
  unfold Fz
  by_cases hl : m * 10 ^ j ≤ lines.length
  ·rw [if_pos hl]
   cases hfd : (List.range (min (m * 10 ^ j + 10 ^ j - 1) lines.length + 1 - m * 10 ^ j)).find? (fun i => CQ lines level (m * 10 ^ j + i)) with
   | some i =>
    have hmem := List.mem_of_find?_eq_some hfd
    have hmay := List.find?_some hfd
    rw [List.mem_range] at hmem
    simp only [Option.isSome_some, true_iff]
    refine ⟨m * 10 ^ j + i, j, Nat.le_refl _, ?_, by omega, hmay⟩
    have : i < 10 ^ j := by omega
    rw [Nat.mul_comm, Nat.mul_add_div hp, Nat.div_eq_of_lt this, Nat.add_zero]
   | none =>
    simp only
    rw [e1, e2, ih (j + 1) m hm (by rw [← e1]; omega)]
    constructor
    ·rintro ⟨k, j', h1, h2, h3, h4⟩; exact ⟨k, j', by omega, h2, h3, h4⟩
    ·rintro ⟨k, j', h1, h2, h3, h4⟩
     by_cases hj : j = j'
     ·exfalso
      subst hj
      have hk : k = m * 10 ^ j + k % 10 ^ j := by rw [← h2, Nat.mul_comm]; exact (Nat.div_add_mod k (10 ^ j)).symm
      have hr : k % 10 ^ j < 10 ^ j := Nat.mod_lt _ hp
      have := List.find?_eq_none.1 hfd (k % 10 ^ j) (by rw [List.mem_range]; omega)
      rw [← hk] at this
      exact this h4
     ·exact ⟨k, j', by omega, h2, h3, h4⟩
  ·rw [if_neg hl]
   constructor
   ·intro h; cases h
   ·rintro ⟨k, j', h1, h2, h3, h4⟩
    have hpp : 10 ^ j ≤ 10 ^ j' := Nat.pow_le_pow_right (by decide) h1
    have : m * 10 ^ j' ≤ k := by rw [← h2]; exact Nat.div_mul_le_self k _
    have : m * 10 ^ j ≤ m * 10 ^ j' := Nat.mul_le_mul_left _ hpp
    omega
theorem mayB_le2 {lines : List (Nat × Int)} {level : Int} {n : Nat} (hl : level ≠ 1) (h : CQ lines level n = true) : n ≤ lines.length := by
 unfold CQ at h
 rw [if_neg hl] at h
 split at h
 ·omega
 ·split at h
  ·rename_i hq
   have := (List.getElem?_eq_some_iff.1 hq).1; omega
  ·cases h
theorem longS_iff (lines : List (Nat × Int)) (level : Int) (m : Nat) : (EF lines level m).isSome = true ↔ ∃ k s, AP k = AP m ++ s ∧ CQ lines level k = true := by
 unfold EF
 by_cases hm : CQ lines level m = true
 ·rw [if_pos hm]
  exact ⟨fun _ => ⟨m, [], by simp, hm⟩, fun _ => rfl⟩
 ·have hm0 : m ≠ 0 := fun e => hm (by rw [e]; exact Q6 _ _)
  rw [if_neg hm, if_neg hm0]
  have key := longF_iff lines level (lines.length + 1) 1 m hm0 (by omega)
  rw [Nat.pow_one, show m * 10 + 10 - 1 = m * 10 + 9 by omega] at key
  rw [key]
  constructor
  ·rintro ⟨k, j, h1, h2, h3, h4⟩
   obtain ⟨s, hs⟩ := (dec_pre hm0 k).2 ⟨j, h2⟩
   exact ⟨k, s, hs, h4⟩
  ·rintro ⟨k, s, hs, h4⟩
   obtain ⟨j, hj⟩ := (dec_pre hm0 k).1 ⟨s, hs⟩
   by_cases hj0 : j = 0
   ·exfalso; apply hm; rw [hj0, Nat.pow_zero, Nat.div_one] at hj; rw [← hj]; exact h4
   ·by_cases hl : level = 1
    ·exfalso
     have hk : k ≤ 255 := by unfold CQ at h4; rw [if_pos hl] at h4; exact of_decide_eq_true h4
     apply hm
     unfold CQ
     rw [if_pos hl, decide_eq_true_eq]
     have : m ≤ k := by rw [← hj]; exact Nat.div_le_self _ _
     omega
    ·exact ⟨k, j, by omega, hj, mayB_le2 hl h4, h4⟩
end Go.Gm
namespace Go.Gm
def Fi (er : Er) : Prop := ∀ e, er = some e → 0 < e.1 ∧ e.1 ≤ 4
theorem Fi.none : Fi none := fun e h => by cases h
theorem Fi.stp (b : List UInt8) (a : Nat) (s : List UInt8) : Fi (some (Fs b a s)) := fun e h => by
 injection h with h; subst h; unfold Fs; split <;> simp
theorem Fi.lim : Fi (some (4, [])) := fun e h => by injection h with h; subst h; simp
theorem LO (b : List UInt8) (a : Nat) (s rest : List UInt8) : Fi (BA b a s rest).1 := by
 unfold BA; split
 ·exact .stp _ _ _
 ·exact .none
theorem endS_er (b : List UInt8) (a : Nat) (rest : List UInt8) : Fi (Hw b a rest).1 := by
 unfold Hw; split
 ·exact .none
 ·split
  ·exact .none
  ·exact .stp _ _ _
theorem rulS_er (b : List UInt8) (f : Nat) (rest : List UInt8) : Fi (NO b f rest).1 := by
 unfold NO; split
 ·exact .stp _ _ _
 ·exact .none
theorem numS_er (b : List UInt8) (f : Nat) (rest : List UInt8) : ∀ n a, Fi (Lo b f rest n a).1
 | 0, a => .none
 | n + 1, a => by
  unfold Lo
  split
  ·split
   ·exact .stp _ _ _
   ·split
    ·exact .lim
    ·exact numS_er b f rest n (a + 1)
  ·split
   ·exact .stp _ _ _
   ·exact .none
theorem intS_er (b : List UInt8) (a : Nat) (neg : Bool) (rest : List UInt8) : Fi (Gf b a neg rest).1 := by
 unfold Gf; split
 ·exact .stp _ _ _
 ·exact numS_er _ _ _ _ _
theorem markS_er (b : List UInt8) (a : Nat) (st : MSt) : Fi (Pa b a st).1.1 := by
 unfold Pa
 split
 ·exact .none
 ·split
  ·have := LO b (a + 1) [71, 32] [49]
   generalize BA b (a + 1) [71, 32] [49] = M at this
   obtain ⟨er, c⟩ := M
   cases er with
   | some e => exact this
   | none => exact intS_er _ _ _ _
  ·split
   ·have := LO b (a + 1) [82, 32] [97]
    generalize BA b (a + 1) [82, 32] [97] = M at this
    obtain ⟨er, c⟩ := M
    cases er with
    | some e => exact this
    | none =>
     have := rulS_er b c []
     dsimp only
     generalize NO b c [] = M at this
     obtain ⟨er, d⟩ := M
     cases er with
     | some e => exact this
     | none => exact .none
   ·exact .stp _ _ _
theorem Pr (b : List UInt8) : ∀ n a x y on, Fi (DH b n a x y on).1
 | 0, a, x, y, on => .none
 | n + 1, a, x, y, on => by
  unfold DH
  split
  ·split
   ·exact .stp _ _ _
   ·split
    ·exact Pr b n _ _ _ _
    ·exact Pr b n _ _ _ _
  ·exact .none
theorem leafS_er (b : List UInt8) (a : Nat) (st : MSt) : Fi (Pq b a st).1.1 := by
 unfold Pq
 have := Pr b (b.length + 1 - a) a 0 0 (List.replicate 64 false)
 generalize DH b (b.length + 1 - a) a 0 0 (List.replicate 64 false) = M at this
 obtain ⟨er, c, on⟩ := M
 cases er with
 | some e => exact this
 | none => exact .none
theorem levF_er (b : List UInt8) : ∀ k a n, Fi (FK b k a n).1
 | 0, a, n => .none
 | k + 1, a, n => by
  unfold FK
  split
  ·split
   ·exact .lim
   ·exact levF_er b k _ _
  ·split
   ·exact .stp _ _ _
   ·exact .none
theorem levelS_er (b : List UInt8) (a : Nat) : Fi (BT b a).1 := by
 unfold BT; split
 ·exact .stp _ _ _
 ·exact levF_er _ _ _ _
theorem kidF_er (b : List UInt8) (lines : List (Nat × Int)) (level : Int) (f : Nat) (rest : List UInt8) : ∀ k a n, Fi (G4 b lines level f rest k a n).1
 | 0, a, n => .none
 | k + 1, a, n => by
  unfold G4
  split
  ·split
   ·exact .stp _ _ _
   ·split
    ·exact kidF_er b lines level f rest k _ _
    ·exact .stp _ _ _
  ·split
   ·exact .stp _ _ _
   ·split
    ·exact .none
    ·exact .stp _ _ _
theorem kidS_er (b : List UInt8) (a : Nat) (lines : List (Nat × Int)) (level : Int) (rest : List UInt8) : Fi (LT b a lines level rest).1 := kidF_er _ _ _ _ _ _ _ _
theorem kidsF_er (b : List UInt8) (lines : List (Nat × Int)) (level : Int) : ∀ d k a x rest, Fi (DX b lines level d k a x rest).1
 | 0, k, a, x, rest => .none
 | d + 1, k, a, x, rest => by
  unfold DX
  have := LO b a [32] (48 :: rest)
  generalize BA b a [32] (48 :: rest) = M at this
  obtain ⟨er, c⟩ := M
  cases er with
  | some e => exact this
  | none =>
   dsimp only
   have := kidS_er b c lines level rest
   generalize LT b c lines level rest = M at this
   obtain ⟨er, c', n⟩ := M
   cases er with
   | some e => exact this
   | none => exact kidsF_er b lines level d _ _ _ _
theorem nodeS_er (b : List UInt8) (a : Nat) (st : MSt) : Fi (LM b a st).1.1 := by
 unfold LM
 have := levelS_er b a
 generalize BT b a = M at this
 obtain ⟨er, c, v⟩ := M
 cases er with
 | some e => exact this
 | none =>
  dsimp only
  have := kidsF_er b st.lines v 4 0 c ⟨v, 0, 0, 0, 0⟩ [32, 48, 32, 48, 32, 48]
  generalize DX b st.lines v 4 0 c ⟨v, 0, 0, 0, 0⟩ [32, 48, 32, 48, 32, 48] = M at this
  obtain ⟨er, c', x⟩ := M
  cases er with
  | some e => exact this
  | none => exact .none
theorem lineS_er (b : List UInt8) (N : Int) (a : Nat) (st : MSt) : Fi (rlS b N a st).1.1 := by
 unfold rlS
 split
 ·exact markS_er _ _ _
 ·split
  ·exact .lim
  ·split
   ·exact leafS_er _ _ _
   ·exact nodeS_er _ _ _
theorem oneS_er (b : List UInt8) (N : Int) (a : Nat) (st : MSt) : Fi (M4 b N a st).1.1 := by
 unfold M4
 have := lineS_er b N a st
 generalize rlS b N a st = M at this
 obtain ⟨⟨er, c⟩, st'⟩ := M
 cases er with
 | some e => exact this
 | none => exact endS_er _ _ _
theorem QC (b : List UInt8) (N : Int) : ∀ k a st, Fi (Dl b N k a st).1.1
 | 0, a, st => .none
 | k + 1, a, st => by
  unfold Dl
  split
  ·exact .none
  ·have := oneS_er b N a st
   generalize M4 b N a st = M at this
   obtain ⟨⟨er, c⟩, st'⟩ := M
   cases er with
   | some e => exact this
   | none => exact QC b N k _ _
theorem allS_er (b : List UInt8) (N : Int) (st : MSt) : Fi (GJ b N st).1.1 := by
 unfold GJ
 have := LO b 0 Cs []
 generalize BA b 0 Cs [] = M at this
 obtain ⟨er, c⟩ := M
 cases er with
 | some e => exact this
 | none =>
  dsimp only
  have := endS_er b (FL b c) []
  generalize Hw b (FL b c) [] = M at this
  obtain ⟨er, d⟩ := M
  cases er with
  | some e => exact this
  | none => exact QC _ _ _ _ _
end Go.Gm
namespace Go.Gm
end Go.Gm
namespace Go.Gm
def ats (st : MSt) : List Nat := st.lines.map (·.1)
def lvs (st : MSt) : List Int := st.lines.map (·.2)
def sttC (law : List UInt8) (v1 v2 v3 : Aa) : List Aa := [.str law, v1, v2, v3]
structure SR (b0 : Nat) (st : MSt) (v1 v2 v3 : Aa) (H : Ab) : Prop where
 nodes : RS cNd Aq 5 b0 st.nodes v1 H
 ats : RS cN Dk 1 b0 (ats st) v2 H
 lvs : RS cI Dk 1 b0 (lvs st) v3 H
 apart : ∀ i es es', v2 = .sl es (.own i) → v3 ≠ .sl es' (.own i)
theorem SR.push {b0 : Nat} {st : MSt} {v1 v2 v3 : Aa} {H : Ab} (h : SR b0 st v1 v2 v3 H) (G : Ab) : SR b0 st v1 v2 v3 (H ++ G) :=
 ⟨h.nodes.left G, h.ats.left G, h.lvs.left G, h.apart⟩
theorem SR.put {b0 p : Nat} {st : MSt} {v1 v2 v3 : Aa} {H : Ab} {c c' : List Aa} (h : SR b0 st v1 v2 v3 H) (hp : H[p]? = some (.cel 0 c)) : SR b0 st v1 v2 v3 (H.set p (.cel 0 c')) :=
 ⟨h.nodes.put hp, h.ats.put hp, h.lvs.put hp, h.apart⟩
theorem SR.law {b0 : Nat} {st : MSt} {v1 v2 v3 : Aa} {H : Ab} (h : SR b0 st v1 v2 v3 H) (law : List UInt8) : SR b0 { st with law := law } v1 v2 v3 H := ⟨h.nodes, h.ats, h.lvs, h.apart⟩
end Go.Gm
namespace Go.Gm
section
variable {lines : List (Nat × Int)} {level : Int}
end
end Go.Gm
namespace Go.Gm
theorem GL.refl (v : Aa) (H : Ab) : GL v v H H := ⟨Nat.le_refl _, fun _ _ _ => rfl, fun i es h => .inr ⟨es, h⟩⟩
theorem GL.trans {v v' v'' : Aa} {H H' H'' : Ab} (h : GL v v' H H') (h' : GL v' v'' H' H'') : GL v v'' H H'' :=
 ⟨Nat.le_trans h.len h'.len, fun i hi hn => by
  rw [h'.keep i (Nat.lt_of_lt_of_le hi h.len) fun es e => ?_, h.keep i hi hn]
  rcases h.own i es e with h1 | ⟨es', h1⟩
  ·omega
  ·exact hn es' h1,
  fun i es e => by
  rcases h'.own i es e with h1 | ⟨es', h1⟩
  ·exact .inl (Nat.le_trans h.len h1)
  ·exact h.own i es' h1⟩
theorem GL.app (v : Aa) (H G : Ab) : GL v v H (H ++ G) := ⟨by simp, fun i hi _ => List.getElem?_append_left hi, fun i es h => .inr ⟨es, h⟩⟩
theorem GL.set {v v' : Aa} {H H' : Ab} {p : Nat} {B : Blk} (h : GL v v' H H') (hp : H.length ≤ p) : GL v v' H (H'.set p B) :=
 ⟨by rw [List.length_set]; exact h.len, fun i hi hn => by rw [List.getElem?_set_ne (by omega)]; exact h.keep i hi hn, h.own⟩
section
variable {α β : Type} {f : α → List Aa} {ty : TypeId} {sz : Nat}
theorem RS.lt {b i : Nat} {out : List α} {v : Aa} {H : Ab} {es : List (List Aa)} (h : RS f ty sz b out v H) (e : v = .sl es (.own i)) : i < H.length := by
 rcases h with ⟨_, k⟩ | ⟨t, _, k2, k3⟩
 ·rw [k] at e; injection e with _ e; cases e
 ·rw [k2] at e; injection e with _ e; injection e with e
  rw [← e]; exact (List.getElem?_eq_some_iff.1 k3).1

end
section
variable {b0 : Nat} {st : MSt} {v1 v2 v3 : Aa} {H : Ab}
end
end Go.Gm
namespace Go.Gm
def cW (t : Bool) : List Aa := [.int .i64 (if t then 1 else 0)]
instance : Sz cW 1 := ⟨fun _ => rfl⟩
instance : Pl cW := ⟨fun _ => rfl⟩
section
variable {b0 : Nat}
end
end Go.Gm
namespace Go.Gm
section
variable {b0 : Nat} {st : MSt} {v1 v2 v3 : Aa} {H : Ab}
end
end Go.Gm
namespace Go.Gm
section
variable {b0 : Nat} {st : MSt} {v1 v2 v3 : Aa} {H : Ab}
end
end Go.Gm
namespace Go.Gm
theorem kidS_le {b : List UInt8} {a : Nat} (ha : a ≤ b.length) (lines : List (Nat × Int)) (level : Int) (rest : List UInt8) : a ≤ (LT b a lines level rest).2.1 ∧ (LT b a lines level rest).2.1 ≤ b.length := kidF_le b lines level a rest _ a 0 ha
theorem litN_ge (b : List UInt8) (a : Nat) (s : List UInt8) : a ≤ Ho b a s := Nat.le_add_right _ _
theorem Ps (b : List UInt8) (lines : List (Nat × Int)) (level : Int) : ∀ d k a x rest, a ≤ b.length → a ≤ (DX b lines level d k a x rest).2.1 ∧ (DX b lines level d k a x rest).2.1 ≤ b.length ∧ (DX b lines level d k a x rest).2.2.lv = x.lv
 | 0, k, a, x, rest, h => ⟨Nat.le_refl _, h, rfl⟩
 | d + 1, k, a, x, rest, h => by
  unfold DX
  have h1 := litN_ge b a [32]
  have h2 := Hn h [32]
  have e : (BA b a [32] (48 :: rest)).2 = Ho b a [32] := rfl
  generalize BA b a [32] (48 :: rest) = M at e
  obtain ⟨er, c⟩ := M
  dsimp only at e
  subst e
  cases er with
  | some e => exact ⟨h1, h2, rfl⟩
  | none =>
   dsimp only
   have h3 := kidS_le h2 lines level rest
   generalize LT b (Ho b a [32]) lines level rest = M at h3
   obtain ⟨er, c', n⟩ := M
   dsimp only at h3
   cases er with
   | some e => exact ⟨by dsimp only; omega, by dsimp only; omega, rfl⟩
   | none =>
    have := Ps b lines level d (k + 1) c' (x.setKid k (n : Int)) (rest.drop 2) (by omega)
    rw [DD] at this
    exact ⟨by dsimp only; omega, by dsimp only; omega, by dsimp only; exact this.2.2⟩
section
variable {b0 p a : Nat} {b : List UInt8} {bx N : Int} {st : MSt} {H : Ab}
noncomputable def nodeT (H0 : Ab) (r_9 n_10 : Aa) (H13 : Ab) : Out :=
 bC (Ad true 5 n_10 H13) (fun _ => True) fun x32 =>
 BZ (Sh.fg r_9 x32 H13) fun x33 H34 =>
 (Ae r_9).bind fun x35 =>
 (Ac 6 x35).bind fun x36 =>
 bC (Ad false 1 x36 H34) (fun x37 => Ad false 1 x36 H13 = some x37 ∧ True) fun x37 =>
 (Ac 0 n_10).bind fun x38 =>
 bC (Ad false 1 x38 H34) (fun x39 => Ad false 1 x38 H13 = some x39 ∧ True) fun x39 =>
 (A5 (some [(.int .i64 0), (.int .i64 0)]) [(0, 1, x33), (1, 1, x39)]).bind fun x40 =>
 (AD 2 [x40]).bind fun x41 =>
 BZ (B5 (AE CC 2 16 x37 x41 H34)) fun x42 H43 =>
 (Ae r_9).bind fun x44 =>
 (Ac 6 x44).bind fun x45 =>
 bK H0 (AJ (Ak 1 x45 x42 H43)) fun _ H47 =>
 rK H0 (.tup []) H47
theorem node_loop {v w : Aa} (h : RDx b0 p b a bx N st v w H) (ha : a ≤ b.length) (hb : b.length < 1152921504606846976) {level : Int} (h1 : 1 ≤ level) (h2 : level ≤ 1329) (hll : st.lines.length < 3000000000000) (H0 : Ab) (x : Nd) (hx : x.lv = level) (rest : List UInt8) (hr : rest.length ≤ 100) :
  Ao (fun rec1 vs H1 => Sh.f33 H0 rec1 (ag vs 0) (ag vs 1) (ag vs 2) (ag vs 3) H1) AI [.ptr p 0 0, .ptr H.length 0 0, .str rest, .int .i64 0] (H ++ [.cel 0 (cNd x)]) =
   match DX b st.lines level 4 0 a x rest with
   | (some e, c, x') => some (.pan (hv e), AG H p b (rdR bx N st.law v w) c ++ [.cel 0 (cNd x')])
   | (none, c, x') => nodeT H0 (.ptr p 0 0) (.ptr H.length 0 0) (AG H p b (rdR bx N st.law v w) c ++ [.cel 0 (cNd x')]) := by
 have key := Bl (G := fun rec1 vs H1 => Sh.f33 H0 rec1 (ag vs 0) (ag vs 1) (ag vs 2) (ag vs 3) H1) (σ := Nat × Nat × Nd × List UInt8) (fun s => s.1 ≤ 4 ∧ s.2.1 ≤ b.length ∧ s.2.2.1.lv = level ∧ s.2.2.2.length ≤ 100)
  (fun s => [.ptr p 0 0, .ptr H.length 0 0, .str s.2.2.2, .int .i64 (s.1 : Int)]) (fun s => AG H p b (rdR bx N st.law v w) s.2.1 ++ [.cel 0 (cNd s.2.2.1)]) (fun s => 4 - s.1)
  (fun s => match DX b st.lines level (4 - s.1) s.1 s.2.1 s.2.2.1 s.2.2.2 with
   | (some e, c, x') => some (.pan (hv e), AG H p b (rdR bx N st.law v w) c ++ [.cel 0 (cNd x')])
   | (none, c, x') => nodeT H0 (.ptr p 0 0) (.ptr H.length 0 0) (AG H p b (rdR bx N st.law v w) c ++ [.cel 0 (cNd x')])) (fun s rec hi hrec => ?_) (0, a, x, rest) ⟨by simp, ha, hx, hr⟩ (by dsimp only; omega)
 ·rw [B6 h.lx] at key; exact key
 ·obtain ⟨k, i, x, rest⟩ := s
  obtain ⟨i0, i1, i2, i3⟩ := hi
  dsimp only at i0 i1 i2 i3 hrec ⊢
  have hlen : ∀ c, (AG H p b (rdR bx N st.law v w) c).length = H.length := fun c => Fv H p c b _
  have hp := h.lt
  have hpp : ∀ c e (G : Ab), AG (AG H p b (rdR bx N st.law v w) c ++ G) p b (rdR bx N st.law v w) e = AG H p b (rdR bx N st.law v w) e ++ G := fun c e G => by
   rw [Mu (by rw [hlen]; exact hp), Kq]
  have hR := fun c => (h.go c [.cel 0 (cNd x)]).1
  have hcell : ∀ c, (AG H p b (rdR bx N st.law v w) c ++ [Blk.cel 0 (cNd x)])[H.length]? = some (.cel 0 (cNd x)) := fun c => by rw [← hlen c]; exact AA
  unfold Sh.f33
  by_cases hk : k < 4
  ·have hk' : (k : Int) < 4 := by omega
   have hcat : Af .none .add (.str [48]) (.str rest) = some (.str (48 :: rest)) := Bm (by simp only [List.length_cons, List.length_nil]; omega)
   have hmust := LR (hR i).lx i1 hb [32] (48 :: rest) (by decide) (by simp only [List.length_cons]; omega)
   rw [hpp] at hmust
   have e : (BA b i [32] (48 :: rest)).2 ≤ b.length := Hn i1 [32]
   rw [show 4 - k = (3 - k) + 1 by omega]
   unfold DX
   simp only [hk', GMb, GMc, HPa, HPc, HPd, HPe, HPz, Nat.reduceAdd, Nat.reduceLT, hcat, hmust]
   generalize BA b i [32] (48 :: rest) = M at e
   obtain ⟨er, c⟩ := M
   dsimp only at e ⊢
   cases er with
   | some e => simp only [Be, GMb, GMc, HPa, HPc, HPd, HPe, HPz, Nat.reduceAdd, Nat.reduceLT]
   | none =>
    obtain ⟨y, k1, k2⟩ := rd_kid (hR c) e hb h1 h2 hll rest (by omega)
    have h3 := kidS_le e st.lines level rest
    rw [hpp] at k1
    have hlv := F0 (hcell c)
    rw [i2] at hlv
    simp only [Bq, GMb, GMc, HPa, HPc, HPd, HPe, HPz, Nat.reduceAdd, Nat.reduceLT, hlv, k1]
    generalize LT b c st.lines level rest = M at h3 k2
    obtain ⟨er, c', n⟩ := M
    dsimp only at h3 k2 ⊢
    cases er with
    | some e => simp only [Be, GMb, GMc, HPa, HPc, HPd, HPe, HPz, Nat.reduceAdd, Nat.reduceLT]
    | none =>
     obtain rfl := k2 rfl
     have hst := Cv (c := (n : Int)) (hcell c') hk
     rw [← hlen c', BU, hlen c'] at hst
     have hmin : FW LP (.int .i64 2) [.int .i64 (rest.length : Int)] = some (.int .i64 ((min 2 rest.length : Nat) : Int)) := by rw [min_int]; congr 2; omega
     have hdr : rest.drop (min 2 rest.length) = rest.drop 2 := by
      by_cases hl : 2 ≤ rest.length
      ·rw [Nat.min_eq_left hl]
      ·rw [List.drop_of_length_le (by omega), List.drop_of_length_le (by omega)]
     have := hrec (k + 1, c', x.setKid k (n : Int), rest.drop 2) ⟨by dsimp only; omega, by dsimp only; omega, by rw [DD]; exact i2, by simp only [List.length_drop]; omega⟩ (by dsimp only; omega)
     dsimp only at this
     rw [show 4 - (k + 1) = 3 - k by omega] at this
     simp only [Bq, GMb, GMc, HPa, HPc, HPd, HPe, HPz, Nat.reduceAdd, Nat.reduceLT, Du hk, hst, hmin, CN (show min 2 rest.length ≤ rest.length by omega), hdr, Au (show k < 9223372036854775807 by omega)]
     exact this
  ·have hk' : ¬ (k : Int) < 4 := by omega
   rw [show 4 - k = 0 by omega]
   unfold DX nodeT
   simp only [hk', GMb, GMc, HPa, HPc, HPd, HPe, HPz, Nat.reduceAdd, Nat.reduceLT]
theorem rd_node (h : RD b0 p b a bx N st H) (ha : a ≤ b.length) (hb : b.length < 1152921504606846976) (hn : st.nodes.length < 3000000000000) (hll : st.lines.length < 3000000000000) : Nm b0 p b bx N H (Sh.f1q (.ptr p 0 0) H) (.tup []) (LM b a st) := by
 obtain ⟨v, w, h⟩ := h
 unfold Sh.f1q Nm LM
 have hlev := lx_level h.lx ha hb
 have hle : (BT b a).2.1 ≤ b.length := by
  unfold BT
  split
  ·exact ha
  ·exact (Of b _ a 0 ha).2
 have hok : (BT b a).1 = none → 0 < (BT b a).2.2 ∧ (BT b a).2.2 ≤ 1329 := by
  unfold BT
  split
  ·intro e; cases e
  ·intro e; exact levF_ok b _ a 0 (by omega) ha (by omega) e
 simp only [hlev]
 generalize BT b a = M at hle hok
 obtain ⟨er, c, lv⟩ := M
 dsimp only at hle hok ⊢
 obtain ⟨h1, e1⟩ := h.go0 c
 cases er with
 | some e =>
  simp only [Be, GMb, GMc, HPa, HPc, HPd, HPe, HPz, Nat.reduceAdd, Nat.reduceLT]
  exact ⟨_, rfl, e1, _, _, h1⟩
 | none =>
  obtain ⟨l1, l2⟩ := hok rfl
  have hbd : A5 (some [(.int .i64 0), (.int .i64 0), (.int .i64 0), (.int .i64 0), (.int .i64 0)]) [(0, 1, .int .i64 (lv : Int))] = some (.agg (cNd ⟨(lv : Int), 0, 0, 0, 0⟩)) := rfl
  have hloop := node_loop h1 hle hb (level := (lv : Int)) (by omega) (by omega) hll H ⟨(lv : Int), 0, 0, 0, 0⟩ rfl [32, 48, 32, 48, 32, 48] (by decide)
  simp only [Bq, GMb, GMc, hbd, FB, Ev (AA (cs := cNd nd0)) rfl, BU]
  rw [hloop]
  have hkl := Ps b st.lines (lv : Int) 4 0 c ⟨(lv : Int), 0, 0, 0, 0⟩ [32, 48, 32, 48, 32, 48] hle
  generalize DX b st.lines (lv : Int) 4 0 c ⟨(lv : Int), 0, 0, 0, 0⟩ [32, 48, 32, 48, 32, 48] = M at hkl
  obtain ⟨er, c', x⟩ := M
  dsimp only at hkl ⊢
  obtain ⟨h2, e2⟩ := h1.go c' [.cel 0 (cNd x)]
  cases er with
  | some e => exact ⟨_, rfl, e1.trans e2, _, _, h2⟩
  | none =>
   dsimp only
   have hlen : (AG (AG H p b (rdR bx N st.law v w) c) p b (rdR bx N st.law v w) c').length = (AG H p b (rdR bx N st.law v w) c).length := Fv _ _ _ _ _
   have hcell : (AG (AG H p b (rdR bx N st.law v w) c) p b (rdR bx N st.law v w) c' ++ [Blk.cel 0 (cNd x)])[(AG H p b (rdR bx N st.law v w) c).length]? = some (.cel 0 (cNd x)) := by rw [← hlen]; exact AA
   have hqp : (AG H p b (rdR bx N st.law v w) c).length ≠ p := by have := h1.lt; omega
   have hld1 := Bv (o := 6) (sz := 1) h2.lx
   generalize AG (AG H p b (rdR bx N st.law v w) c) p b (rdR bx N st.law v w) c' ++ [Blk.cel 0 (cNd x)] = H2 at *
   generalize (AG H p b (rdR bx N st.law v w) c).length = q at *
   obtain ⟨H3, s1, s2, v3, s3⟩ := rd_put (w := w) ⟨v, h2⟩ x hn
   have hcell3 := s2.cel q _ hqp hcell
   have hld2 := Bv (o := 6) (sz := 1) s3.lx
   obtain ⟨w4, H4, t1, t2, t3, t4⟩ := rd_line s3 (st.nodes.length + 1, (lv : Int)) hll
   have hl1 := F0 hcell
   have hl2 := F0 hcell3
   rw [hkl.2.2] at hl1 hl2
   unfold nodeT
   simp only [GMb, GMc, HPa, HPc, HPd, HPe, HPz, Nat.reduceAdd, Nat.reduceLT, Ds hcell, s1, hld1, hld2, rdR, hl1, hl2, build_ln, Re, t1, t2]
   exact ⟨_, rfl, ((e1.trans e2).trans s2).trans t3, t4⟩

end
end Go.Gm
namespace Go.Gm
structure PO (b : List UInt8) (a : Nat) (st : MSt) (s : (Er × Nat) × MSt) : Prop where
 le : s.1.2 ≤ b.length
 go : s.1.1 = none → a < s.1.2
 nd : s.2.nodes.length ≤ st.nodes.length + 21
 ln : s.2.lines.length ≤ st.lines.length + 1
theorem markS_ok {b : List UInt8} {a : Nat} (ha : a < b.length) (st : MSt) : PO b a st (Pa b a st) := by
 have hle : a + 1 ≤ b.length := ha
 unfold Pa
 split
 ·exact ⟨anyN_le hle, fun _ => by show a < FL b (a + 1); unfold FL; omega, by dsimp only; omega, by dsimp only; omega⟩
 ·split
  ·have hM := Hn hle [71, 32]
   have hG := litN_ge b (a + 1) [71, 32]
   have e : (BA b (a + 1) [71, 32] [49]).2 = Ho b (a + 1) [71, 32] := rfl
   generalize BA b (a + 1) [71, 32] [49] = M at e
   obtain ⟨er, c⟩ := M
   dsimp only at e
   subst e
   cases er with
   | some e => exact ⟨hM, fun h => (by cases h), by dsimp only; omega, by dsimp only; omega⟩
   | none => have := intS_le hM false []; exact ⟨by dsimp only; omega, fun _ => by dsimp only; omega, by dsimp only; omega, by dsimp only; omega⟩
  ·split
   ·have hM := Hn hle [82, 32]
    have hG := litN_ge b (a + 1) [82, 32]
    have e : (BA b (a + 1) [82, 32] [97]).2 = Ho b (a + 1) [82, 32] := rfl
    generalize BA b (a + 1) [82, 32] [97] = M at e
    obtain ⟨er, c⟩ := M
    dsimp only at e
    subst e
    cases er with
    | some e => exact ⟨hM, fun h => (by cases h), by dsimp only; omega, by dsimp only; omega⟩
    | none =>
     dsimp only
     have := rulS_le (rest := []) hM
     generalize NO b (Ho b (a + 1) [82, 32]) [] = M at this
     obtain ⟨er, d⟩ := M
     dsimp only at this
     cases er with
     | some e => exact ⟨this.2, fun h => (by cases h), by dsimp only; omega, by dsimp only; omega⟩
     | none => exact ⟨this.2, fun _ => by dsimp only; omega, by dsimp only; omega, by dsimp only; omega⟩
   ·exact ⟨hle, fun h => (by cases h), by dsimp only; omega, by dsimp only; omega⟩
theorem leafS_ok {b : List UInt8} {a : Nat} (ha : a < b.length) (st : MSt) (hs : A7 b a [46, 42, 36] = true) : PO b a st (Pq b a st) := by
 unfold Pq
 have hle := G3 b (b.length + 1 - a) a 0 0 (List.replicate 64 false) (by omega)
 have hgo : (DH b (b.length + 1 - a) a 0 0 (List.replicate 64 false)).1 = none → a < (DH b (b.length + 1 - a) a 0 0 (List.replicate 64 false)).2.1 := by
  rw [show b.length + 1 - a = (b.length - a) + 1 by omega]
  unfold DH
  rw [hs]
  simp only [if_true]
  split
  ·intro h; cases h
  ·split
   ·have := G3 b (b.length - a) (a + 1) 0 (0 + 1) (List.replicate 64 false) (by omega); intro _; omega
   ·have := G3 b (b.length - a) (a + 1) (0 + 1) 0 ((List.replicate 64 false).set (0 * 8 + 0) (A7 b a [42])) (by omega); intro _; omega
 generalize DH b (b.length + 1 - a) a 0 0 (List.replicate 64 false) = R at hle hgo
 obtain ⟨er, c, on⟩ := R
 cases er with
 | some e => exact ⟨hle.2.1, fun h => (by cases h), by dsimp only; omega, by dsimp only; omega⟩
 | none =>
  have := Od (onQ on) 3 0 0 st.nodes
  rw [show sqM 3 = 21 from rfl] at this
  exact ⟨hle.2.1, fun _ => hgo rfl, this, by simp⟩
theorem nodeS_ok {b : List UInt8} {a : Nat} (ha : a < b.length) (st : MSt) : PO b a st (LM b a st) := by
 unfold LM
 have hle : (BT b a).2.1 ≤ b.length := by
  unfold BT
  split
  ·exact Nat.le_of_lt ha
  ·exact (Of b _ a 0 (by omega)).2
 have hgo : (BT b a).1 = none → a < (BT b a).2.1 := by
  unfold BT
  split
  ·intro e; cases e
  ·rw [show b.length + 1 - a = (b.length - a) + 1 by omega]
   unfold FK
   cases hs : A7 b a BI with
   | true =>
    simp only [if_true]
    split
    ·intro e; cases e
    ·have := Of b (b.length - a) (a + 1) (10 * 0 + Dh b a) (by omega); intro _; omega
   | false => simp only [Bool.false_eq_true, if_false, if_true]; intro e; cases e
 generalize BT b a = M at hle hgo
 obtain ⟨er, c, lv⟩ := M
 dsimp only at hle hgo ⊢
 cases er with
 | some e => exact ⟨hle, fun h => (by cases h), by dsimp only; omega, by dsimp only; omega⟩
 | none =>
  have := hgo rfl
  have hkl := Ps b st.lines (lv : Int) 4 0 c ⟨(lv : Int), 0, 0, 0, 0⟩ [32, 48, 32, 48, 32, 48] hle
  dsimp only
  generalize DX b st.lines (lv : Int) 4 0 c ⟨(lv : Int), 0, 0, 0, 0⟩ [32, 48, 32, 48, 32, 48] = M at hkl
  obtain ⟨er, c', x⟩ := M
  dsimp only at hkl ⊢
  cases er with
  | some e => exact ⟨hkl.2.1, fun h => (by cases h), by dsimp only; omega, by dsimp only; omega⟩
  | none => exact ⟨hkl.2.1, fun _ => by dsimp only; omega, by simp, by simp⟩
theorem lineS_ok {b : List UInt8} {a : Nat} (ha : a < b.length) (N : Int) (st : MSt) : PO b a st (rlS b N a st) := by
 unfold rlS
 split
 ·exact markS_ok ha st
 ·split
  ·exact ⟨Nat.le_of_lt ha, fun h => (by cases h), by dsimp only; omega, by dsimp only; omega⟩
  ·split
   ·rename_i h; exact leafS_ok ha st h
   ·exact nodeS_ok ha st
theorem endS_le {b : List UInt8} {a : Nat} (ha : a ≤ b.length) (rest : List UInt8) : a ≤ (Hw b a rest).2 ∧ (Hw b a rest).2 ≤ b.length := by
 refine ⟨?_, eolN_le ha⟩
 show a ≤ eolN b a
 unfold eolN crN
 split
 ·exact Nat.le_refl _
 ·split <;> split <;> omega
theorem oneS_ok {b : List UInt8} {a : Nat} (ha : a < b.length) (N : Int) (st : MSt) : PO b a st (M4 b N a st) := by
 unfold M4
 have h := lineS_ok ha N st
 generalize rlS b N a st = M at h
 obtain ⟨⟨er, c⟩, st'⟩ := M
 obtain ⟨h1, h2, h3, h4⟩ := h
 cases er with
 | some e => exact ⟨h1, h2, h3, h4⟩
 | none =>
  have := endS_le h1 []
  have := h2 rfl
  exact ⟨by dsimp only at *; omega, fun _ => by dsimp only at *; omega, h3, h4⟩
def endE (b : List UInt8) (s : (Er × Nat) × MSt) : (Er × Nat) × MSt := match s with
 | ((some e, c), st') => ((some e, c), st')
 | ((none, c), st') => (Hw b c [], st')
section
variable {b0 p a : Nat} {b : List UInt8} {bx N : Int} {st : MSt} {H : Ab}
theorem one_end (hb : b.length < 1152921504606846976) {H0 : Ab} {x : Out} {s : (Er × Nat) × MSt} (he : Nm b0 p b bx N H x (.tup []) s) (hs : s.1.2 ≤ b.length) :
  Nm b0 p b bx N H (bK H0 x fun _ H' => Sh.f34 H0 (.ptr p 0 0) H') (.tup []) (endE b s) := by
 unfold endE
 obtain ⟨⟨er, c⟩, st'⟩ := s
 obtain ⟨H1, rfl, e1, h1⟩ := he
 dsimp only at hs e1 h1 ⊢
 cases er with
 | some e => exact ⟨H1, rfl, e1, h1⟩
 | none =>
  obtain ⟨v, w, h1⟩ := h1
  obtain ⟨h2, e2⟩ := h1.go0 (Hw b c []).2
  have hx := lx_endS h1.lx hs hb [] (by decide)
  refine ⟨_, ?_, e1.trans e2, _, _, h2⟩
  unfold Sh.f34
  simp only [Bq, GMb, GMc, HPa, HPc, HPd, HPe, HPz, Nat.reduceAdd, Nat.reduceLT, hx]
  cases (Hw b c []).1 <;> simp only [Bq, Be, GMb, GMc, HPa, HPc, HPd, HPe, HPz, Nat.reduceAdd, Nat.reduceLT]
theorem rd_one (h : RD b0 p b a bx N st H) (ha : a < b.length) (hb : b.length < 1152921504606846976) (hn : st.nodes.length + 100 < 3000000000000) (hll : st.lines.length < 3000000000000) : Nm b0 p b bx N H (Sh.f1r (.ptr p 0 0) H) (.tup []) (M4 b N a st) := by
 have hok := lineS_ok ha N st
 have key : ∀ x, Nm b0 p b bx N H x (.tup []) (rlS b N a st) → Nm b0 p b bx N H (bK H x fun _ H' => Sh.f34 H (.ptr p 0 0) H') (.tup []) (M4 b N a st) := fun x hx => one_end hb hx hok.le
 have hh := h
 obtain ⟨v, w, h⟩ := h
 have hle : a ≤ b.length := Nat.le_of_lt ha
 have hld6 := Bv (o := 6) (sz := 1) h.lx
 have hld3 := Bv (o := 3) (sz := 1) h.lx
 unfold Sh.f1r
 unfold rlS at key
 simp only [GMb, GMc, HPa, HPc, HPd, HPe, HPz, Nat.reduceAdd, Nat.reduceLT, BL h.lx hle]
 cases h1 : A7 b a [35] with
 | true =>
  rw [h1] at key
  simp only [GMb, GMc, HPa, HPc, HPd, HPe, HPz, Nat.reduceAdd, Nat.reduceLT]
  exact key _ (rd_mark hh ha hb)
 | false =>
  rw [h1] at key
  simp only [GMb, GMc, HPa, HPc, HPd, HPe, HPz, Nat.reduceAdd, Nat.reduceLT, BL h.lx hle, Bool.false_eq_true, if_false] at key ⊢
  cases h2 : A7 b a [46, 42, 36, 49, 50, 51, 52, 53, 54, 55, 56, 57] with
  | true =>
   rw [h2] at key
   by_cases h3 : (st.lines.length : Int) ≥ N
   ·simp only [GMb, GMc, HPa, HPc, HPd, HPe, HPz, Nat.reduceAdd, Nat.reduceLT, hld6, hld3, rdR, h.lines.len, h3, if_true] at key ⊢
    exact key (Sh.f7 (.ptr p 0 0) H) ⟨H, rfl, Ext.refl _ _ _, hh⟩
   ·simp only [GMb, GMc, HPa, HPc, HPd, HPe, HPz, Nat.reduceAdd, Nat.reduceLT, hld6, hld3, rdR, h.lines.len, h3, BL h.lx hle, Bool.false_eq_true, if_false] at key ⊢
    cases h4 : A7 b a [46, 42, 36] with
    | true =>
     rw [h4] at key
     simp only [GMb, GMc, HPa, HPc, HPd, HPe, HPz, Nat.reduceAdd, Nat.reduceLT]
     exact key _ (rd_leaf hh hle hb hn hll)
    | false =>
     rw [h4] at key
     simp only [GMb, GMc, HPa, HPc, HPd, HPe, HPz, Nat.reduceAdd, Nat.reduceLT]
     exact key _ (rd_node hh hle hb (by omega) hll)
  | false =>
   rw [h2] at key
   simp only [GMb, GMc, HPa, HPc, HPd, HPe, HPz, Nat.reduceAdd, Nat.reduceLT, BL h.lx hle, Bool.false_eq_true, if_false] at key ⊢
   cases h4 : A7 b a [46, 42, 36] with
   | true =>
    rw [h4] at key
    simp only [GMb, GMc, HPa, HPc, HPd, HPe, HPz, Nat.reduceAdd, Nat.reduceLT]
    exact key _ (rd_leaf hh hle hb hn hll)
   | false =>
    rw [h4] at key
    simp only [GMb, GMc, HPa, HPc, HPd, HPe, HPz, Nat.reduceAdd, Nat.reduceLT]
    exact key _ (rd_node hh hle hb (by omega) hll)
theorem all_loop (hb : b.length < 1152921504606846976) (H0 : Ab) : ∀ (m a : Nat) (st : MSt) (H : Ab), a ≤ b.length → b.length - a < m → ∀ n, m ≤ n → st.nodes.length + 21 * (b.length - a) + 200 < 3000000000000 → st.lines.length + (b.length - a) + 200 < 3000000000000 → RD b0 p b a bx N st H →
  Nm b0 p b bx N H (Ao (fun rec1 vs H => Sh.f35 H0 rec1 (ag vs 0) H) n [.ptr p 0 0] H) (.tup []) (Dl b N m a st) := by
 intro m
 induction m with
 | zero => intro a st H _ h; omega
 | succ m ih =>
  intro a st H ha hm n hn h1 h2 h
  obtain ⟨n, rfl⟩ : ∃ k, n = k + 1 := ⟨n - 1, by omega⟩
  rw [DF]
  generalize hg : Ao (fun rec1 vs H => Sh.f35 H0 rec1 (ag vs 0) H) n = rec
  have hh := h
  obtain ⟨v, w, h⟩ := h
  unfold Sh.f35 Dl
  simp only [GMb, GMc, HPa, HPc, HPd, HPe, HPz, Nat.reduceAdd, Nat.reduceLT, G1 h.lx]
  by_cases he : a = b.length
  ·simp only [he, GMb, GMc, HPa, HPc, HPd, HPe, HPz, Nat.reduceAdd, Nat.reduceLT, if_true]
   rw [he] at hh
   exact ⟨H, rfl, Ext.refl _ _ _, hh⟩
  ·have hlt : a < b.length := by omega
   obtain ⟨H1, r1, r2, r3⟩ := rd_one hh hlt hb (by omega) (by omega)
   have hok := oneS_ok hlt N st
   simp only [he, GMb, GMc, HPa, HPc, HPd, HPe, HPz, Nat.reduceAdd, Nat.reduceLT, r1, if_false]
   generalize M4 b N a st = M at r2 r3 hok
   obtain ⟨⟨er, c⟩, st'⟩ := M
   obtain ⟨k1, k2, k3, k4⟩ := hok
   dsimp only at r2 r3 k1 k2 k3 k4 ⊢
   cases er with
   | some e =>
    simp only [Be, GMb, GMc, HPa, HPc, HPd, HPe, HPz, Nat.reduceAdd, Nat.reduceLT]
    exact ⟨H1, rfl, r2, r3⟩
   | none =>
    have := k2 rfl
    obtain ⟨H2, s1, s2, s3⟩ := ih c st' H1 k1 (by omega) n (by omega) (by omega) (by omega) r3
    rw [hg] at s1
    simp only [Bq, GMb, GMc, HPa, HPc, HPd, HPe, HPz, Nat.reduceAdd, Nat.reduceLT, s1]
    exact ⟨H2, rfl, r2.trans s2, s3⟩
theorem rd_all (h : RD b0 p b 0 bx N st H) (hb : b.length < 100000000000) (hn : st.nodes.length = 0) (hl : st.lines.length = 0) : Nm b0 p b bx N H (Sh.f10 (.ptr p 0 0) H) (.tup []) (GJ b N st) := by
 have hb' : b.length < 1152921504606846976 := by omega
 obtain ⟨v, w, h⟩ := h
 have hM := Hn (Nat.zero_le b.length) Cs
 have e : (BA b 0 Cs []).2 = Ho b 0 Cs := rfl
 have hx := LR h.lx (Nat.zero_le _) hb' Cs [] (by decide) (by decide)
 unfold Sh.f10 GJ
 unfold Cs at hx
 rw [show BA b 0 [91, 77, 50, 93] [] = BA b 0 Cs [] from rfl] at hx
 simp only [GMb, GMc, HPa, HPc, HPd, HPe, HPz, Nat.reduceAdd, Nat.reduceLT, hx]
 generalize BA b 0 Cs [] = M at e
 obtain ⟨er, c⟩ := M
 dsimp only at e ⊢
 subst e
 obtain ⟨h1, e1⟩ := h.go0 (Ho b 0 Cs)
 cases er with
 | some e =>
  simp only [Be, GMb, GMc, HPa, HPc, HPd, HPe, HPz, Nat.reduceAdd, Nat.reduceLT]
  exact ⟨_, rfl, e1, _, _, h1⟩
 | none =>
  have hany := anyN_le hM
  obtain ⟨h2, e2⟩ := h1.go0 (FL b (Ho b 0 Cs))
  have hx2 := lx_endS h2.lx hany hb' [] (by decide)
  simp only [Bq, GMb, GMc, HPa, HPc, HPd, HPe, HPz, Nat.reduceAdd, Nat.reduceLT, lx_any h1.lx hM hb', hx2]
  have hle := endS_le hany []
  generalize Hw b (FL b (Ho b 0 Cs)) [] = M at hle
  obtain ⟨er, d⟩ := M
  dsimp only at hle ⊢
  obtain ⟨h3, e3⟩ := h2.go0 d
  cases er with
  | some e =>
   simp only [Be, GMb, GMc, HPa, HPc, HPd, HPe, HPz, Nat.reduceAdd, Nat.reduceLT]
   exact ⟨_, rfl, (e1.trans e2).trans e3, _, _, h3⟩
  | none =>
   simp only [Bq, GMb, GMc, HPa, HPc, HPd, HPe, HPz, Nat.reduceAdd, Nat.reduceLT]
   obtain ⟨H4, r1, r2, r3⟩ := all_loop (b0 := b0) (p := p) (bx := bx) (N := N) hb' H (b.length + 1) d st _ hle.2 (by omega) AI (by rw [CT]; omega) (by omega) (by omega) ⟨_, _, h3⟩
   rw [r1]
   exact ⟨H4, rfl, ((e1.trans e2).trans e3).trans r2, r3⟩
def QH (er : Er) : Aa := match er with
 | none => .agg [.int .i64 0, .str []]
 | some e => .agg [.int .i64 e.1, .str e.2]
theorem Q2 (h : RD b0 p b 0 bx N st H) (hb : b.length < 100000000000) (hn : st.nodes.length = 0) (hl : st.lines.length = 0) : ∃ H', Sh.f11 (.bfn 21 [.ptr p 0 0]) H = some (.ret (QH (GJ b N st).1.1), H') ∧ Ext b0 p H H' ∧ RD b0 p b (GJ b N st).1.2 bx N (GJ b N st).2 H' := by
 obtain ⟨H1, r1, r2, r3⟩ := rd_all h hb hn hl
 refine ⟨H1, ?_, r2, r3⟩
 have ho : ent 21 (ap1 Sh.f10) noO 21 [.ptr p 0 0] H = Sh.f10 (.ptr p 0 0) H := by
  unfold ent; rw [if_pos rfl]; rfl
 unfold Sh.f11 Om
 simp only [ho, r1, GMb, GMc]
 cases (GJ b N st).1.1 with
 | none => rfl
 | some e => rfl

end
end Go.Gm
namespace Go.Gm
theorem c05_kid {L : List Nd} {tk : Tok} {i : Nat} (hi : i < L.length) (h1 : 1 ≤ L[i].lv) (h2 : L[i].lv ≤ 1329) (c : Int) (H : Ab) (hL : L.length < 1152921504606846976) : Sh.f1s (.sl (enL cNd L) tk) (.int .i64 (i : Int)) (.int .i64 c) H = some (.ret (.bool (BH L i L[i] c)), H) := by
 unfold Sh.f1s
 simp only [GMb, GMc, HPa, HPc, HPd, HPe, HPz, Nat.reduceAdd, Nat.reduceLT, Av hi, Fa, Bc, Dz, Cq, Dt]
 generalize L[i] = x at h1 h2
 by_cases hc : c = 0
 ·have : BH L i x c = true := by
   unfold BH
   simp only [Bool.and_eq_true, decide_eq_true_eq]; exact ⟨⟨by omega, fun _ => by omega⟩, fun _ h => by omega⟩
  rw [this]
  simp only [hc, GMb, GMc, HPa, HPc, HPd, HPe, HPz, Nat.reduceAdd, Nat.reduceLT]
 ·simp only [hc, GMb, GMc, HPa, HPc, HPd, HPe, HPz, Nat.reduceAdd, Nat.reduceLT, Bc]
  by_cases hl : x.lv = 1
  ·have : BH L i x c = (decide (c > 0) && decide (c ≤ 255)) := by
    unfold BH
    rw [Bool.eq_iff_iff]; simp only [Bool.and_eq_true, decide_eq_true_eq]
    exact ⟨fun h => ⟨by omega, h.1.2 hl⟩, fun h => ⟨⟨by omega, fun _ => h.2⟩, fun h' => by omega⟩⟩
   rw [this]
   by_cases h0 : c > 0
   ·simp only [hl, h0, GMb, GMc, HPa, HPc, HPd, HPe, HPz, Nat.reduceAdd, Nat.reduceLT]
   ·simp only [hl, h0, GMb, GMc, HPa, HPc, HPd, HPe, HPz, Nat.reduceAdd, Nat.reduceLT]
  ·simp only [hl, GMb, GMc, HPa, HPc, HPd, HPe, HPz, Nat.reduceAdd, Nat.reduceLT]
   by_cases h0 : c > 0
   ·by_cases hci : c ≤ (i : Int)
    ·obtain ⟨m, rfl⟩ : ∃ m : Nat, c = ((m + 1 : Nat) : Int) := ⟨(c - 1).toNat, by omega⟩
     have hm : m < L.length := by omega
     have hw : IntKind.i64.wrap (((m + 1 : Nat) : Int) - 1) = (m : Int) := by rw [Ay] <;> omega
     have hw2 : IntKind.i64.wrap (x.lv - 1) = x.lv - 1 := Ay (by omega) (by omega)
     have : BH L i x ((m + 1 : Nat) : Int) = decide (L[m].lv = x.lv - 1) := by
      unfold BH
      rw [Bool.eq_iff_iff]; simp only [Bool.and_eq_true, decide_eq_true_eq, show (((m + 1 : Nat) : Int) - 1).toNat = m by omega, List.getElem?_eq_getElem hm, Option.some.injEq]
      exact ⟨fun h => (h.2 (by omega) h0).2 _ rfl, fun h => ⟨⟨by omega, fun h' => absurd h' hl⟩, fun _ _ => ⟨hci, fun y e => by rw [← e]; exact h⟩⟩⟩
     rw [this]
     simp only [h0, hci, GMb, GMc, HPa, HPc, HPd, HPe, HPz, Nat.reduceAdd, Nat.reduceLT, hw, hw2, Av hm, Ah, As, Bc]
    ·have : BH L i x c = false := by
      unfold BH
      rw [Bool.and_eq_false_iff]; right
      rw [decide_eq_false_iff_not]; intro h; exact hci (h (by omega) h0).1
     rw [this]
     simp only [h0, hci, GMb, GMc, HPa, HPc, HPd, HPe, HPz, Nat.reduceAdd, Nat.reduceLT]
   ·have : BH L i x c = false := by
     unfold BH
     rw [Bool.and_eq_false_iff, Bool.and_eq_false_iff]; left; left
     rw [decide_eq_false_iff_not]; omega
    rw [this]
    simp only [h0, GMb, GMc, HPa, HPc, HPd, HPe, HPz, Nat.reduceAdd, Nat.reduceLT]
theorem c05_loose (L : List Nd) (tk : Tok) (H : Ab) (hL : L.length < 1152921504606846976) : Sh.f1t (.sl (enL cNd L) tk) H = some (.ret (.bool (Az L)), H) := by
 unfold Sh.f1t
 rw [show Az L = (List.range L.length).all (Dp L) from rfl]
 simp only [GMb, GMc, HPa, HPc, HPd, HPe, HPz, Nat.reduceAdd, Nat.reduceLT, A2]
 have key : ∀ (d i : Nat) (G : Ab), i + d = L.length → (∀ j, j < i → Dp L j = true) → ∀ n, d < n → Ao (fun rec1 vs H1 => Sh.f12 H rec1 (ag vs 0) (ag vs 1) (ag vs 2) (ag vs 3) H1) n [.sl (enL cNd L) tk, .sl (enL cNd L) tk, .int .i64 (L.length : Int), .int .i64 (i : Int)] (H ++ G) = some (.ret (.bool ((List.range L.length).all (Dp L))), H) := by
  intro d
  induction d with
  | zero =>
   intro i G hi hall n hn
   obtain ⟨n, rfl⟩ : ∃ k, n = k + 1 := ⟨n - 1, by omega⟩
   have : (List.range L.length).all (Dp L) = true := by
    rw [List.all_eq_true]; intro j hj; exact hall j (by have := List.mem_range.1 hj; omega)
   rw [DF, this]
   generalize Ao (fun rec1 vs H1 => Sh.f12 H rec1 (ag vs 0) (ag vs 1) (ag vs 2) (ag vs 3) H1) n = rec
   unfold Sh.f12
   have hi' : ¬ (i : Int) < (L.length : Int) := by omega
   simp only [GMb, GMc, HPa, HPc, HPd, HPe, HPz, Nat.reduceAdd, Nat.reduceLT, hi']
  | succ d ih =>
   intro i G hi hall n hn
   obtain ⟨n, rfl⟩ : ∃ k, n = k + 1 := ⟨n - 1, by omega⟩
   have hlt : i < L.length := by omega
   have hi' : (i : Int) < (L.length : Int) := by omega
   rw [DF]
   have hno : Dp L i = false → (List.range L.length).all (Dp L) = false := fun h => by rw [List.all_eq_false]; exact ⟨i, by simpa using hlt, by simp [h]⟩
   have hyes : Dp L i = true → ∀ G', Ao (fun rec1 vs H1 => Sh.f12 H rec1 (ag vs 0) (ag vs 1) (ag vs 2) (ag vs 3) H1) n [.sl (enL cNd L) tk, .sl (enL cNd L) tk, .int .i64 (L.length : Int), .int .i64 ((i + 1 : Nat) : Int)] (H ++ G') = some (.ret (.bool ((List.range L.length).all (Dp L))), H) := fun h G' => ih (i + 1) G' (by omega) (fun j hj => by
    by_cases e : j = i
    ·rw [e]; exact h
    ·exact hall j (by omega)) n (by omega)
   generalize Ao (fun rec1 vs H1 => Sh.f12 H rec1 (ag vs 0) (ag vs 1) (ag vs 2) (ag vs 3) H1) n = rec at hyes
   unfold Sh.f12
   have hg : L[i]? = some L[i] := List.getElem?_eq_getElem hlt
   simp only [GMb, GMc, HPa, HPc, HPd, HPe, HPz, Nat.reduceAdd, Nat.reduceLT, Aw, hi', Av hlt, Fa, Bc, Dz, Cq, Dt]
   by_cases h1 : L[i].lv < 1
   ·have : Dp L i = false := by simp only [Dp, hg]; simp; intro; omega
    rw [hno this]
    simp only [h1, GMb, GMc, HPa, HPc, HPd, HPe, HPz, Nat.reduceAdd, Nat.reduceLT]
   ·by_cases h2 : L[i].lv > 1329
    ·have : Dp L i = false := by simp only [Dp, hg]; simp; intro; omega
     rw [hno this]
     simp only [h1, h2, GMb, GMc, HPa, HPc, HPd, HPe, HPz, Nat.reduceAdd, Nat.reduceLT, Bc, Dz, Cq, Dt]
    ·have hd : Dp L i = (List.range 4).all fun k => BH L i L[i] (L[i].kid k) := by
      simp only [Dp, hg]; rw [decide_eq_true (by omega)]; rfl
     simp only [h1, h2, GMb, GMc, HPa, HPc, HPd, HPe, HPz, Nat.reduceAdd, Nat.reduceLT, Bc, Dz, Cq, Dt]
     have := Dr 4 (fun k => BH L i L[i] (L[i].kid k)) (fun k => [.sl (enL cNd L) tk, .int .i64 (i : Int), .sl (enL cNd L) tk, .int .i64 (L.length : Int), .int .i64 (i : Int), .agg (FR L[i]), .int .i64 (k : Int)]) (H ++ (G ++ [.cel 0 (cNd L[i])])) (rec [.sl (enL cNd L) tk, .sl (enL cNd L) tk, .int .i64 (L.length : Int), .int .i64 ((i + 1 : Nat) : Int)] (H ++ (G ++ [.cel 0 (cNd L[i])]))) (some (.ret (.bool false), H)) (by decide) (fun rec2 k hk => ?_) (fun rec2 => ?_)
      (G := fun rec2 vs H1 => Sh.f36 H rec rec2 (ag vs 0) (ag vs 1) (ag vs 2) (ag vs 3) (ag vs 4) (ag vs 5) (ag vs 6) H1)
     ·refine this.trans ?_
      rw [← hd]
      cases hb : Dp L i with
      | true => simp only [if_true]; exact hyes hb _
      | false => simp only [Bool.false_eq_true, if_false]; rw [hno hb]
     ·have hk' : (k : Int) < 4 := by omega
      unfold Sh.f36
      simp only [GMb, GMc, HPa, HPc, HPd, HPe, HPz, Nat.reduceAdd, Nat.reduceLT, Aw, hk', ag_kid _ hk, c05_kid hlt (by omega) (by omega) (L[i].kid k) _ hL]
      cases BH L i L[i] (L[i].kid k) with
      | true => simp only [GMb, GMc, HPa, HPc, HPd, HPe, HPz, Nat.reduceAdd, Nat.reduceLT, Au (show k < 9223372036854775807 by omega), if_true]
      | false => simp only [GMb, GMc, HPa, HPc, HPd, HPe, HPz, Nat.reduceAdd, Nat.reduceLT, Bool.false_eq_true, if_false]
     ·unfold Sh.f36
      simp only [GMb, GMc, HPa, HPc, HPd, HPe, HPz, Nat.reduceAdd, Nat.reduceLT, Aw, show ¬ (((4 : Nat) : Int) < 4) from by decide, Au (show i < 9223372036854775807 by omega)]
 have := key L.length 0 [] (by omega) (fun j hj => by omega) AI (by rw [CT]; exact hL)
 rw [List.append_nil] at this
 exact this
end Go.Gm
namespace Go.Gm
def MV (F : List Bool) (x : Nd) (k : Nat) : Bool := !decide (x.kid k = 0) && (decide (x.lv = 1) || F.getD (x.kid k).toNat false)
def fulS (F : List Bool) (x : Nd) : Bool := (List.range 4).any (MV F x)
theorem ful_emp {E : List Bool} {x : Nd} (h1 : 1 ≤ x.lv) (hE : ∀ k, k < 4 → 1 < x.lv → (x.kid k).toNat < E.length) : fulS (E.map (!·)) x = !Lz E x := by
 unfold fulS Lz
 have each : ∀ k, k < 4 → MV (E.map (!·)) x k = !(decide (x.kid k = 0) || (decide (1 < x.lv) && E.getD (x.kid k).toNat true)) := by
  intro k hk
  unfold MV
  by_cases hl : x.lv = 1
  ·have : ¬ 1 < x.lv := by omega
   simp [hl]
  ·have hl1 : 1 < x.lv := by omega
   have := hE k hk hl1
   simp [hl, hl1, List.getD_eq_getElem?_getD, List.getElem?_eq_getElem this]
 show ((MV _ x 0 || (MV _ x 1 || (MV _ x 2 || (MV _ x 3 || false))))) = !(_ && (_ && (_ && (_ && true))))
 rw [each 0 (by omega), each 1 (by omega), each 2 (by omega), each 3 (by omega)]
 simp only [Bool.not_and, Bool.not_true]
theorem c05_full1 {H : Ab} {pn po q m : Nat} {x : Nd} {F : List Bool} (hn : H[pn]? = some (.cel 0 (cNd x))) (ho : H[po]? = some (.cel 0 [.ms q 0 0 m m 1 true])) (hq : H[q]? = some (.cel 0 (flat cB F))) (hm : F.length = m) {k : Nat} (hk : k < 4) (h0 : 0 ≤ x.kid k) (hb : x.lv ≠ 1 → x.kid k ≠ 0 → (x.kid k).toNat < m) :
  Sh.f2j (.int .i64 (x.kid k)) (.ptr pn 0 0) (.ptr po 0 0) H = some (.ret (.bool (MV F x k)), H) := by
 have l1 := F0 hn
 have l2 := Bv (o := 0) (sz := 1) ho
 unfold Sh.f2j MV
 by_cases hc : x.kid k = 0
 ·simp only [hc, GMb, GMc, HPa, HPc, HPd, HPe, HPz, Nat.reduceAdd, Nat.reduceLT]
 ·by_cases hl : x.lv = 1
  ·simp only [hc, hl, l1, GMb, GMc, HPa, HPc, HPd, HPe, HPz, Nat.reduceAdd, Nat.reduceLT]
  ·have hlt := hb hl hc
   obtain ⟨c, hcc⟩ : ∃ c : Nat, x.kid k = (c : Int) := ⟨(x.kid k).toNat, by omega⟩
   rw [hcc, Int.toNat_natCast] at hlt
   have hi := DZ (sz := 1) (id := q) (g := 0) (off := 0) (n := m) (cap := m) (ex := true) (K := .i64) hlt
   have hld := Hm (f := cB) (l := F) (AT hq) (show c < F.length by omega)
   simp only [Nat.zero_add, Nat.mul_one] at hi
   rw [hcc] at hc ⊢
   simp only [hc, hl, l1, l2, GMb, GMc, HPa, HPc, HPd, HPe, HPz, Nat.reduceAdd, Nat.reduceLT, hi, hld, Int.toNat_natCast, List.getD_eq_getElem?_getD, List.getElem?_eq_getElem (show c < F.length by omega), Option.getD_some, List.getElem?_cons_zero]
theorem c05_any {H : Ab} {pn po q m : Nat} {x : Nd} {F : List Bool} (hn : H[pn]? = some (.cel 0 (cNd x))) (ho : H[po]? = some (.cel 0 [.ms q 0 0 m m 1 true])) (hq : H[q]? = some (.cel 0 (flat cB F))) (hm : F.length = m) (h0 : ∀ k, k < 4 → 0 ≤ x.kid k) (hb : ∀ k, k < 4 → x.lv ≠ 1 → x.kid k ≠ 0 → (x.kid k).toNat < m) :
  Sh.f1v (.ms pn 0 1 4 4 1 true) (.fn 110 [.ptr pn 0 0, .ptr po 0 0]) H = some (.ret (.bool (fulS F x)), H) := by
 unfold Sh.f1v Sh.f2k
 simp only [GMb, GMc, len_ms, show ((4 : Nat) : Int) = 4 from rfl]
 have key := Hk (G := fun rec1 vs H1 => Sh.f37 H rec1 (ag vs 0) (ag vs 1) (ag vs 2) (ag vs 3) H1) 4 (MV F x) (fun k => [.ms pn 0 1 4 4 1 true, .fn 110 [.ptr pn 0 0, .ptr po 0 0], .int .i64 4, .int .i64 (k : Int)]) H (some (.ret (.int .i64 (-1)), H)) (fun k => some (.ret (.int .i64 (k : Int)), H)) (by decide) (fun rec k hk => ?_) (fun rec => ?_)
 ·rw [show (((0 : Nat) : Int)) = 0 from rfl] at key
  rw [key]
  cases hf : (List.range 4).find? (MV F x) with
  | none =>
   have : fulS F x = false := by
    unfold fulS
    rw [List.any_eq_false]
    intro k hk
    exact List.find?_eq_none.1 hf k hk
   simp only [GMb, GMc, this, show decide ((-1 : Int) ≥ 0) = false from by decide]
  | some k =>
   have : fulS F x = true := by
    unfold fulS
    rw [List.any_eq_true]
    exact ⟨k, List.mem_of_find?_eq_some hf, List.find?_some hf⟩
   simp only [GMb, GMc, this, show decide ((k : Int) ≥ 0) = true from by simp]
 ·have hk' : (k : Int) < 4 := by omega
  have hi := DZ (sz := 1) (id := pn) (g := 0) (off := 1) (n := 4) (cap := 4) (ex := true) (K := .i64) hk
  have hld := M8 hn hk
  have hfull := c05_full1 hn ho hq hm hk (h0 k hk) (hb k hk)
  simp only [Nat.mul_one] at hi
  unfold Sh.f37 Bw
  simp only [GMb, GMc, Aw, hk', hi, hld, Rb, ent, if_true, List.cons_append, List.nil_append, ap3, hfull]
  cases MV F x k with
  | true => simp only [GMb, GMc, if_true]
  | false => simp only [GMb, GMc, Bool.false_eq_true, if_false, Au (show k < 9223372036854775807 by omega)]
 ·unfold Sh.f37
  simp only [GMb, GMc, Aw, show ¬ (((4 : Nat) : Int) < 4) from by decide]
theorem map_take_not (L : List Nd) (i : Nat) (hi : i < L.length) : ((Ap (L.take i)).map (!·) ++ List.replicate (L.length - i) false).set (i + 1) (!Lz (Ap (L.take i)) L[i]) = (Ap (L.take (i + 1))).map (!·) ++ List.replicate (L.length - (i + 1)) false := by
 have hl : ((Ap (L.take i)).map (!·)).length = i + 1 := by rw [List.length_map, BY, List.length_take]; omega
 rw [List.set_append_right _ _ (by omega), hl, Nat.sub_self, QU L hi, List.map_append, show L.length - i = (L.length - (i + 1)) + 1 by omega, List.replicate_succ, List.set_cons_zero, List.append_assoc]
 rfl
theorem c05_full (L : List Nd) (tk : Tok) (H : Ab) (hL : L.length < 140737488355327) (hl : Az L = true) : Sh.fr (.sl (enL cNd L) tk) H = some (.ret (.sl (enL cB ((Ap L).map (!·))) .no), H) := by
 have hmk := Fm (f := cB) (a := false) (n := L.length + 1) (bytes := 1) (H := H) (by omega) (by omega)
 unfold Sh.fr
 simp only [A2, GMb, GMc, HPa, HPc, HPd, HPe, HPz, Nat.reduceAdd, Nat.reduceLT, Au (show L.length < 9223372036854775807 by omega), hmk]
 have key := Bl (G := fun rec1 vs H1 => Sh.f4e H rec1 (ag vs 0) (ag vs 1) (ag vs 2) (ag vs 3) H1) (σ := Nat × Ab) (fun s => s.1 ≤ L.length)
  (fun s => [.ptr (H.length + 1) 0 0, .sl (enL cNd L) tk, .int .i64 (L.length : Int), .int .i64 (s.1 : Int)]) (fun s => H ++ (.cel 0 (flat cB ((Ap (L.take s.1)).map (!·) ++ List.replicate (L.length - s.1) false)) :: .cel 0 [.ms H.length 0 0 (L.length + 1) (L.length + 1) 1 true] :: s.2)) (fun s => L.length - s.1)
  (fun _ => some (.ret (.sl (enL cB ((Ap L).map (!·))) .no), H)) (fun s rec hs hrec => ?_) (0, []) (Nat.zero_le _) (by dsimp only; omega)
 ·rw [List.take_zero] at key
  have e : (Ap []).map (!·) ++ List.replicate (L.length - 0) false = List.replicate (L.length + 1) false := by simp [Ap, List.replicate_succ]
  rw [e] at key
  exact key
 ·obtain ⟨i, G⟩ := s
  dsimp only at hs hrec ⊢
  unfold Sh.f4e
  by_cases hi : i < L.length
  ·have hi' : (i : Int) < (L.length : Int) := by omega
   obtain ⟨l1, l2, l3⟩ := A0 hl hi
   have hElen : (Ap (L.take i)).length = i + 1 := by rw [BY, List.length_take]; omega
   have hFlen : ((Ap (L.take i)).map (!·) ++ List.replicate (L.length - i) false).length = L.length + 1 := by rw [List.length_append, List.length_map, hElen, List.length_replicate]; omega
   have hfs : fulS ((Ap (L.take i)).map (!·) ++ List.replicate (L.length - i) false) L[i] = !Lz (Ap (L.take i)) L[i] := by
    rw [← ful_emp l1 (fun k hk h1 => by
     obtain ⟨q1, q2, q3⟩ := l3 k hk
     rw [hElen]
     by_cases h0 : 0 < L[i].kid k
     ·have := (q3 h1 h0).1; omega
     ·omega)]
    unfold fulS MV
    congr 1
    funext k
    by_cases hlv : L[i].lv = 1
    ·simp [hlv]
    ·by_cases hk : k < 4
     ·obtain ⟨q1, q2, q3⟩ := l3 k hk
      have : (L[i].kid k).toNat < ((Ap (L.take i)).map (!·)).length := by
       rw [List.length_map, hElen]
       by_cases h0 : 0 < L[i].kid k
       ·have := (q3 (by omega) h0).1; omega
       ·omega
      rw [List.getD_eq_getElem?_getD, List.getElem?_append_left this, List.getD_eq_getElem?_getD]
     ·have e3 : L[i].kid k = L[i].kid 3 := by
       match k, hk with
       | 0, h => exact absurd (by decide) h
       | 1, h => exact absurd (by decide) h
       | 2, h => exact absurd (by decide) h
       | n + 3, _ => rfl
      obtain ⟨q1, q2, q3⟩ := l3 3 (by decide)
      rw [e3]
      have : (L[i].kid 3).toNat < ((Ap (L.take i)).map (!·)).length := by
       rw [List.length_map, hElen]
       by_cases h0 : 0 < L[i].kid 3
       ·have := (q3 (by omega) h0).1; omega
       ·omega
      rw [List.getD_eq_getElem?_getD, List.getElem?_append_left this, List.getD_eq_getElem?_getD]
   have hmt := map_take_not L i hi
   generalize hF : (Ap (L.take i)).map (!·) ++ List.replicate (L.length - i) false = F at *
   have any := c05_any (H := H ++ (.cel 0 (flat cB F) :: .cel 0 [.ms H.length 0 0 (L.length + 1) (L.length + 1) 1 true] :: (G ++ [.cel 0 (cNd L[i])]))) (pn := H.length + (G.length + 1 + 1)) (po := H.length + 1) (q := H.length) (m := L.length + 1) (x := L[i]) (F := F) (by simp) (by simp) (by simp) hFlen (fun k hk => (l3 k hk).1) (fun k hk h1 h0 => by
    obtain ⟨q1, q2, q3⟩ := l3 k hk
    have := (q3 (by omega) (by omega)).1; omega)
   have hsl : Gv 4 1 (.ptr (H.length + (G.length + 1 + 1)) 0 1) none none = some (.ms (H.length + (G.length + 1 + 1)) 0 1 4 4 1 true) := by simp [Gv, AW]
   have hix := DZ (sz := 1) (id := H.length) (g := 0) (off := 0) (n := L.length + 1) (cap := L.length + 1) (ex := true) (K := .i64) (i := i + 1) (by omega)
   simp only [Nat.zero_add, Nat.mul_one] at hix
   have hst : ∀ G' t, Ak 1 (.ptr H.length 0 (i + 1)) (.bool t) (H ++ (.cel 0 (flat cB F) :: G')) = some (H ++ (.cel 0 (flat cB (F.set (i + 1) t)) :: G')) := fun G' t => by
    rw [Fu, Ko rfl (by rw [show flat cB F = F.map Aa.bool from by
     clear hfs hmt any hF hFlen
     induction F with
     | nil => rfl
     | cons c l ih => rw [Cc, ih]; rfl]; simp; omega)]
    simp only [Option.map_some]
    congr 3
    have e : ∀ l : List Bool, flat cB l = l.map Aa.bool := fun l => by
     induction l with
     | nil => rfl
     | cons c l ih => rw [Cc, ih]; rfl
    rw [e, e, List.map_set]
   have next := hrec (i + 1, G ++ [.cel 0 (cNd L[i])]) hi (by dsimp only; omega)
   dsimp only at next
   rw [← hmt] at next
   simp only [GMb, GMc, HPa, HPc, HPd, HPe, HPz, Nat.reduceAdd, Nat.reduceLT, Bc, Dz, Cq, Dt, Aw, hi', Av hi, Fa, hsl, any, Au (show i < 9223372036854775807 by omega), hix, hst, hfs]
   exact next
  ·have hi' : ¬ (i : Int) < (L.length : Int) := by omega
   have : i = L.length := by omega
   subst this
   rw [List.take_length, Nat.sub_self, List.replicate_zero, List.append_nil]
   have hfall := fall_ms (f := cB) (l := (Ap L).map (!·)) (H := H ++ (.cel 0 (flat cB ((Ap L).map (!·))) :: .cel 0 [.ms H.length 0 0 (L.length + 1) (L.length + 1) 1 true] :: G)) (id := H.length) (b := H.length) (d := 5) (cap := L.length + 1) (ex := true) (by simp) (Nat.le_refl _)
   rw [List.length_map, BY] at hfall
   simp only [GMb, GMc, HPa, HPc, HPd, HPe, HPz, Nat.reduceAdd, Nat.reduceLT, Aw, hi', hfall]
end Go.Gm
namespace Go.Gm
theorem ful_get (L : List Nd) {n : Nat} (hn : n < L.length + 1) : ((Ap L).map (!·)).getD n false = !(Ap L).getD n true := by
 have h : n < (Ap L).length := by rw [BY]; exact hn
 rw [List.getD_eq_getElem?_getD, List.getD_eq_getElem?_getD, List.getElem?_map, List.getElem?_eq_getElem h]; rfl
theorem ful_idx (L : List Nd) {n : Nat} (hn : n < L.length + 1) (H : Ab) (K : IntKind) : ∃ e, A3 1 (.sl (enL cB ((Ap L).map (!·))) .no) (.int K (n : Int)) = some e ∧ Ad false 1 e H = some (.bool (!(Ap L).getD n true)) := by
 have h : n < ((Ap L).map (!·)).length := by rw [List.length_map, BY]; exact hn
 refine ⟨_, Av h, ?_⟩
 have e := ful_get L hn
 rw [List.getD_eq_getElem?_getD, List.getElem?_eq_getElem h] at e
 simp only [As, List.getElem?_cons_zero]
 rw [← e]; rfl
theorem Rc (L : List Nd) (tk : Tok) (n : Nat) (H : Ab) (hL : L.length < 140737488355327) (hl : Az L = true) (hn : n ≤ L.length) : Sh.f1w (.sl (enL cNd L) tk) (.int .i64 (n : Int)) H = some (.ret (.bool ((Ap L).getD n true)), H) := by
 obtain ⟨e, h1, h2⟩ := ful_idx L (n := n) (by omega) H .i64
 unfold Sh.f1w
 simp only [GMb, GMc, HPa, HPc, HPd, HPe, HPz, Nat.reduceAdd, Nat.reduceLT, c05_full L tk H hL hl, h1, h2, Bool.not_not]
theorem c05_hollow (L : List Nd) (tk : Tok) (n : Nat) (H : Ab) (hL : L.length < 140737488355327) (hl : Az L = true) (hn : n ≤ L.length) : Sh.f1x (.sl (enL cNd L) tk) (.int .i64 (n : Int)) H = some (.ret (.bool (CI L n)), H) := by
 unfold Sh.f1x CI
 cases n with
 | zero => simp only [GMb, GMc, HPa, HPc, HPd, HPe, HPz, Nat.reduceAdd, Nat.reduceLT, show ((0 : Nat) : Int) = 0 from rfl, ne_eq, not_true_eq_false]
 | succ n =>
  have hi : n < L.length := hn
  have e0 : ¬ ((n + 1 : Nat) : Int) = 0 := by omega
  obtain ⟨l1, l2, l3⟩ := A0 hl hi
  rw [BE rfl hi]
  generalize hx : L[n] = x at l1 l2 l3
  have hw : IntKind.i64.wrap (((n + 1 : Nat) : Int) - 1) = (n : Int) := by rw [Ay] <;> omega
  simp only [GMb, GMc, HPa, HPc, HPd, HPe, HPz, Nat.reduceAdd, Nat.reduceLT, Bc, Dz, Cq, Dt, e0, hw, Av hi, hx, Ah, As]
  by_cases h2 : x.lv = 1
  ·have : ¬ 2 ≤ x.lv := by omega
   simp only [h2, GMb, GMc, HPa, HPc, HPd, HPe, HPz, Nat.reduceAdd, Nat.reduceLT, show ¬ (2 : Int) ≤ 1 from by decide]
  ·have h2' : 2 ≤ x.lv := by omega
   simp only [h2, h2', GMb, GMc, HPa, HPc, HPd, HPe, HPz, Nat.reduceAdd, Nat.reduceLT, c05_full L tk H hL hl, hw, Av hi, hx, Ah, ld_kids, ne_eq, Nat.succ_ne_zero, not_false_eq_true]
   have key := Dr (G := fun rec1 vs H1 => Sh.f39 H rec1 (ag vs 0) (ag vs 1) (ag vs 2) (ag vs 3) H1) 4 (fun k => decide (x.kid k = 0) || (List.range 4).all (Py L (Ap L) x k))
    (fun k => [.sl (enL cNd L) tk, .sl (enL cB ((Ap L).map (!·))) .no, .agg (FR x), .int .i64 (k : Int)]) H (some (.ret (.bool true), H)) (some (.ret (.bool false), H)) (by decide) (fun rec k hk => ?_) (fun rec => ?_)
   ·refine key.trans ?_
    rw [show hol L (Ap L) x = (List.range 4).all fun k => decide (x.kid k = 0) || (List.range 4).all (Py L (Ap L) x k) from rfl]
    cases (List.range 4).all fun k => decide (x.kid k = 0) || (List.range 4).all (Py L (Ap L) x k) <;> rfl
   ·have hk' : (k : Int) < 4 := by omega
    obtain ⟨q1, q2, q3⟩ := l3 k hk
    have hws : IntKind.i64.wrap ((k : Int) + 1) = ((k + 1 : Nat) : Int) := Au (by omega)
    unfold Sh.f39
    simp only [GMb, GMc, Aw, hk', ag_kid _ hk]
    by_cases hc : x.kid k = 0
    ·simp only [hc, GMb, GMc, hws, if_true]
    ·obtain ⟨m, hm⟩ : ∃ m : Nat, x.kid k = ((m + 1 : Nat) : Int) := ⟨(x.kid k - 1).toNat, by omega⟩
     have h1 : 1 < x.lv := by omega
     obtain ⟨r1, r2⟩ := q3 h1 (by omega)
     have hml : m < L.length := by omega
     have hy := r2 L[m] (by rw [show (x.kid k - 1).toNat = m from by omega]; exact List.getElem?_eq_getElem hml)
     obtain ⟨y1, y2, y3⟩ := A0 hl hml
     have hp : Py L (Ap L) x k = fun j => decide (j = 3 - k) || (if x.lv = 2 then decide (L[m].kid j = 0) else (Ap L).getD (L[m].kid j).toNat true) := by
      funext j; unfold Py; rw [BE hm hml]
     have hwm : IntKind.i64.wrap (((m + 1 : Nat) : Int) - 1) = (m : Int) := by rw [Ay] <;> omega
     have hc' : ¬ ((m + 1 : Nat) : Int) = 0 := by omega
     rw [hm]
     simp only [hp, hc', GMb, GMc, hwm, Av hml, Ah, Nat.zero_add, ld_kids]
     refine Dr (G := fun rec2 vs H1 => Sh.f38 H rec rec2 (ag vs 0) (ag vs 1) (ag vs 2) (ag vs 3) (ag vs 4) (ag vs 5) (ag vs 6) (ag vs 7) H1) 4 _
      (fun j => [.sl (enL cNd L) tk, .sl (enL cB ((Ap L).map (!·))) .no, .int .i64 (k : Int), .int .i64 ((m + 1 : Nat) : Int), .agg (FR x), .int .i64 (k : Int), .agg (FR L[m]), .int .i64 (j : Int)]) H _ _ (by decide) (fun rec2 j hj => ?_) (fun rec2 => ?_)
     ·have hj' : (j : Int) < 4 := by omega
      have hw3 : IntKind.i64.wrap (3 - (k : Int)) = 3 - (k : Int) := Ay (by omega) (by omega)
      have hjs : IntKind.i64.wrap ((j : Int) + 1) = ((j + 1 : Nat) : Int) := Au (by omega)
      have hj3 : decide ((j : Int) = 3 - (k : Int)) = decide (j = 3 - k) := by rw [Bool.eq_iff_iff]; simp only [decide_eq_true_eq]; omega
      unfold Sh.f38
      simp only [GMb, GMc, Aw, hj', ag_kid _ hj, hw3, hj3]
      by_cases hjk : j = 3 - k
      ·simp only [hjk, GMb, GMc, if_true]
       simp only [← hjk, hjs]
      ·by_cases hg : L[m].kid j = 0
       ·have : (if x.lv = 2 then decide (L[m].kid j = 0) else (Ap L).getD (L[m].kid j).toNat true) = true := by
         split
         ·simp [hg]
         ·rw [hg]; exact Dw L
        simp only [hjk, this, GMb, GMc, if_true]
        simp only [hg, hjs, GMb, GMc]
       ·by_cases hl1 : L[m].lv = 1
        ·have h22 : x.lv = 2 := by omega
         simp only [hjk, h22, GMb, GMc, hg, hwm, Av hml, Ah, As, Nat.zero_add, Bc, hl1, Bool.false_eq_true, if_true, if_false]
        ·have h22 : ¬ x.lv = 2 := by omega
         obtain ⟨s1, s2, s3⟩ := y3 j hj
         have hlt := (s3 (by omega) (by omega)).1
         obtain ⟨g, hgg⟩ : ∃ g : Nat, L[m].kid j = (g : Int) := ⟨(L[m].kid j).toNat, by omega⟩
         obtain ⟨e, f1, f2⟩ := ful_idx L (n := g) (by omega) H .i64
         rw [hgg] at hg
         simp only [hjk, h22, GMb, GMc, hgg, hg, hwm, Av hml, Ah, As, Nat.zero_add, Bc, hl1, if_false, f1, f2, Int.toNat_natCast]
         cases (Ap L).getD g true with
         | true => simp only [GMb, GMc, if_true, hjs]
         | false => simp only [GMb, GMc, Bool.false_eq_true, if_false]
     ·unfold Sh.f38
      simp only [GMb, GMc, Aw, show ¬ (((4 : Nat) : Int) < 4) from by decide, hws]
   ·unfold Sh.f39
    simp only [GMb, GMc, Aw, show ¬ (((4 : Nat) : Int) < 4) from by decide]
theorem c06_inner (L : List Nd) (tk : Tok) (n k : Nat) (H : Ab) (hL : L.length < 140737488355327) (hl : Az L = true) (hn : n < L.length) (h2 : 2 ≤ L[n].lv) (hk : k < 4) :
  Sh.f1y (.sl (enL cNd L) tk) (.int .i64 ((n + 1 : Nat) : Int)) (.int .i64 (k : Int)) H = some (.ret (.int .i64 (Gg L L[n] k)), H) := by
 obtain ⟨l1, l2, l3⟩ := A0 hl hn
 obtain ⟨q1, q2, q3⟩ := l3 k hk
 have hw : IntKind.i64.wrap (((n + 1 : Nat) : Int) - 1) = (n : Int) := by rw [Ay] <;> omega
 unfold Sh.f1y Gg
 simp only [GMb, GMc, hw, Av hn, Ah, C0 hk, As, Nat.zero_add, Nat.mul_one, Cm hk]
 by_cases hc : L[n].kid k = 0
 ·simp only [hc, GMb, GMc, show ¬ ((0 : Int) > 0) from by decide, if_true]
 ·obtain ⟨m, hm⟩ : ∃ m : Nat, L[n].kid k = ((m + 1 : Nat) : Int) := ⟨(L[n].kid k - 1).toNat, by omega⟩
  obtain ⟨r1, r2⟩ := q3 (by omega) (by omega)
  have hml : m < L.length := by omega
  have hwm : IntKind.i64.wrap (((m + 1 : Nat) : Int) - 1) = (m : Int) := by rw [Ay] <;> omega
  have hw3 : IntKind.i64.wrap (3 - (k : Int)) = ((3 - k : Nat) : Int) := by rw [Ay] <;> omega
  have hgt : ((m + 1 : Nat) : Int) > 0 := by omega
  have hc' : ¬ ((m + 1 : Nat) : Int) = 0 := by omega
  simp only [BE (c := ((m + 1 : Nat) : Int)) rfl hml, hm, hgt, hc', GMb, GMc, hwm, hw3, Av hml, Ah, Nat.zero_add, C0 (show 3 - k < 4 by omega), As, Nat.mul_one, Cm (show 3 - k < 4 by omega), if_false]
theorem c_clone (L : List Nd) (tk : Tok) (H : Ab) (hL : L.length < 3518437208883) : Sh.f1u (.sl (enL cNd L) tk) H = some (if L = [] then (.ret (.sl [] .tight), H) else (.ret (.sl (enL cNd L) (.own H.length)), H ++ [.tok L.length Aq 5])) := by
 have hb : AD 5 [] = some (.sl (enL cNd []) .tight) := rfl
 unfold Sh.f1u
 cases L with
 | nil =>
  have ha : AE Aq 5 40 (.sl (enL cNd []) .tight) (.sl (enL cNd []) tk) H = some (.sl (enL cNd []) .tight, H) := FA (by simp [B9, enL])
  have hn : nilA .eql (.sl (enL cNd []) tk) = some .ubool := rfl
  have hu : ∀ x : Out, Al .ubool x x = x := fun x => if_pos rfl
  simp only [hn, GMb, GMc, hb, ha]
  exact hu _
 | cons x l =>
  have ha : AE Aq 5 40 (.sl (enL cNd []) .tight) (.sl (enL cNd (x :: l)) tk) H = some (.sl (enL cNd (x :: l)) (.own H.length), H ++ [.tok (x :: l).length Aq 5]) := by
   have := Cj (f := cNd) (l := []) (m := x :: l) (ty := Aq) (bytes := 40) (tk := tk) (H := H) (by simp) (by simp only [List.length_nil]; omega) (by simp only [List.length_nil]; omega)
   simpa using this
  have hn : nilA .eql (.sl (enL cNd (x :: l)) tk) = some (.bool false) := rfl
  simp only [hn, GMb, GMc, hb, ha, reduceCtorEq, if_false]
end Go.Gm
namespace Go.Gm
theorem c06_shrink (L : List Nd) (tk : Tok) (n : Nat) (H : Ab) (hL : L.length < 3518437200000) (hl : Az L = true) (hn : n ≤ L.length) :
  Sh.f1z (.sl (enL cNd L) tk) (.int .i64 (n : Int)) H = some (.ret (.tup [.sl (enL cNd (BR L n).1) .no, .int .i64 ((BR L n).2 : Int)]), H) := by
 unfold Sh.f1z
 rw [c_clone L tk H (by omega)]
 by_cases h0 : L = []
 ·subst h0
  have hn0 : n = 0 := by simpa using hn
  subst hn0
  have he := Rc [] .tight 0 H (by simp) hl (Nat.le_refl _)
  have he0 : (Ap ([] : List Nd)).getD 0 true = true := rfl
  have hs : BR [] 0 = ([], 0) := rfl
  rw [show Aa.sl (enL cNd []) .tight = Aa.sl [] .tight from rfl, he0] at he
  rw [hs]
  have := rPN_self (H0 := H) (v := .tup [.sl [] .tight, .int .i64 0])
  simp only [GMb, GMc, HPa, HPc, HPd, HPe, HPz, Nat.reduceAdd, Nat.reduceLT, if_true, he, this]
  rfl
 ·simp only [GMb, GMc, h0, if_false, Rc L _ n _ (show L.length < 140737488355327 by omega) hl hn]
  unfold BR
  cases hem : (Ap L).getD n true with
  | true => simp only [GMb, GMc, HPa, HPc, HPd, HPe, HPz, Nat.reduceAdd, Nat.reduceLT, if_true]; rfl
  | false =>
   simp only [GMb, GMc, HPa, HPc, HPd, HPe, HPz, Nat.reduceAdd, Nat.reduceLT, Bool.false_eq_true, if_false]
   have hlv : (At L n).lv ≤ 1329 := by
    cases n with
    | zero => exfalso; rw [Dw] at hem; cases hem
    | succ m => rw [AK hn]; exact (A0 hl hn).2.1
   have key := Bl (G := fun rec1 vs H1 => Sh.f4f H rec1 (ag vs 0) (ag vs 1) H1) (σ := List Nd × Nat × Ab) (fun s => Az s.1 = true ∧ s.2.1 ≤ s.1.length ∧ s.1.length + (At s.1 s.2.1).lv.toNat < 3518437208883 ∧ s.1.length + (At s.1 s.2.1).lv.toNat < 3518437208883)
    (fun s => [.sl (enL cNd s.1) (.own H.length), .int .i64 (s.2.1 : Int)]) (fun s => H ++ .tok s.1.length Aq 5 :: s.2.2) (fun s => (At s.1 s.2.1).lv.toNat)
    (fun s => some (.ret (.tup [.sl (enL cNd (Bs (At s.1 s.2.1).lv.toNat s.1 s.2.1).1) .no, .int .i64 ((Bs (At s.1 s.2.1).lv.toNat s.1 s.2.1).2 : Int)]), H)) (fun s rec hs hrec => ?_) (L, n, []) ⟨hl, hn, by dsimp only; omega, by dsimp only; omega⟩ (by dsimp only; omega)
   ·exact key
   ·obtain ⟨M, i, G⟩ := s
    obtain ⟨hs1, hs2, hs3, hs4⟩ := hs
    simp only at hs1 hs2 hs3 hs4 hrec ⊢
    unfold Sh.f4f
    simp only [GMb, GMc, Aw, c05_hollow M _ i _ (show M.length < 140737488355327 by omega) hs1 hs2]
    cases hh : CI M i with
    | false =>
     have : Bs (At M i).lv.toNat M i = (M, i) := by
      cases (At M i).lv.toNat with
      | zero => rfl
      | succ f => simp [Bs, hh]
     simp only [GMb, GMc, HPa, HPc, HPd, HPe, HPz, Nat.reduceAdd, Nat.reduceLT, this]
    | true =>
     obtain ⟨hi0, hlv2⟩ := Kz hh
     obtain ⟨m, rfl⟩ : ∃ m, i = m + 1 := ⟨i - 1, by omega⟩
     have hm : m < M.length := hs2
     obtain ⟨l1, l2, l3⟩ := A0 hs1 hm
     have hx : At M ((m + 1 : Nat) : Int) = M[m] := AK hm
     rw [hx] at hlv2 hs3 hrec ⊢
     have hwm : IntKind.i64.wrap (((m + 1 : Nat) : Int) - 1) = (m : Int) := by rw [Ay] <;> omega
     have hwl : IntKind.i64.wrap (M[m].lv - 1) = M[m].lv - 1 := Ay (by omega) (by omega)
     have hsf : Bs M[m].lv.toNat M (m + 1) = Bs (M[m].lv - 1).toNat (M ++ [CB M (m + 1)]) (M.length + 1) := by
      rw [show M[m].lv.toNat = (M[m].lv - 1).toNat + 1 from by omega]
      simp only [Bs, hh, if_true]
     generalize hB : H ++ .tok M.length Aq 5 :: G = B
     simp only [GMb, GMc, Ah, Aj, As, Nat.zero_add, Nat.add_zero, Nat.mul_one, Bc, hwm, Av hm, hwl, build_lv, FB, Ev (AA (B := B) (cs := cNd nd0)) rfl, BU]
     refine BM (G := fun rec2 vs H1 => Sh.f3a H rec rec2 (ag vs 0) (ag vs 1) (ag vs 2) (ag vs 3) H1) 4 (fun k => [.sl (enL cNd M) (.own H.length), .int .i64 ((m + 1 : Nat) : Int), .ptr B.length 0 0, .int .i64 (k : Int)]) (fun k => B ++ [.cel 0 (cNd (Qw (Gg M M[m]) ⟨M[m].lv - 1, 0, 0, 0, 0⟩ k))]) _ (by decide) (fun rec2 k hk => ?_) (fun rec2 => ?_)
     ·have hk' : (k : Int) < 4 := by omega
      unfold Sh.f3a
      have hinn := c06_inner M (.own H.length) m k (B ++ [.cel 0 (cNd (Qw (Gg M M[m]) ⟨M[m].lv - 1, 0, 0, 0, 0⟩ k))]) (by omega) hs1 hm hlv2 hk
      simp only [GMb, GMc, Aw, hk', hinn, Aj, Nat.zero_add, Du hk, Cv (AA (B := B)) hk, BU, Au (show k < 9223372036854775807 by omega)]
      rfl
     ·have hf : ¬ (((4 : Nat) : Int) < 4) := by decide
      have hel : (⟨M[m].lv - 1, Gg M M[m] 0, Gg M M[m] 1, Gg M M[m] 2, Gg M M[m] 3⟩ : Nd) = CB M (m + 1) := by unfold CB; rw [hx]
      unfold Sh.f3a
      rw [Qv]
      simp only [GMb, GMc, Aw, hf, Ds (AA (B := B)), F9]
      rw [← hB, List.append_assoc, List.cons_append, Rg (by omega)]
      simp only [GMb, GMc, A2, List.length_append, List.length_singleton, hel]
      have hlv' : (At (M ++ [CB M (m + 1)]) ((M.length + 1 : Nat) : Int)).lv = M[m].lv - 1 := by
       rw [AK (by simp), show (M ++ [CB M (m + 1)])[M.length]'(by simp) = CB M (m + 1) from by simp]
       show (At M ((m + 1 : Nat) : Int)).lv - 1 = _
       rw [hx]
      have := hrec (M ++ [CB M (m + 1)], M.length + 1, G ++ [.cel 0 (cNd (CB M (m + 1)))]) ⟨Ky hs1 hm hlv2, by simp, by dsimp only; rw [hlv']; simp; omega, by dsimp only; rw [hlv']; simp; omega⟩ (by dsimp only; rw [hlv']; omega)
      simp only [List.length_append, List.length_singleton] at this
      rw [this, hlv', hsf]
end Go.Gm
namespace Go.Gm
theorem nodup_le : ∀ (N : Nat) (l : List Nat), l.Nodup → (∀ x ∈ l, x < N) → l.length ≤ N := by
 intro N
 induction N with
 | zero =>
  intro l _ h
  cases l with
  | nil => simp
  | cons a l => have := h a (by simp); omega
 | succ N ih =>
  intro l hn h
  by_cases hN : N ∈ l
  ·have h1 := List.length_erase_of_mem hN
   have h2 := ih (l.erase N) (hn.erase N) (fun x hx => by
    rw [hn.mem_erase_iff] at hx
    have := h x hx.2; omega)
   have := List.length_pos_of_mem hN
   omega
  ·have := ih l hn (fun x hx => by
    have := h x hx
    have : x ≠ N := fun e => hN (e ▸ hx)
    omega)
   omega
def knF : Nat → List Nd → List (Aa × Aa)
 | _, [] => []
 | s, x :: l => (.agg (cNd x), .int .i64 ((s + 1 : Nat) : Int)) :: knF (s + 1) l
theorem P4 (a : Nd) (l : List Nd) (y : Nd) : Bz (a :: l) y = if a = y then 1 else if Bz l y = 0 then 0 else Bz l y + 1 := by
 by_cases h : a = y
 ·rw [if_pos h, Ey]; exact ⟨by simp [h], fun j hj => by omega⟩
 ·rw [if_neg h]
  cases hf : Bz l y with
  | zero =>
   rw [if_pos rfl, Hu]
   rw [Hu] at hf
   intro hm
   rcases List.mem_cons.1 hm with e | e
   ·exact h e.symm
   ·exact hf e
  | succ i =>
   rw [if_neg (by omega), Ey]
   rw [Ey] at hf
   refine ⟨by simpa using hf.1, fun j hj => ?_⟩
   cases j with
   | zero => simpa using h
   | succ j => simpa using hf.2 j (by omega)
theorem key_nd (y : Nd) : Cp true 5 (.agg (cNd y)) = some (cNd y) := (rfl)
theorem Q9 (y : Nd) : ∀ (l : List Nd) (s : Nat), CH true 5 (knF s l) (cNd y) = some (if Bz l y = 0 then none else some (.int .i64 ((s + Bz l y : Nat) : Int)))
 | [], s => by
  have : Bz [] y = 0 := by rw [Hu]; simp
  simp [knF, CH, this]
 | a :: l, s => by
  have ih := Q9 y l (s + 1)
  simp only [knF, CH, key_nd, Bk, Mh]
  rw [P4]
  by_cases h : a = y
  ·subst h; simp
  ·have h' : ¬ y = a := fun e => h e.symm
   rw [decide_eq_false h', if_neg h]
   simp only [Bool.false_eq_true, if_false, ih]
   by_cases h0 : Bz l y = 0
   ·simp [h0]
   ·rw [if_neg h0, if_neg (by rw [if_neg h0]; omega), if_neg h0]
    congr 3; omega
theorem Qm (y : Nd) : ∀ (l : List Nd) (s : Nat), Bz l y = 0 → Ce true 5 (knF s l) (.agg (cNd y)) (cNd y) (.int .i64 ((s + l.length + 1 : Nat) : Int)) = some (knF s (l ++ [y]))
 | [], s, _ => rfl
 | a :: l, s, h => by
  rw [P4] at h
  by_cases ha : a = y
  ·rw [if_pos ha] at h; omega
  ·rw [if_neg ha] at h
   have h0 : Bz l y = 0 := by
    by_cases h0 : Bz l y = 0
    ·exact h0
    ·rw [if_neg h0] at h; omega
   have h' : ¬ y = a := fun e => ha e.symm
   have ih := Qm y l (s + 1) h0
   simp only [knF, Ce, key_nd, Bk, Mh, List.cons_append]
   rw [decide_eq_false h']
   simp only [Bool.false_eq_true, if_false]
   rw [List.length_cons, show s + (l.length + 1) + 1 = s + 1 + l.length + 1 by omega, ih]
   rfl
def dnM (D : List (Nat × Nat)) : List (Aa × Aa) := D.map fun p => (.int .i64 (p.1 : Int), .int .i64 (p.2 : Int))
def lkD (D : List (Nat × Nat)) (n : Nat) : Option Nat := match D with
 | [] => none
 | p :: r => if p.1 = n then some p.2 else lkD r n
theorem lkD_mem {n m : Nat} : ∀ {D : List (Nat × Nat)}, lkD D n = some m → (n, m) ∈ D
 | [], h => by cases h
 | p :: r, h => by
  unfold lkD at h
  by_cases hp : p.1 = n
  ·rw [if_pos hp] at h; injection h with h; subst hp; subst h; exact List.mem_cons_self
  ·rw [if_neg hp] at h; exact List.mem_cons_of_mem _ (lkD_mem h)
theorem lkD_none {n : Nat} : ∀ {D : List (Nat × Nat)}, lkD D n = none → n ∉ D.map (·.1)
 | [], h => by simp
 | p :: r, h => by
  unfold lkD at h
  by_cases hp : p.1 = n
  ·rw [if_pos hp] at h; cases h
  ·rw [if_neg hp] at h
   have := lkD_none h
   simp only [List.map_cons, List.mem_cons, not_or]
   exact ⟨fun e => hp e.symm, this⟩
theorem lkD_app {n : Nat} {p : Nat × Nat} : ∀ {D : List (Nat × Nat)}, lkD (D ++ [p]) n = (match lkD D n with | some m => some m | none => if p.1 = n then some p.2 else none)
 | [] => by simp [lkD]
 | q :: r => by
  have ih := lkD_app (n := n) (p := p) (D := r)
  simp only [List.cons_append, lkD]
  by_cases hq : q.1 = n
  ·simp only [if_pos hq]
  ·simp only [if_neg hq, ih]
theorem nat_cell (a b : Nat) : Bd [.int .i64 (a : Int)] [.int .i64 (b : Int)] = some (decide (a = b)) := by
 simp only [Bd, E6, if_true, Bk]
 congr 1
 rw [Bool.eq_iff_iff]; simp; omega
theorem Og (a : Int) : Cp false 1 (.int .i64 a) = some [.int .i64 a] := (rfl)
theorem QA (n : Nat) : ∀ D : List (Nat × Nat), CH false 1 (dnM D) [.int .i64 (n : Int)] = some ((lkD D n).map fun m => Aa.int .i64 (m : Int))
 | [] => rfl
 | p :: r => by
  have ih := QA n r
  simp only [dnM, List.map_cons, CH, Og, Bk, nat_cell, lkD]
  by_cases hp : p.1 = n
  ·subst hp; simp
  ·have : ¬ n = p.1 := fun e => hp e.symm
   rw [decide_eq_false this, if_neg hp]
   simpa [dnM] using ih
theorem Qn (n m : Nat) : ∀ D : List (Nat × Nat), lkD D n = none → Ce false 1 (dnM D) (.int .i64 (n : Int)) [.int .i64 (n : Int)] (.int .i64 (m : Int)) = some (dnM (D ++ [(n, m)]))
 | [], _ => rfl
 | p :: r, h => by
  unfold lkD at h
  by_cases hp : p.1 = n
  ·rw [if_pos hp] at h; cases h
  ·rw [if_neg hp] at h
   have ih := Qn n m r h
   have : ¬ n = p.1 := fun e => hp e.symm
   simp only [dnM, List.map_cons, Ce, Og, Bk, nat_cell, List.cons_append] at ih ⊢
   rw [decide_eq_false this]
   simp only [Bool.false_eq_true, if_false, ih]
   rfl
theorem lookA_dn {H : Ab} {id : Nat} {D : List (Nat × Nat)} (h : H[id]? = some (.map (dnM D))) (n : Nat) : Df false 1 (some (.int .i64 0)) true (.mp id) (.int .i64 (n : Int)) H = some (match lkD D n with | some m => .tup [.int .i64 (m : Int), .bool true] | none => .tup [.int .i64 0, .bool false]) := by
 unfold Df
 simp only [Bk, Og, h, QA, Option.map_some]
 cases lkD D n <;> rfl
theorem updA_dn {H : Ab} {id : Nat} {D : List (Nat × Nat)} (h : H[id]? = some (.map (dnM D))) {n : Nat} (m : Nat) (hn : lkD D n = none) : Cu false 1 (.mp id) (.int .i64 (n : Int)) (.int .i64 (m : Int)) H = some (H.set id (.map (dnM (D ++ [(n, m)])))) := by
 unfold Cu
 simp only [Bk, Og, h, Qn n m D hn, Option.map_some]
theorem lookA_kn {H : Ab} {id : Nat} {out : List Nd} (h : H[id]? = some (.map (knF 0 out))) (y : Nd) : Df true 5 (some (.int .i64 0)) true (.mp id) (.agg (cNd y)) H = some (if Bz out y = 0 then .tup [.int .i64 0, .bool false] else .tup [.int .i64 (Bz out y : Int), .bool true]) := by
 unfold Df
 simp only [Bk, key_nd, h, Q9, Option.map_some, Nat.zero_add]
 by_cases h0 : Bz out y = 0 <;> simp [h0]
theorem updA_kn {H : Ab} {id : Nat} {out : List Nd} (h : H[id]? = some (.map (knF 0 out))) {y : Nd} (hn : Bz out y = 0) : Cu true 5 (.mp id) (.agg (cNd y)) (.int .i64 ((out.length + 1 : Nat) : Int)) H = some (H.set id (.map (knF 0 (out ++ [y])))) := by
 have := Qm y out 0 hn
 rw [Nat.zero_add] at this
 unfold Cu
 simp only [Bk, key_nd, h, this, Option.map_some]
def Hj (y : Nd) : Bool := decide (y.k0 = 0) && (decide (y.k1 = 0) && (decide (y.k2 = 0) && decide (y.k3 = 0)))
theorem eq_kids (y : Nd) : Af (.flat 4) .eql (.agg (FR y)) (.agg [.int .i64 0, .int .i64 0, .int .i64 0, .int .i64 0]) = some (.bool (Hj y)) := by
 show (eqA (.flat 4) (.agg (FR y)) (.agg [.int .i64 0, .int .i64 0, .int .i64 0, .int .i64 0])).map Aa.bool = _
 have h : eqA (.flat 4) (.agg (FR y)) (.agg [.int .i64 0, .int .i64 0, .int .i64 0, .int .i64 0]) = some (Hj y) := by
  unfold eqA
  simp only []
  rw [if_pos (show (FR y).length = 4 from rfl)]
  simp only [FR, Bd, E6, if_true, Bk, Bool.and_true, Ej]
  rfl
 rw [h]; rfl
def Fb (out : List Nd) (y : Nd) : List Nd × Nat := if Hj y then (out, 0) else BG out y
structure AR (b ar km : Nat) (out : List Nd) (v : Aa) (H : Ab) : Prop where
 cell : H[ar]? = some (.cel 0 [v, .mp km])
 row : RS cNd Aq 5 b out v H
 known : H[km]? = some (.map (knF 0 out))
structure AX (b ar km : Nat) (H H' : Ab) : Prop where
 len : H.length ≤ H'.length
 cel : ∀ (i : Nat) (cs : List Aa), i ≠ ar → H[i]? = some (.cel 0 cs) → H'[i]? = some (.cel 0 cs)
 map : ∀ (i : Nat) (es : List (Aa × Aa)), i ≠ km → H[i]? = some (.map es) → H'[i]? = some (.map es)
 old : ∀ i, i < b → H'[i]? = H[i]?
theorem AX.refl (b ar km : Nat) (H : Ab) : AX b ar km H H := ⟨Nat.le_refl _, fun _ _ _ h => h, fun _ _ _ h => h, fun _ _ => rfl⟩
theorem AX.trans {b ar km : Nat} {H H1 H2 : Ab} (h : AX b ar km H H1) (k : AX b ar km H1 H2) : AX b ar km H H2 :=
 ⟨Nat.le_trans h.len k.len, fun i cs hi hc => k.cel i cs hi (h.cel i cs hi hc), fun i es hi hc => k.map i es hi (h.map i es hi hc), fun i hi => (k.old i hi).trans (h.old i hi)⟩
theorem AX.push {b ar km : Nat} {H : Ab} (hb : b ≤ H.length) (G : Ab) : AX b ar km H (H ++ G) :=
 ⟨by simp, fun i cs _ h => By h, fun i es _ h => By h, fun i hi => List.getElem?_append_left (by omega)⟩
theorem AR.push {b ar km : Nat} {out : List Nd} {v : Aa} {H : Ab} (h : AR b ar km out v H) (G : Ab) : AR b ar km out v (H ++ G) :=
 ⟨By h.cell, h.row.left G, By h.known⟩
theorem c06_intern {b ar km : Nat} {out : List Nd} {v : Aa} {H : Ab} (h : AR b ar km out v H) (hba : b ≤ ar) (hbk : b ≤ km) (hb : b ≤ H.length) (y : Nd) (ho : out.length < 3000000000000) :
  ∃ v' H', Sh.f20 (.ptr ar 0 0) (.agg (cNd y)) H = some (.ret (.int .i64 ((Fb out y).2 : Int)), H') ∧ AR b ar km (Fb out y).1 v' H' ∧ AX b ar km H H' := by
 have hB : b ≤ (H ++ [Blk.cel 0 (cNd y)]).length := by simp; omega
 have h1 := h.push [.cel 0 (cNd y)]
 have e1 : AX b ar km H (H ++ [.cel 0 (cNd y)]) := AX.push hb _
 have hbd : A5 (some [(.int .i64 0), (.int .i64 0), (.int .i64 0), (.int .i64 0)]) [] = some (.agg [.int .i64 0, .int .i64 0, .int .i64 0, .int .i64 0]) := rfl
 unfold Sh.f20 Fb
 have l0 := Bv (o := 0) (sz := 1) h1.cell
 have l1 := Bv (o := 1) (sz := 1) h1.cell
 cases hz : Hj y with
 | true =>
  simp only [GMb, GMc, HPa, HPc, HPd, HPe, HPz, Nat.reduceAdd, Nat.reduceLT, Bc, Dz, Cq, Dt, hbd, eq_kids, hz, if_true]
  exact ⟨v, _, rfl, h1, e1⟩
 | false =>
  simp only [GMb, GMc, HPa, HPc, HPd, HPe, HPz, Nat.reduceAdd, Nat.reduceLT, Bc, Dz, Cq, Dt, hbd, eq_kids, hz, l1, Cb, DI, lookA_kn h1.known, Bool.false_eq_true, if_false]
  unfold BG
  by_cases h0 : Bz out y = 0
  ·obtain ⟨v', H2, ha, hr, hk, hg⟩ := RS.snoc2 (bytes := 40) h1.row hB y .tight (by omega) (by omega)
   have hc2 := hk.cel _ _ h1.cell
   have hst := st_cel (o := 0) (v := v') hc2 hr.one (by simp)
   have hka : km ≠ ar := fun e => by have := h.known; rw [e, h.cell] at this; cases this
   have har : ar < H.length := (List.getElem?_eq_some_iff.1 h.cell).1
   have hkl : km < H.length := (List.getElem?_eq_some_iff.1 h.known).1
   have hkn : ∀ es, v ≠ .sl es (.own km) := h.row.notok (B := .map (knF 0 out)) h.known (fun _ _ _ e => by cases e)
   have hk2 : H2[km]? = some (.map (knF 0 out)) := by rw [hg.keep km (by simp; omega) hkn]; exact h1.known
   have hH1 : H.length ≠ ar := by omega
   have hbox : H2[H.length]? = some (.cel 0 (cNd y)) := hk.cel _ _ AA
   have hl2 : ar < H2.length := (List.getElem?_eq_some_iff.1 hc2).1
   have hkl2 : km < H2.length := (List.getElem?_eq_some_iff.1 hk2).1
   obtain ⟨H3, hH3⟩ : ∃ H3, H3 = H2.set ar (.cel 0 ([v, .mp km].set 0 v')) := ⟨_, rfl⟩
   rw [← hH3] at hst
   have hc3 : H3[ar]? = some (.cel 0 [v', .mp km]) := by rw [hH3, List.getElem?_set_self hl2]; rfl
   have hk3 : H3[km]? = some (.map (knF 0 out)) := by rw [hH3, List.getElem?_set_ne (Ne.symm hka)]; exact hk2
   have hb3 : H3[H.length]? = some (.cel 0 (cNd y)) := by rw [hH3, List.getElem?_set_ne (Ne.symm hH1)]; exact hbox
   have l30 := Bv (o := 0) (sz := 1) hc3
   have l31 := Bv (o := 1) (sz := 1) hc3
   have hup := updA_kn hk3 h0
   obtain ⟨H4, hH4⟩ : ∃ H4, H4 = H3.set km (.map (knF 0 (out ++ [y]))) := ⟨_, rfl⟩
   rw [← hH4] at hup
   have hc4 : H4[ar]? = some (.cel 0 [v', .mp km]) := by rw [hH4, List.getElem?_set_ne hka]; exact hc3
   have l40 := Bv (o := 0) (sz := 1) hc4
   have hlen := hr.len
   rw [List.length_append, List.length_singleton] at hlen
   refine ⟨v', H4, ?_, ⟨hc4, ?_, ?_⟩, e1.trans ⟨?_, fun i cs hi hc => ?_, fun i es hi hc => ?_, fun i hi => ?_⟩⟩
   ·simp only [h0, if_true, GMb, GMc, HPa, HPc, HPd, HPe, HPz, Nat.reduceAdd, Nat.reduceLT, l0, Cb, DI, Bc, Dz, Cq, Dt, F9, ha, hst, l30, l31, Ds hb3, hlen, hup, l40]
   ·have r3 : RS cNd Aq 5 b (out ++ [y]) v' H3 := by rw [hH3]; exact hr.put hc2
    rw [hH4, if_pos h0]
    exact r3.setB hk3 (fun _ _ _ e => by cases e)
   ·rw [hH4, List.getElem?_set_self (by rw [hH3, List.length_set]; exact hkl2)]; simp only [h0, if_true]
   ·rw [hH4, List.length_set, hH3, List.length_set]; exact hk.len
   ·have c2 := hk.cel i cs hc
    have hik : i ≠ km := fun e => by rw [e, hk2] at c2; cases c2
    rw [hH4, List.getElem?_set_ne (Ne.symm hik), hH3, List.getElem?_set_ne (Ne.symm hi)]; exact c2
   ·have hia : i ≠ ar := fun e => by rw [e, h1.cell] at hc; cases hc
    have hil : i < (H ++ [Blk.cel 0 (cNd y)]).length := (List.getElem?_eq_some_iff.1 hc).1
    have hin : ∀ es', v ≠ .sl es' (.own i) := h1.row.notok hc (fun _ _ _ e => by cases e)
    rw [hH4, List.getElem?_set_ne (Ne.symm hi), hH3, List.getElem?_set_ne (Ne.symm hia), hg.keep i hil hin]; exact hc
   ·rw [hH4, List.getElem?_set_ne (by omega), hH3, List.getElem?_set_ne (by omega)]; exact hk.old i hi
  ·simp only [h0, if_false, GMb, GMc, HPa, HPc, HPd, HPe, HPz, Nat.reduceAdd, Nat.reduceLT]
   exact ⟨v, _, rfl, h1, e1⟩
end Go.Gm
namespace Go.Gm
theorem Lq (y : Nd) : Hj y = (List.range 4).all fun k => decide (y.kid k = 0) := by
 rw [Lh]
 simp only [Hj, Bool.and_assoc]
 rfl
theorem G5 {L : List Nd} {v n : Nat} {out : List Nd} (h : n = 0 ∨ (Ap L).getD n true = true) : AB L (Ap L) v n out = (out, 0) := by
 have he : (Ap L).getD n true = true := by
  rcases h with h | h
  ·rw [h]; exact Dw L
  ·exact h
 cases v with
 | zero => rfl
 | succ v => simp only [AB, he, if_true]
theorem insF_pos {L : List Nd} {v n : Nat} {out : List Nd} (h : (Ap L).getD n true = false) : 0 < (AB L (Ap L) (v + 1) n out).2 := by
 simp only [AB, h, Bool.false_eq_true, if_false]
 split
 ·exact OJ _ _
 ·exact OJ _ _
theorem MD (rec : Nat → List Nd → List Nd × Nat) (x : Nd) (out : List Nd) : ∀ k, k ≤ 4 → ∀ j, j < k → (Bg rec x k out).2.kid j = ((rec (x.kid j).toNat (Bg rec x j out).1).2 : Int)
 | 0, _, j, h => by omega
 | k + 1, hk, j, h => by
  simp only [Bg]
  by_cases e : j = k
  ·subst e; rw [Jv _ _ (by omega)]
  ·rw [DQ _ _ (by omega) (by omega) e]; exact MD rec x out k (by omega) j (by omega)
theorem QE {L : List Nd} {v : Nat} (x : Nd) (out : List Nd) (h : ∀ k, k < 4 → (x.kid k).toNat = 0 ∨ (Ap L).getD (x.kid k).toNat true = true) : ∀ k, k ≤ 4 → (Bg (AB L (Ap L) v) x k out).1 = out
 | 0, _ => rfl
 | k + 1, hk => by
  simp only [Bg]
  rw [G5 (h k (by omega))]
  exact QE x out h k (by omega)
theorem intern_ins {L : List Nd} (hl : Az L = true) {m v : Nat} (hm : m < L.length) (hv : L[m].lv.toNat = v + 1) (out : List Nd) :
  Fb (Bg (AB L (Ap L) v) L[m] (if 1 < L[m].lv then 4 else 0) out).1 (Bg (AB L (Ap L) v) L[m] (if 1 < L[m].lv then 4 else 0) out).2 = AB L (Ap L) (v + 1) (m + 1) out := by
 obtain ⟨l1, l2, l3⟩ := A0 hl hm
 have hx : At L ((m + 1 : Nat) : Int) = L[m] := AK hm
 have he := emp_iff hl (n := m + 1) (by omega) hm
 rw [hx] at he
 by_cases h1 : 1 < L[m].lv
 ·rw [if_pos h1]
  cases hE : (Ap L).getD (m + 1) true with
  | true =>
   rw [hE] at he
   have hk : ∀ k, k < 4 → (L[m].kid k).toNat = 0 ∨ (Ap L).getD (L[m].kid k).toNat true = true := fun k hk => by
    have := List.all_eq_true.1 he.symm k (by simpa using hk)
    simp only [Bool.or_eq_true, decide_eq_true_eq, Bool.and_eq_true] at this
    rcases this with h | h
    ·left; rw [h]; rfl
    ·exact .inr h.2
   have hn : Hj (Bg (AB L (Ap L) v) L[m] 4 out).2 = true := by
    rw [Lq, List.all_eq_true]
    intro k hk'
    have hk4 : k < 4 := by simpa using hk'
    rw [decide_eq_true_eq, MD _ _ _ 4 (by omega) k hk4, G5 (hk k hk4)]; rfl
   unfold Fb
   rw [hn, if_pos rfl, QE _ _ hk 4 (by omega)]
   simp only [AB, hE, if_true]
  | false =>
   rw [hE] at he
   have : ¬ ∀ k, k < 4 → (L[m].kid k = 0 ∨ (Ap L).getD (L[m].kid k).toNat true = true) := fun h => by
    have : ((List.range 4).all fun k => decide (L[m].kid k = 0) || (decide (1 < L[m].lv) && (Ap L).getD (L[m].kid k).toNat true)) = true := by
     rw [List.all_eq_true]
     intro k hk
     have := h k (by simpa using hk)
     simp only [Bool.or_eq_true, decide_eq_true_eq, Bool.and_eq_true]
     rcases this with q | q
     ·exact .inl q
     ·exact .inr ⟨h1, q⟩
    rw [this] at he; cases he
   have ⟨k, hk4, hk0⟩ : ∃ k, k < 4 ∧ ¬ (L[m].kid k = 0 ∨ (Ap L).getD (L[m].kid k).toNat true = true) := by
    by_cases h : ∃ k, k < 4 ∧ ¬ (L[m].kid k = 0 ∨ (Ap L).getD (L[m].kid k).toNat true = true)
    ·exact h
    ·exact absurd (fun k hk => Decidable.byContradiction fun hc => h ⟨k, hk, hc⟩) this
   have hn : Hj (Bg (AB L (Ap L) v) L[m] 4 out).2 = false := by
    rw [Lq, List.all_eq_false]
    refine ⟨k, by simpa using hk4, ?_⟩
    rw [decide_eq_true_eq, MD _ _ _ 4 (by omega) k hk4]
    obtain ⟨v', rfl⟩ : ∃ v', v = v' + 1 := ⟨v - 1, by omega⟩
    have := insF_pos (L := L) (v := v') (n := (L[m].kid k).toNat) (out := (Bg (AB L (Ap L) (v' + 1)) L[m] k out).1) (by
     cases hq : (Ap L).getD (L[m].kid k).toNat true with
     | false => rfl
     | true => exact absurd (.inr hq) hk0)
    omega
   unfold Fb
   rw [hn]
   simp only [AB, hE, Bool.false_eq_true, if_false, hx, if_pos h1]
 ·rw [if_neg h1]
  have hn : Hj L[m] = (Ap L).getD (m + 1) true := by
   rw [he, Lq, Lh, Lh]
   simp [h1]
  unfold Fb
  simp only [Bg, AB, hn, hx, if_neg h1]
structure Seat where
 b : Nat
 pd : Nat
 pl : Nat
 pv : Nat
 pa : Nat
 ar : Nat
 km : Nat
 dm : Nat
structure VQ (s : Seat) (L : List Nd) (tk : Tok) (out : List Nd) (D : List (Nat × Nat)) (H : Ab) : Prop where
 hb : s.b ≤ s.ar ∧ s.b ≤ s.km ∧ s.b ≤ s.dm ∧ s.km ≠ s.dm
 ne : s.pd ≠ s.ar ∧ s.pl ≠ s.ar ∧ s.pv ≠ s.ar ∧ s.pa ≠ s.ar
 done : H[s.pd]? = some (.cel 0 [.mp s.dm])
 list : H[s.pl]? = some (.cel 0 [.sl (enL cNd L) tk])
 self : H[s.pv]? = some (.cel 0 [.fn 50 [.ptr s.pd 0 0, .ptr s.pl 0 0, .ptr s.pv 0 0, .ptr s.pa 0 0]])
 arena : H[s.pa]? = some (.cel 0 [.ptr s.ar 0 0])
 nodes : ∃ v, AR s.b s.ar s.km out v H
 nums : H[s.dm]? = some (.map (dnM D))
structure VD (L out : List Nd) (D : List (Nat × Nat)) : Prop where
 nd : (D.map (·.1)).Nodup
 le : ∀ p ∈ D, p.1 ≤ L.length
 val : ∀ p ∈ D, AB L (Ap L) (At L (p.1 : Int)).lv.toNat p.1 out = (out, p.2)
 cnt : out.length < D.length
 zero : lkD D 0 = some 0
theorem VD.short {L out : List Nd} {D : List (Nat × Nat)} (h : VD L out D) : out.length ≤ L.length := by
 have := nodup_le (L.length + 1) (D.map (·.1)) h.nd (fun x hx => by
  obtain ⟨p, hp, rfl⟩ := List.mem_map.1 hx
  have := h.le p hp; omega)
 rw [List.length_map] at this
 have := h.cnt; omega
theorem VQ.len {s : Seat} {L : List Nd} {tk : Tok} {out : List Nd} {D : List (Nat × Nat)} {H : Ab} (h : VQ s L tk out D H) : s.b ≤ H.length := by
 obtain ⟨v, h1⟩ := h.nodes
 have := (List.getElem?_eq_some_iff.1 h1.cell).1
 have := h.hb.1; omega
theorem VQ.cells {s : Seat} {L : List Nd} {tk : Tok} {out : List Nd} {D : List (Nat × Nat)} {H H' : Ab} (h : VQ s L tk out D H) (hk : ∀ i, i < H.length → H'[i]? = H[i]?) (hl : H.length ≤ H'.length) : VQ s L tk out D H' := by
 have g : ∀ {i : Nat} {x : Blk}, H[i]? = some x → H'[i]? = some x := fun hx => by rw [hk _ (List.getElem?_eq_some_iff.1 hx).1]; exact hx
 obtain ⟨v, h1⟩ := h.nodes
 refine ⟨h.hb, h.ne, g h.done, g h.list, g h.self, g h.arena, ⟨v, g h1.cell, ?_, g h1.known⟩, g h.nums⟩
 rcases h1.row with r | ⟨t, r1, r2, r3⟩
 ·exact .inl r
 ·exact .inr ⟨t, r1, r2, g r3⟩
theorem VQ.put {s : Seat} {L : List Nd} {tk : Tok} {out : List Nd} {D : List (Nat × Nat)} {H : Ab} {q : Nat} {x y : Nd} (h : VQ s L tk out D H) (hq : H[q]? = some (.cel 0 (cNd x))) : VQ s L tk out D (H.set q (.cel 0 (cNd y))) := by
 obtain ⟨v, h1⟩ := h.nodes
 have n5 : ∀ {i : Nat} {c : List Aa}, H[i]? = some (.cel 0 c) → c.length ≠ 5 → (H.set q (.cel 0 (cNd y)))[i]? = some (.cel 0 c) := fun {i c} hi hc => by
  have : q ≠ i := fun e => by rw [e, hi] at hq; injection hq with hq; injection hq with _ hq; rw [hq] at hc; exact hc rfl
  rw [List.getElem?_set_ne this]; exact hi
 have nm : ∀ {i : Nat} {es : List (Aa × Aa)}, H[i]? = some (.map es) → (H.set q (.cel 0 (cNd y)))[i]? = some (.map es) := fun {i es} hi => by
  have : q ≠ i := fun e => by rw [e, hi] at hq; cases hq
  rw [List.getElem?_set_ne this]; exact hi
 exact ⟨h.hb, h.ne, n5 h.done (by simp), n5 h.list (by simp), n5 h.self (by simp), n5 h.arena (by simp), ⟨v, n5 h1.cell (by simp), h1.row.put hq, nm h1.known⟩, nm h.nums⟩
theorem VD.grow {L out : List Nd} {D : List (Nat × Nat)} (h : VD L out D) (r : List Nd) : ∀ p ∈ D, AB L (Ap L) (At L (p.1 : Int)).lv.toNat p.1 (out ++ r) = (out ++ r, p.2) := by
 intro p hp
 have h3 := h.val p hp
 have := D6 (L := L) (E := Ap L) (At L (p.1 : Int)).lv.toNat p.1 out r
 rwa [h3] at this
theorem c06_visit {s : Seat} {L : List Nd} {tk : Tok} (hL : L.length < 2000000000000) (hl : Az L = true) : ∀ (v n d : Nat) (out : List Nd) (D : List (Nat × Nat)) (H : Ab), n ≤ L.length → (n = 0 ∨ (At L (n : Int)).lv.toNat = v) → v < d → VQ s L tk out D H → VD L out D →
  ∃ H' D', Sh.f5 d (.int .i64 (n : Int)) (.ptr s.pd 0 0) (.ptr s.pl 0 0) (.ptr s.pv 0 0) (.ptr s.pa 0 0) H = some (.ret (.int .i64 ((AB L (Ap L) v n out).2 : Int)), H') ∧
   VQ s L tk (AB L (Ap L) v n out).1 D' H' ∧ Ext s.b s.ar H H' ∧ VD L (AB L (Ap L) v n out).1 D' ∧ ∀ j, n < j → lkD D' j = lkD D j := by
 intro v
 induction v with
 | zero =>
  intro n d out D H hn hv hd hQ hD
  obtain ⟨d, rfl⟩ : ∃ e, d = e + 1 := ⟨d - 1, by omega⟩
  have hn0 : n = 0 := by
   rcases hv with h | h
   ·exact h
   ·cases n with
    | zero => rfl
    | succ m =>
     rw [AK (show m < L.length from hn)] at h
     have := (A0 hl (show m < L.length from hn)).1; omega
  subst hn0
  refine ⟨H, D, ?_, hQ, Ext.refl _ _ _, hD, fun _ _ => rfl⟩
  show Sh.f2l (Sh.f5 d) _ _ _ _ _ _ = _
  have hlk := lookA_dn hQ.nums 0
  rw [hD.zero] at hlk
  unfold Sh.f2l
  simp only [GMb, GMc, HPa, HPc, HPd, HPe, HPz, Nat.reduceAdd, Nat.reduceLT, Bv hQ.done, hlk]
  rfl
 | succ v ih =>
  intro n d out D H hn hv hd hQ hD
  obtain ⟨d, rfl⟩ : ∃ e, d = e + 1 := ⟨d - 1, by omega⟩
  show ∃ H' D', Sh.f2l (Sh.f5 d) _ _ _ _ _ _ = _ ∧ _
  have hlk := lookA_dn hQ.nums n
  unfold Sh.f2l
  simp only [GMb, GMc, HPa, HPc, HPd, HPe, HPz, Nat.reduceAdd, Nat.reduceLT, Bv hQ.done, hlk]
  cases hln : lkD D n with
  | some m =>
   have hmem := lkD_mem hln
   have hval := hD.val _ hmem
   dsimp only at hval
   have hins : AB L (Ap L) (v + 1) n out = (out, m) := by
    rcases hv with h | h
    ·have := G5 (L := L) (v := (At L (n : Int)).lv.toNat) (out := out) (n := n) (.inl h)
     rw [hval] at this
     rw [G5 (.inl h)]
     exact this.symm
    ·rw [h] at hval; exact hval
   rw [hins]
   exact ⟨H, D, by simp only [GMb, GMc, HPa, HPc, HPd, HPe, HPz, Nat.reduceAdd, Nat.reduceLT], hQ, Ext.refl _ _ _, hD, fun _ _ => rfl⟩
  | none =>
   obtain ⟨m, rfl⟩ : ∃ m, n = m + 1 := ⟨n - 1, by
    cases n with
    | zero => rw [hD.zero] at hln; cases hln
    | succ n => rfl⟩
   have hm : m < L.length := hn
   have hv' : (At L ((m + 1 : Nat) : Int)).lv.toNat = v + 1 := by
    rcases hv with h | h
    ·omega
    ·exact h
   obtain ⟨l1, l2, l3⟩ := A0 hl hm
   have hx : At L ((m + 1 : Nat) : Int) = L[m] := AK hm
   rw [hx] at hv'
   have hwm : IntKind.i64.wrap (((m + 1 : Nat) : Int) - 1) = (m : Int) := by rw [Ay] <;> omega
   have hble := hQ.len
   have hQ1 : VQ s L tk out D (H ++ [.cel 0 (cNd L[m])]) := hQ.cells (fun i hi => List.getElem?_append_left hi) (by simp)
   have hE1 : Ext s.b s.ar H (H ++ [.cel 0 (cNd L[m])]) := Ext.snoc hble _
   have hHar : H.length ≠ s.ar := by
    obtain ⟨v, h1⟩ := hQ.nodes
    have := (List.getElem?_eq_some_iff.1 h1.cell).1; omega
   simp only [GMb, GMc, HPa, HPc, HPd, HPe, HPz, Nat.reduceAdd, Nat.reduceLT, Bv hQ.list, Cb, hwm, Av hm, Fa, Bc, Dz, Cq, Dt]
   have fin : ∀ (Hc : Ab) (D1 : List (Nat × Nat)), lkD D1 (m + 1) = none → VQ s L tk (Bg (AB L (Ap L) v) L[m] (if 1 < L[m].lv then 4 else 0) out).1 D1 Hc → Hc[H.length]? = some (.cel 0 (cNd (Bg (AB L (Ap L) v) L[m] (if 1 < L[m].lv then 4 else 0) out).2)) → Ext s.b s.ar H Hc → VD L (Bg (AB L (Ap L) v) L[m] (if 1 < L[m].lv then 4 else 0) out).1 D1 → (∀ j, m < j → lkD D1 j = lkD D j) →
     ∃ H' D', Sh.f3b H (.int .i64 ((m + 1 : Nat) : Int)) (.ptr s.pd 0 0) (.ptr s.pa 0 0) (.ptr H.length 0 0) Hc = some (.ret (.int .i64 ((AB L (Ap L) (v + 1) (m + 1) out).2 : Int)), H') ∧
      VQ s L tk (AB L (Ap L) (v + 1) (m + 1) out).1 D' H' ∧ Ext s.b s.ar H H' ∧ VD L (AB L (Ap L) (v + 1) (m + 1) out).1 D' ∧ ∀ j, m + 1 < j → lkD D' j = lkD D j := by
    intro Hc D1 hl1 hQc hbox hEc hDc hjj
    have hint := intern_ins hl hm hv' out
    have hagain := D6 (L := L) (E := Ap L) (v + 1) (m + 1) out []
    rw [List.append_nil] at hagain
    generalize Bg (AB L (Ap L) v) L[m] (if 1 < L[m].lv then 4 else 0) out = io at *
    obtain ⟨o, y⟩ := io
    dsimp only at *
    obtain ⟨vv, hA⟩ := hQc.nodes
    have hsh := hDc.short
    obtain ⟨v', H2, i1, i2, i3⟩ := c06_intern hA hQc.hb.1 hQc.hb.2.1 hQc.len y (by omega)
    rw [hint] at i1 i2
    have hdm : s.dm ≠ s.km := Ne.symm hQc.hb.2.2.2
    have hdn := i3.map _ _ hdm hQc.nums
    have hpd := i3.cel _ _ hQc.ne.1 hQc.done
    have hup := updA_dn (H := H2) (n := m + 1) hdn (AB L (Ap L) (v + 1) (m + 1) out).2 hl1
    have hgrow : ∃ r, (AB L (Ap L) (v + 1) (m + 1) out).1 = o ++ r := by
     rw [← hint]
     unfold Fb BG
     split
     ·exact ⟨[], by simp⟩
     ·split
      ·exact ⟨[y], rfl⟩
      ·exact ⟨[], by simp⟩
    have hglen : (AB L (Ap L) (v + 1) (m + 1) out).1.length ≤ o.length + 1 := by
     rw [← hint]
     unfold Fb BG
     split
     ·dsimp only; omega
     ·split
      ·simp
      ·dsimp only; omega
    refine ⟨H2.set s.dm (.map (dnM (D1 ++ [(m + 1, (AB L (Ap L) (v + 1) (m + 1) out).2)]))), D1 ++ [(m + 1, (AB L (Ap L) (v + 1) (m + 1) out).2)], ?_, ?_, hEc.trans ⟨?_, fun i cs hi hc => ?_, fun i hi => ?_⟩, ?_, fun j hj => ?_⟩
    ·unfold Sh.f3b
     simp only [GMb, GMc, HPa, HPc, HPd, HPe, HPz, Nat.reduceAdd, Nat.reduceLT, Bv hQc.arena, Cb, Ds hbox, i1, Bv hpd, hup]
    ·have hdl : s.dm < H2.length := (List.getElem?_eq_some_iff.1 hdn).1
     have nc : ∀ {i : Nat} {c : List Aa}, i ≠ s.ar → Hc[i]? = some (.cel 0 c) → (H2.set s.dm (.map (dnM (D1 ++ [(m + 1, (AB L (Ap L) (v + 1) (m + 1) out).2)]))))[i]? = some (.cel 0 c) := fun {i c} hi hc => by
      have h2 := i3.cel i c hi hc
      have : s.dm ≠ i := fun e => by rw [← e, hdn] at h2; cases h2
      rw [List.getElem?_set_ne this]; exact h2
     have hda : s.dm ≠ s.ar := fun e => by have := i2.cell; rw [← e, hdn] at this; cases this
     exact ⟨hQc.hb, hQc.ne, nc hQc.ne.1 hQc.done, nc hQc.ne.2.1 hQc.list, nc hQc.ne.2.2.1 hQc.self, nc hQc.ne.2.2.2 hQc.arena,
      ⟨v', by rw [List.getElem?_set_ne hda]; exact i2.cell, i2.row.setB hdn (fun _ _ _ e => by cases e), by rw [List.getElem?_set_ne hdm]; exact i2.known⟩, by rw [List.getElem?_set_self hdl]⟩
    ·rw [List.length_set]; exact i3.len
    ·have h2 := i3.cel i cs hi hc
     have : s.dm ≠ i := fun e => by rw [← e, hdn] at h2; cases h2
     rw [List.getElem?_set_ne this]; exact h2
    ·have := hQc.hb.2.2.1
     rw [List.getElem?_set_ne (by omega)]; exact i3.old i hi
    ·obtain ⟨r, hr⟩ := hgrow
     refine ⟨?_, fun p hp => ?_, fun p hp => ?_, ?_, ?_⟩
     ·rw [List.map_append, List.nodup_append]
      refine ⟨hDc.nd, by simp, fun a ha b hb => ?_⟩
      have hbm : b = m + 1 := by simpa using hb
      have := lkD_none hl1
      exact fun e => this (by rw [← hbm, ← e]; exact ha)
     ·rcases List.mem_append.1 hp with h | h
      ·exact hDc.le p h
      ·rw [List.mem_singleton.1 h]; exact hn
     ·rcases List.mem_append.1 hp with h | h
      ·rw [hr]; exact hDc.grow r p h
      ·rw [List.mem_singleton.1 h]
       dsimp only
       rw [hx, hv']; exact hagain
     ·rw [List.length_append, List.length_singleton]; have := hDc.cnt; omega
     ·rw [lkD_app, hDc.zero]
    ·rw [lkD_app, hjj j (by omega)]
     cases lkD D j with
     | some _ => rfl
     | none => dsimp only; rw [if_neg (by omega)]
   by_cases hlv : L[m].lv > 1
   ·simp only [hlv, GMb, GMc]
    have h1lt : 1 < L[m].lv := hlv
    rw [if_pos h1lt] at fin
    have loop := LS (G := fun rec2 vs H1 => Sh.f3c H (Sh.f5 d) (fun vs H => Sh.f3b H (ag vs 0) (ag vs 1) (ag vs 2) (ag vs 3) H) rec2 (ag vs 0) (ag vs 1) (ag vs 2) (ag vs 3) (ag vs 4) (ag vs 5) (ag vs 6) H1) 4
     (fun k vs Hc => ∃ D', vs = [.int .i64 ((m + 1 : Nat) : Int), .ptr s.pd 0 0, .ptr s.pv 0 0, .ptr s.pa 0 0, .ptr H.length 0 0, .agg (FR L[m]), .int .i64 (k : Int)] ∧ VQ s L tk (Bg (AB L (Ap L) v) L[m] k out).1 D' Hc ∧ Hc[H.length]? = some (.cel 0 (cNd (Bg (AB L (Ap L) v) L[m] k out).2)) ∧ Ext s.b s.ar H Hc ∧ VD L (Bg (AB L (Ap L) v) L[m] k out).1 D' ∧ lkD D' (m + 1) = none ∧ ∀ j, m < j → lkD D' j = lkD D j)
     (by decide) (fun k vs Hc hk hI => ?_) (vs := [.int .i64 ((m + 1 : Nat) : Int), .ptr s.pd 0 0, .ptr s.pv 0 0, .ptr s.pa 0 0, .ptr H.length 0 0, .agg (FR L[m]), .int .i64 0]) (H := H ++ [Blk.cel 0 (cNd L[m])]) ⟨D, rfl, hQ1, by simp [Bg], hE1, hD, hln, fun _ _ => rfl⟩
    ·obtain ⟨vs', Hc, ⟨D', rfl, hQc, hbox, hEc, hDc, hlc, hjc⟩, rec, hloop⟩ := loop
     obtain ⟨H', D2, f1, f2⟩ := fin Hc D' hlc hQc hbox hEc hDc hjc
     refine ⟨H', D2, hloop.trans ?_, f2⟩
     unfold Sh.f3c
     simp only [GMb, GMc, Aw, show ¬ (((4 : Nat) : Int) < 4) from by decide]
     exact f1
    ·obtain ⟨D1, rfl, hQc, hbox, hEc, hDc, hlc, hjc⟩ := hI
     have hk' : (k : Int) < 4 := by omega
     obtain ⟨q1, q2, q3⟩ := l3 k hk
     obtain ⟨c, hc⟩ : ∃ c : Nat, L[m].kid k = (c : Int) := ⟨(L[m].kid k).toNat, by omega⟩
     have hcm : c ≤ m := by
      by_cases h0 : 0 < L[m].kid k
      ·have := (q3 h1lt h0).1; omega
      ·omega
     have hcv : c = 0 ∨ (At L (c : Int)).lv.toNat = v := by
      by_cases h0 : c = 0
      ·exact .inl h0
      ·right
       obtain ⟨g, rfl⟩ : ∃ g, c = g + 1 := ⟨c - 1, by omega⟩
       have hgl : g < L.length := by omega
       have := (q3 h1lt (by omega)).2 L[g] (by rw [show (L[m].kid k - 1).toNat = g by omega]; exact List.getElem?_eq_getElem hgl)
       rw [AK hgl]; omega
     obtain ⟨H1, D', r1, r2, r3, r4, r5⟩ := ih c d (Bg (AB L (Ap L) v) L[m] k out).1 D1 Hc (by omega) hcv (by omega) hQc hDc
     have hbox1 := r3.cel _ _ hHar hbox
     have hst := Cv (c := ((AB L (Ap L) v c (Bg (AB L (Ap L) v) L[m] k out).1).2 : Int)) hbox1 hk
     have hstep : Bg (AB L (Ap L) v) L[m] (k + 1) out = ((AB L (Ap L) v c (Bg (AB L (Ap L) v) L[m] k out).1).1, (Bg (AB L (Ap L) v) L[m] k out).2.setKid k ((AB L (Ap L) v c (Bg (AB L (Ap L) v) L[m] k out).1).2 : Int)) := by
      simp only [Bg, hc, Int.toNat_natCast]
     rw [hstep]
     refine ⟨_, H1.set H.length (.cel 0 (cNd ((Bg (AB L (Ap L) v) L[m] k out).2.setKid k ((AB L (Ap L) v c (Bg (AB L (Ap L) v) L[m] k out).1).2 : Int)))), ⟨D', rfl, r2.put hbox1, ?_, ⟨by have := hEc.len; have := r3.len; rw [List.length_set]; omega, fun i cs hi hc => ?_, fun i hi => ?_⟩, r4, ?_, fun j hj => ?_⟩, fun rec => ?_⟩
     ·rw [List.getElem?_set_self (List.getElem?_eq_some_iff.1 hbox1).1]
     ·have := (List.getElem?_eq_some_iff.1 hc).1
      rw [List.getElem?_set_ne (by omega)]; exact r3.cel i cs hi (hEc.cel i cs hi hc)
     ·rw [List.getElem?_set_ne (by omega), r3.old i hi]; exact hEc.old i hi
     ·rw [r5 (m + 1) (by omega)]; exact hlc
     ·rw [r5 j (by omega)]; exact hjc j hj
     ·have hcall : Rb (EQ (Sh.f5 d)) (.fn 50 [.ptr s.pd 0 0, .ptr s.pl 0 0, .ptr s.pv 0 0, .ptr s.pa 0 0]) [.int .i64 (c : Int)] Hc = Sh.f5 d (.int .i64 (c : Int)) (.ptr s.pd 0 0) (.ptr s.pl 0 0) (.ptr s.pv 0 0) (.ptr s.pa 0 0) Hc := rfl
      unfold Sh.f3c
      simp only [GMb, GMc, HPa, HPc, HPd, HPe, HPz, Nat.reduceAdd, Nat.reduceLT, Aw, hk', ag_kid _ hk, hc, Bv hQc.self, Cb, hcall, r1, Du hk, hst, Au (show k < 9223372036854775807 by omega)]
   ·simp only [hlv, GMb, GMc]
    rw [if_neg hlv] at fin
    exact fin _ D hln hQ1 (by simp [Bg]) hE1 hD (fun _ _ => rfl)
theorem c06_of (L : List Nd) (tk : Tok) (n : Int) (H : Ab) (hL : L.length < 1000000000000) : Sh.f21 (.sl (enL cNd L) tk) (.int .i64 n) H =
  some (.ret (if NT L n then .tup [J1 (CE L n.toNat), .int .i64 0] else .tup [J1 [], .int .i64 1]), H) := by
 unfold Sh.f21
 have hbx : Eh true 1 (.sl (enL cNd L) tk) H = some (.ptr H.length 0 0, H ++ [.cel 0 [.sl (enL cNd L) tk]]) := by
  unfold Eh; simp only [acells_sl, alloc_eq (cs := [.sl (enL cNd L) tk]) rfl]; rfl
 have hq0 : Aa.agg [.sl [] .no] = J1 [] := rfl
 simp only [hbx, GMb, GMc, HPa, HPc, HPd, HPe, HPz, Nat.reduceAdd, Nat.reduceLT, c05_loose L tk _ (show L.length < 1152921504606846976 by omega)]
 unfold NT
 have hb0 : A5 (some [(.sl [] .tight)]) [] = some (.agg [.sl [] .tight]) := rfl
 cases hl : Az L with
 | false => simp only [GMb, GMc, HPa, HPc, HPd, HPe, HPz, Nat.reduceAdd, Nat.reduceLT, hb0, hq0, Bool.false_eq_true, if_false]
 | true =>
  by_cases hn0 : n < 0
  ·have : ¬ 0 ≤ n := by omega
   simp only [GMb, GMc, HPa, HPc, HPd, HPe, HPz, Nat.reduceAdd, Nat.reduceLT, hb0, hq0, hn0, this, Bool.false_eq_true, if_false]
  ·have h0' : 0 ≤ n := by omega
   by_cases hn1 : n > L.length
   ·have : ¬ n ≤ L.length := by omega
    simp only [GMb, GMc, HPa, HPc, HPd, HPe, HPz, Nat.reduceAdd, Nat.reduceLT, hb0, hq0, hn0, h0', hn1, this, A2, Bool.false_eq_true, if_false]
   ·obtain ⟨n, rfl⟩ := Int.eq_ofNat_of_zero_le h0'
    have hle : n ≤ L.length := by omega
    have hle' : (n : Int) ≤ (L.length : Int) := by omega
    have hnn : ¬ (n : Int) > (L.length : Int) := hn1
    obtain ⟨s1, s2, s3⟩ := Qu hl hle
    unfold CE
    simp only [GMb, GMc, HPa, HPc, HPd, HPe, HPz, Nat.reduceAdd, Nat.reduceLT, hn0, h0', hnn, hle', A2, c06_shrink L tk n _ (show L.length < 3518437200000 by omega) hl hle, if_true, Int.toNat_natCast]
    generalize BR L n = S at s1 s2 s3
    obtain ⟨M, r⟩ := S
    dsimp only at s1 s2 s3 ⊢
    have hlvv : (At M (r : Int)).lv.toNat < AI := by
     rw [CT]
     by_cases hr : 0 < r
     ·have := lv_le s1 hr s2; omega
     ·obtain rfl : r = 0 := by omega
      unfold At
      rw [List.getD_eq_getElem?_getD]
      by_cases hM : 0 < M.length
      ·rw [show (((0 : Nat) : Int) - 1).toNat = 0 from rfl, List.getElem?_eq_getElem hM]
       have := (A0 s1 hM).2.1
       simp only [Option.getD_some]; omega
      ·rw [show (((0 : Nat) : Int) - 1).toNat = 0 from rfl, List.getElem?_eq_none (by omega)]; simp
    have hmk : ∀ K : Ab, C9 K = some (.mp K.length, K ++ [.map []]) := fun _ => rfl
    have hb1 : ∀ x, A5 (some [.sl [] .tight, .nilmap]) [(1, 1, .mp x)] = some (.agg [.sl [] .tight, .mp x]) := fun _ => rfl
    have hup : Cu false 1 (.mp (H.length + 5)) (.int .i64 0) (.int .i64 0) (H ++ [.cel 0 [.sl (enL cNd M) .no], .cel 0 [.sl [] .tight], .map [], .cel 0 [.sl [] .tight, .mp (H.length + 2)], .cel 0 [.ptr (H.length + 3) 0 0], .map []]) =
      some (H ++ [.cel 0 [.sl (enL cNd M) .no], .cel 0 [.sl [] .tight], .map [], .cel 0 [.sl [] .tight, .mp (H.length + 2)], .cel 0 [.ptr (H.length + 3) 0 0], .map (dnM [(0, 0)])]) := by
     have := updA_dn (H := H ++ [.cel 0 [.sl (enL cNd M) .no], .cel 0 [.sl [] .tight], .map [], .cel 0 [.sl [] .tight, .mp (H.length + 2)], .cel 0 [.ptr (H.length + 3) 0 0], .map []]) (id := H.length + 5) (D := []) (by simp [dnM]) (n := 0) 0 rfl
     rw [show ((0 : Nat) : Int) = 0 from rfl] at this
     rw [this, List.set_append_right _ _ (by omega), show H.length + 5 - H.length = 5 by omega]
     rfl
    have hf : ∀ l : List Aa, Ak 1 (.ptr 0 0 0) (.fn 50 l) [Blk.cel 0 [.nilfn]] = some [.cel 0 [.fn 50 l]] := fun l => Ko rfl (by simp)
    obtain ⟨F, hF⟩ : ∃ F : Ab, F = H ++ [.cel 0 [.sl (enL cNd M) .no], .cel 0 [.sl [] .tight], .map [], .cel 0 [.sl [] .tight, .mp (H.length + 2)], .cel 0 [.ptr (H.length + 3) 0 0], .map (dnM [(0, 0)]), .cel 0 [.mp (H.length + 5)], .cel 0 [.fn 50 [.ptr (H.length + 6) 0 0, .ptr H.length 0 0, .ptr (H.length + 7) 0 0, .ptr (H.length + 4) 0 0]]] := ⟨_, rfl⟩
    have hQ : VQ ⟨H.length, H.length + 6, H.length, H.length + 7, H.length + 4, H.length + 3, H.length + 2, H.length + 5⟩ M .no [] [(0, 0)] F := by
     refine ⟨⟨by dsimp only; omega, by dsimp only; omega, by dsimp only; omega, by dsimp only; omega⟩, ⟨by dsimp only; omega, by dsimp only; omega, by dsimp only; omega, by dsimp only; omega⟩, ?_, ?_, ?_, ?_, ⟨.sl [] .tight, ?_, .inl ⟨rfl, rfl⟩, ?_⟩, ?_⟩ <;> (rw [hF]; simp [knF])
    have hD : VD M [] [(0, 0)] := ⟨by simp, fun p hp => by rw [List.mem_singleton.1 hp]; exact Nat.zero_le _, fun p hp => by rw [List.mem_singleton.1 hp]; exact G5 (.inl rfl), by simp, rfl⟩
    obtain ⟨H', D', v1, v2, v3, v4, v5⟩ := c06_visit (s := ⟨H.length, H.length + 6, H.length, H.length + 7, H.length + 4, H.length + 3, H.length + 2, H.length + 5⟩) (L := M) (tk := .no) (by omega) s1 (At M (r : Int)).lv.toNat r AI [] [(0, 0)] F s2 (.inr rfl) hlvv hQ hD
    dsimp only at v1 v3
    have hcall : Rb Ge (.fn 50 [.ptr (H.length + 6) 0 0, .ptr H.length 0 0, .ptr (H.length + 7) 0 0, .ptr (H.length + 4) 0 0]) [.int .i64 (r : Int)] F = Sh.f5 AI (.int .i64 (r : Int)) (.ptr (H.length + 6) 0 0) (.ptr H.length 0 0) (.ptr (H.length + 7) 0 0) (.ptr (H.length + 4) 0 0) F := rfl
    rw [v1] at hcall
    rw [hF] at hcall
    have hres : H'[H.length + 1]? = some (.cel 0 [.sl [] .tight]) := v3.cel _ _ (by omega) (by rw [hF]; simp)
    have hold : ∀ i, i < H.length → H'[i]? = H[i]? := fun i hi => by rw [v3.old i hi, hF, List.getElem?_append_left hi]
    obtain ⟨v, hA⟩ := v2.nodes
    have hpa := Bv (o := 0) (sz := 1) v2.arena
    have har := Bv (o := 0) (sz := 1) hA.cell
    dsimp only at hpa har
    obtain ⟨tk3, rfl⟩ := hA.row.sl
    generalize (AB M (Ap M) (At M (r : Int)).lv.toNat r []).1 = Q at *
    have hb : A5 (some [(.sl [] .tight)]) [(0, 1, .sl (enL cNd Q) tk3)] = some (.agg [.sl (enL cNd Q) tk3]) := by simp [A5, G7, D4]
    have hst := st_agg (sz := 1) (ws := [.sl (enL cNd Q) tk3]) hres rfl rfl rfl
    have hcl := (List.getElem?_eq_some_iff.1 hres).1
    have hld := ld_agg (sz := 1) (H := H'.set (H.length + 1) (.cel 0 [.sl (enL cNd Q) tk3])) (p := H.length + 1) (by rw [List.getElem?_set_self hcl]) rfl
    have htake : (H'.set (H.length + 1) (.cel 0 [.sl (enL cNd Q) tk3])).take H.length = H := BN fun i hi => by
     rw [List.getElem?_set_ne (by omega)]; exact hold i hi
    simp only [GMb, GMc, HPa, HPc, HPd, HPe, HPz, Nat.reduceAdd, Nat.reduceLT, hmk, hb1, hup, hf, hcall, hpa, har, Cb, hb, hst, hld, Fw htake]
    rfl
end Go.Gm
