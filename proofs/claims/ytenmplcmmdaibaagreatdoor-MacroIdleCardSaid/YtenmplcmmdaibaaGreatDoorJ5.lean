/- Texts of this proof, joined. -/
import Derived.Test.YtenmplcmmdaibaaGreatDoorJ3
import Derived.Test.YtenmplcmmdaibaaGreatDoorJ4
import Derived.Lib.ItoaNum
import Derived.Lib.Repeat
import Derived.Lib.Join
import Derived.Lib.TrimByte
import Derived.Laws.RangeAny
import Derived.Laws.RangeString
set_option linter.unusedVariables false
set_option linter.unusedSimpArgs false
namespace Go.Gm
theorem OY (a : Nat) (l : List Nat) : val (a :: l) = a + 4294967296 * val l := rfl
theorem div_step {m a v : Nat} (hm : 0 < m) : (a + 4294967296 * v) / m = (v % m * 4294967296 + a) / m + 4294967296 * (v / m) ∧ (a + 4294967296 * v) % m = (v % m * 4294967296 + a) % m := by
 have h := Nat.div_add_mod v m
 have e : a + 4294967296 * v = (v % m * 4294967296 + a) + m * (4294967296 * (v / m)) := by
  conv => lhs; rw [← h]
  rw [Nat.mul_add, Nat.mul_left_comm]
  omega
 rw [e, Nat.add_mul_div_left _ _ hm, Nat.add_mul_mod_self_left]
 exact ⟨rfl, rfl⟩
theorem quo_lt {m a r : Nat} (hr : r < m) (ha : a < 4294967296) : (r * 4294967296 + a) / m < 4294967296 := by
 rw [Nat.div_lt_iff_lt_mul (by omega)]
 have : (r + 1) * 4294967296 ≤ m * 4294967296 := Nat.mul_le_mul_right _ hr
 omega
theorem q01_div (l : List Nat) (tk : Tok) (m : Nat) (H : Ab) (hl : l.length ≤ 1099511627776) (hx : Lim l) (hm0 : 0 < m) (hm : m < 4294967296) :
  Sh.f29 (.sl (enL cU l) tk) (.int .u32 (m : Int)) H = some (.ret (.tup [.sl (enL cU (C9 (val l / m))) .no, .int .u32 ((val l % m : Nat) : Int)]), H) := by
 unfold Sh.f29
 have hm0' : ¬ (m : Int) = 0 := by omega
 have hmk := F6 (f := cU) (a := 0) (n := l.length) (bytes := 4) (H := H) (by omega) (by omega)
 simp only [show cU 0 = [Aa.int .u32 0] from rfl] at hmk
 have hcm : ∀ n : Int, AP .u64 (.int .u32 (m : Int)) = some (.int .u64 (m : Int)) := fun _ => by rw [BN, CH (by omega) (by omega)]
 simp only [GMb, GMc, hm0', A2, hmk]
 have hw0 : IntKind.i64.wrap ((l.length : Int) - 1) = (l.length : Int) - 1 := A0 (by omega) (by omega)
 rw [hw0]
 have key := Br (G := fun rec1 vs H1 => Sh.f4p H rec1 (ag vs 0) (ag vs 1) (ag vs 2) (ag vs 3) (ag vs 4) H1) (σ := Nat × List Nat) (fun s => s.1 ≤ l.length ∧ s.2.length = l.length ∧ Lim s.2 ∧ val (s.2.drop s.1) = val (l.drop s.1) / m)
  (fun s => [.sl (enL cU l) tk, .int .u32 (m : Int), .ms H.length 0 0 l.length l.length 1 true, .int .u64 ((val (l.drop s.1) % m : Nat) : Int), .int .i64 ((s.1 : Int) - 1)]) (fun s => H ++ [.cel 0 (flat cU s.2)]) (fun s => s.1)
  (fun _ => some (.ret (.tup [.sl (enL cU (C9 (val l / m))) .no, .int .u32 ((val l % m : Nat) : Int)]), H)) (fun s rec hs hrec => ?_) (l.length, List.replicate l.length 0) ⟨Nat.le_refl _, by simp, fun x hx => by have := (List.mem_replicate.1 hx).2; omega, by simp [val]⟩ (by dsimp only; omega)
 ·simp only [List.drop_length, show val [] = 0 from rfl, Nat.zero_mod] at key
  exact key
 ·obtain ⟨k, O⟩ := s
  obtain ⟨h1, h2, h3, h4⟩ := hs
  simp only at h1 h2 h3 h4 hrec ⊢
  unfold Sh.f4p
  cases k with
  | zero =>
   have hrow := row_ms (l := O) (H := H ++ [Blk.cel 0 (flat cU O)]) (id := H.length) A9
   rw [h2] at hrow
   have hn := q01_normR hrow (by omega) h3
   have hv : val O = val l / m := by simpa using h4
   have hlt : val l % m < m := Nat.mod_lt _ hm0
   have hcv : AP .u32 (.int .u64 ((val l % m : Nat) : Int)) = some (.int .u32 ((val l % m : Nat) : Int)) := by rw [BN, CZ (by omega) (by omega)]
   simp only [GMb, GMc, Ay, show ¬ (((0 : Nat) : Int) - 1 ≥ 0) from by decide, hn, List.drop_zero, hcv, hv, DG, EZ, C4, Dk, Kz, DZ, Option.map_some]
  | succ j =>
   have hj : j < l.length := h1
   have hi : ((j + 1 : Nat) : Int) - 1 = (j : Int) := by omega
   have ha := hx _ (List.getElem_mem hj)
   have hd : l.drop j = l[j] :: l.drop (j + 1) := List.drop_eq_getElem_cons hj
   have hr : val (l.drop (j + 1)) % m < m := Nat.mod_lt _ hm0
   obtain ⟨s1, s2⟩ := div_step (m := m) (a := l[j]) (v := val (l.drop (j + 1))) hm0
   have hq := quo_lt (m := m) (a := l[j]) (r := val (l.drop (j + 1)) % m) hr ha
   have hmul : val (l.drop (j + 1)) % m * 4294967296 ≤ 4294967295 * 4294967296 := Nat.mul_le_mul_right _ (by omega)
   generalize hrr : val (l.drop (j + 1)) % m = r at *
   have w1 : IntKind.u64.wrap ((r : Int) * 4294967296) = ((r * 4294967296 : Nat) : Int) := by rw [CH] <;> omega
   have w2 : AP .u64 (.int .u32 (l[j] : Int)) = some (.int .u64 (l[j] : Int)) := by rw [BN, CH (by omega) (by omega)]
   have w3 : IntKind.u64.wrap (((r * 4294967296 : Nat) : Int) + (l[j] : Int)) = ((r * 4294967296 + l[j] : Nat) : Int) := by rw [CH] <;> omega
   have w4 : IntKind.u64.wrap (((r * 4294967296 + l[j] : Nat) : Int).tdiv (m : Int)) = (((r * 4294967296 + l[j]) / m : Nat) : Int) := by
    rw [show (((r * 4294967296 + l[j] : Nat) : Int).tdiv (m : Int)) = (((r * 4294967296 + l[j]) / m : Nat) : Int) from rfl, CH (Int.natCast_nonneg _) (Int.lt_of_lt_of_le (Int.ofNat_lt.2 hq) (by decide))]
   have w5 : AP .u32 (.int .u64 (((r * 4294967296 + l[j]) / m : Nat) : Int)) = some (.int .u32 (((r * 4294967296 + l[j]) / m : Nat) : Int)) := by rw [BN, CZ (Int.natCast_nonneg _) (Int.ofNat_lt.2 hq)]
   have w6 : (((r * 4294967296 + l[j] : Nat) : Int).tmod (m : Int)) = (((r * 4294967296 + l[j]) % m : Nat) : Int) := rfl
   have w7 : IntKind.i64.wrap ((j : Int) - 1) = (j : Int) - 1 := A0 (by omega) (by omega)
   have hidx := Ek (sz := 1) (id := H.length) (n := l.length) (K := .i64) (g := 0) (off := 0) (cap := l.length) (ex := true) (i := j) hj
   simp only [Nat.zero_add, Nat.mul_one] at hidx
   have hst := FC (f := cU) (sz := 1) (l := O) (i := j) (a := (r * 4294967296 + l[j]) / m) (v := .int .u32 (((r * 4294967296 + l[j]) / m : Nat) : Int)) (H := H ++ [Blk.cel 0 (flat cU O)]) (id := H.length) (Ba A9) (by omega) rfl
   rw [Nat.mul_one, CI A9, BJ] at hst
   have hge : ((j : Int) ≥ 0) := by omega
   have hmz : (m : Int) ≠ 0 := hm0'
   have := hrec (j, O.set j ((r * 4294967296 + l[j]) / m)) ⟨by omega, by simp [h2], fun x hxx => by
     rcases List.mem_or_eq_of_mem_set hxx with h | h
     ·exact h3 x h
     ·rw [h]; exact hq, by
     dsimp only
     rw [hd, OY, s1, List.drop_set, if_neg (by omega), Nat.sub_self, List.drop_eq_getElem_cons (by omega : j < O.length), List.set_cons_zero, OY, h4]⟩ (by dsimp only; omega)
   dsimp only at this
   rw [hd, OY, s2] at this
   rw [hi]
   simp only [GMb, GMc, Ay, hge, w1, Aw hj, Au, List.getElem?_cons_zero, w2, w3, hcm 0, Lc hmz, w4, w5, hidx, hst, and_true, eq_self, Il hmz, w6, w7]
   exact this
end Go.Gm
namespace Go.Gm
def AT (n : Nat) : List UInt8 := if h : n < 10 then [UInt8.ofNat (48 + n)] else AT (n / 10) ++ [UInt8.ofNat (48 + n % 10)]
termination_by n
decreasing_by omega
def G5 (z : Int) : List UInt8 := if z < 0 then 45 :: AT z.natAbs else AT z.natAbs
theorem decN_len : ∀ n, (AT n).length ≤ n + 1 := by
 intro n
 induction n using Nat.strongRecOn with
 | ind n ih =>
  unfold AT
  split
  ·simp
  ·have := ih (n / 10) (by omega)
   simp; omega
theorem decN_log : ∀ (k n : Nat), n < 10 ^ (k + 1) → (AT n).length ≤ k + 1 := by
 intro k
 induction k with
 | zero => intro n h; unfold AT; rw [dif_pos (by omega)]; simp
 | succ k ih =>
  intro n h
  unfold AT
  split
  ·simp
  ·have h2 : n / 10 < 10 ^ (k + 1) := by
    rw [Nat.div_lt_iff_lt_mul (by omega), ← Nat.pow_succ]; exact h
   have := ih (n / 10) h2
   simp; omega
theorem ND (k n : Nat) (h : n < 10 ^ k) : (AT n).length ≤ k + (if k = 0 then 1 else 0) := by
 cases k with
 | zero => have := decN_log 0 n (by omega); simpa using this
 | succ k => have := decN_log k n h; simpa using this
theorem digit_u8 {d : Nat} (h : d < 10) : AP .u8 (.int .u32 (IntKind.u32.wrap (48 + (d : Int)))) = some (.int .u8 ((UInt8.ofNat (48 + d)).toNat : Int)) := by
 rw [BN, CZ (by omega) (by omega), wrap_u8 (by omega) (by omega), UInt8.toNat_ofNat_of_lt' (show 48 + d < 256 by omega)]
 rfl
theorem pow10_32 (k : Nat) : 10 ^ k ≤ 4294967296 ^ k := Nat.pow_le_pow_left (by omega) k
theorem PO {n : Nat} (h : n < 10 ^ 4096) : (C9 n).length ≤ 4096 := lims_len (Nat.lt_of_lt_of_le h (pow10_32 4096))
theorem Pw (z : Int) (H : Ab) (hz : z.natAbs < 10 ^ 4096) : Sh.fk (big z) H = some (.ret (.str (G5 z)), H) := by
 unfold Sh.fk
 have g0 : Ad false 1 (.ptr H.length 0 0) (H ++ [Blk.cel 0 (E5 z)]) = some (.bool (decide (z < 0))) := by simp only [Ad, Ba A9, Option.bind_some]; rfl
 have g1 : Ad false 1 (.ptr H.length 0 1) (H ++ [Blk.cel 0 (E5 z)]) = some (.sl (enL cU (C9 z.natAbs)) .no) := by simp only [Ad, Ba A9, Option.bind_some]; rfl
 simp only [GMb, GMc, boxBig, Ah, Nat.zero_add, g1]
 have hmeas : ∀ n : Nat, n < 10 ^ 4096 → (AT n).length ≤ 4096 := fun n h => ND 4096 n h
 have key := Br (G := fun rec1 vs H1 => Sh.f4q H rec1 (ag vs 0) (ag vs 1) (ag vs 2) H1) (σ := Nat × List UInt8) (fun s => s.1 < 10 ^ 4096 ∧ s.2.length + (AT s.1).length ≤ 5000)
  (fun s => [.ptr H.length 0 0, .str s.2, .sl (enL cU (C9 s.1)) .no]) (fun _ => H ++ [.cel 0 (E5 z)]) (fun s => (AT s.1).length)
  (fun s => some (.ret (.str ((if z < 0 then [45] else []) ++ AT s.1 ++ s.2)), H)) (fun s rec hs hrec => ?_) (z.natAbs, []) ⟨hz, by have := hmeas _ hz; simp; omega⟩ (by have := hmeas _ hz; dsimp only; omega)
 ·refine key.trans ?_
  unfold G5
  dsimp only
  split <;> simp
 ·obtain ⟨n, s⟩ := s
  obtain ⟨h1, h2⟩ := hs
  simp only at h1 h2 hrec ⊢
  have hdiv := fun H => q01_div (C9 n) .no 10 H (by have := PO h1; omega) (lim_lims n) (by omega) (by omega)
  simp only [G9, show ((10 : Nat) : Int) = 10 from rfl] at hdiv
  have hd : n % 10 < 10 := Nat.mod_lt _ (by omega)
  have hdig := digit_u8 hd
  unfold Sh.f4q
  simp only [GMb, GMc, Ay, hdiv, Dx, EH, hdig, build_Y, toStr_enL]
  rw [AV (by simp; omega)]
  simp only [GMb, GMc, A2]
  by_cases hn : n < 10
  ·have h0 : n / 10 = 0 := by omega
   have hm : n % 10 = n := by omega
   have hdn : AT n = [UInt8.ofNat (48 + n)] := by unfold AT; rw [dif_pos hn]
   rw [hdn, h0, KQ, hm]
   simp only [GMb, GMc, List.length_nil, show ((0 : Nat) : Int) = 0 from rfl, Ah, Nat.add_zero, g0]
   by_cases hz0 : z < 0
   ·simp only [hz0, GMb, GMc]
    rw [AV (by simp; omega)]
    simp only [GMb, GMc, rP_str]
    simp
   ·simp only [hz0, GMb, GMc, rP_str]
    simp
  ·have h0 : n / 10 ≠ 0 := by omega
   have hne : ¬ ((C9 (n / 10)).length : Int) = 0 := by
    have := List.length_pos_iff.2 (lims_ne h0); omega
   have hdn : AT n = AT (n / 10) ++ [UInt8.ofNat (48 + n % 10)] := by
    conv => lhs; unfold AT
    rw [dif_neg hn]
   have hlen : (AT n).length = (AT (n / 10)).length + 1 := by rw [hdn]; simp
   have := hrec (n / 10, [UInt8.ofNat (48 + n % 10)] ++ s) ⟨Nat.lt_of_le_of_lt (Nat.div_le_self _ _) h1, by simp; omega⟩ (by dsimp only; omega)
   simp only [hne, GMb, GMc]
   rw [this, hdn]
   simp
end Go.Gm
namespace Go.Gm
abbrev Er := Option (Int × List UInt8)
def codeR : Er → Int
 | none => 0
 | some e => e.1
@[simp] theorem codeR_none : codeR none = 0 := rfl
@[simp] theorem codeR_some (e : Int × List UInt8) : codeR (some e) = e.1 := rfl
def FB (b : List UInt8) (a : Nat) (s : List UInt8) : Int × List UInt8 := if a = b.length then (3, s) else (2, [])
def B3 (b : List UInt8) (a : Nat) (s rest : List UInt8) : Er × Nat := (if cpN (b.drop a) s < s.length then some (FB b (G2 b a s) (s.drop (cpN (b.drop a) s) ++ rest)) else none, G2 b a s)
def G4 (b : List UInt8) (a : Nat) (rest : List UInt8) : Er × Nat := (if a = b.length then none else if A8 b (crN b a) [10] then none else some (FB b (crN b a) (10 :: rest)), eolN b a)
def O4 (b : List UInt8) (f : Nat) (rest : List UInt8) : Er × Nat := (if Gh b f 40 f = f then some (FB b f (97 :: rest)) else none, Gh b f 40 f)
def BM : List UInt8 := [48, 49, 50, 51, 52, 53, 54, 55, 56, 57]
def Km (b : List UInt8) (f : Nat) (rest : List UInt8) : Nat → Nat → Er × Nat
 | 0, a => (none, a)
 | n + 1, a =>
  if A8 b a BM then
   if f < a ∧ b[f]? = some 48 then (some (FB b a []), a)
   else if a - f = 400 then (some (4, []), a)
   else Km b f rest n (a + 1)
  else if a = f then (some (FB b a (49 :: rest)), a) else (none, a)
def Nl (b : List UInt8) (a : Nat) (neg : Bool) : Nat := if neg && A8 b a [45] then a + 1 else a
def FI (b : List UInt8) (a : Nat) (neg : Bool) (rest : List UInt8) : Er × Nat :=
 if neg && A8 b a [45] && A8 b (a + 1) [48] then (some (FB b (a + 1) []), a + 1) else Km b (Nl b a neg) rest 402 (Nl b a neg)
structure MSt where
 law : List UInt8
 nodes : List Nd
 lines : List (Nat × Int)
def Mw (b : List UInt8) (a : Nat) (st : MSt) : (Er × Nat) × MSt :=
 if A8 b (a + 1) [67] then ((none, Ff b (a + 1)), st)
 else if A8 b (a + 1) [71] then
  match B3 b (a + 1) [71, 32] [49] with
  | (some e, c) => ((some e, c), st)
  | (none, c) => (FI b c false [], st)
 else if A8 b (a + 1) [82] then
  match B3 b (a + 1) [82, 32] [97] with
  | (some e, c) => ((some e, c), st)
  | (none, c) => match O4 b c [] with
   | (some e, d) => ((some e, d), st)
   | (none, d) => ((none, d), { st with law := (b.take d).drop c })
 else ((some (FB b (a + 1) [67]), a + 1), st)
def sqK (on : Nat → Nat → Bool) (rec : Nat → Nat → List Nd → List Nd) (level x y half : Nat) : Nat → List Nd → List Nd × Nd
 | 0, l => (l, ⟨level, 0, 0, 0, 0⟩)
 | k + 1, l =>
  let r := sqK on rec level x y half k l
  if level ≤ 1 then (r.1, r.2.setKid k (if on (x + k % 2 * half) (y + k / 2 * half) then 1 else 0))
  else let m := rec (x + k % 2 * half) (y + k / 2 * half) r.1
   (m, r.2.setKid k (m.length : Int))
def sqF (on : Nat → Nat → Bool) : Nat → Nat → Nat → List Nd → List Nd
 | 0, _, _, l => l
 | v + 1, x, y, l =>
  let r := sqK on (sqF on v) (v + 1) x y (2 ^ v) 4 l
  r.1 ++ [r.2]
def onQ (on : List Bool) (x y : Nat) : Bool := on.getD (y * 8 + x) false
def DX (b : List UInt8) : Nat → Nat → Nat → Nat → List Bool → Er × Nat × List Bool
 | 0, a, _, _, on => (none, a, on)
 | n + 1, a, x, y, on =>
  if A8 b a [46, 42, 36] then
   if y = 8 ∨ (x = 8 ∧ ¬ A8 b a [36] = true) then (some (FB b a []), a, on)
   else if A8 b a [36] then DX b n (a + 1) 0 (y + 1) on
   else DX b n (a + 1) (x + 1) y (on.set (y * 8 + x) (A8 b a [42]))
  else (none, a, on)
def PQ (b : List UInt8) (a : Nat) (st : MSt) : (Er × Nat) × MSt :=
 match DX b (b.length + 1 - a) a 0 0 (List.replicate 64 false) with
 | (some e, c, _) => ((some e, c), st)
 | (none, c, on) => ((none, c), { st with nodes := sqF (onQ on) 3 0 0 st.nodes, lines := st.lines ++ [((sqF (onQ on) 3 0 0 st.nodes).length, 3)] })
def Dy (b : List UInt8) (a : Nat) : Nat := (b.getD a 48).toNat - 48
def Ge (b : List UInt8) : Nat → Nat → Nat → Er × Nat × Nat
 | 0, a, n => (none, a, n)
 | k + 1, a, n =>
  if A8 b a BM then
   if 1329 < 10 * n + Dy b a then (some (4, []), a, n) else Ge b k (a + 1) (10 * n + Dy b a)
  else if n = 0 then (some (FB b a []), a, n) else (none, a, n)
def Cd (b : List UInt8) (a : Nat) : Er × Nat × Nat := if A8 b a [48] then (some (FB b a []), a, 0) else Ge b (b.length + 1 - a) a 0
def Df (lines : List (Nat × Int)) (level : Int) (n : Nat) : Bool :=
 if level = 1 then decide (n ≤ 255) else if n = 0 then true else match lines[n - 1]? with
  | some q => decide (q.2 = level - 1)
  | none => false
def FH (lines : List (Nat × Int)) (level : Int) : Nat → Nat → Nat → Option Nat
 | 0, _, _ => none
 | f + 1, low, high =>
  if low ≤ lines.length then
   match (List.range (min high lines.length + 1 - low)).find? (fun i => Df lines level (low + i)) with
   | some i => some (low + i)
   | none => FH lines level f (low * 10) (high * 10 + 9)
  else none
def EU (lines : List (Nat × Int)) (level : Int) (n : Nat) : Option Nat := if Df lines level n then some n else if n = 0 then none else FH lines level (lines.length + 1) (n * 10) (n * 10 + 9)
def GR (b : List UInt8) (lines : List (Nat × Int)) (level : Int) (f : Nat) (rest : List UInt8) : Nat → Nat → Nat → Er × Nat × Nat
 | 0, a, n => (none, a, n)
 | k + 1, a, n =>
  if A8 b a BM then
   if f < a ∧ n = 0 then (some (FB b a []), a, n)
   else if (EU lines level (10 * n + Dy b a)).isSome then GR b lines level f rest k (a + 1) (10 * n + Dy b a)
   else (some (FB b a []), a, n)
  else if a = f then (some (FB b a (48 :: rest)), a, n)
  else if Df lines level n then (none, a, n)
  else (some (FB b a ((AT ((EU lines level n).getD 0)).drop (a - f) ++ rest)), a, n)
def Db (lines : List (Nat × Int)) (level : Int) (n : Nat) : Nat := if 1 < level ∧ 0 < n then ((lines[n - 1]?).getD (0, 0)).1 else n
def Mz (b : List UInt8) (a : Nat) (lines : List (Nat × Int)) (level : Int) (rest : List UInt8) : Er × Nat × Nat :=
 match GR b lines level a rest (b.length + 1 - a) a 0 with
 | (e, c, n) => (e, c, Db lines level n)
def Ei (b : List UInt8) (lines : List (Nat × Int)) (level : Int) : Nat → Nat → Nat → Nd → List UInt8 → Er × Nat × Nd
 | 0, _, a, x, _ => (none, a, x)
 | d + 1, k, a, x, rest => match B3 b a [32] (48 :: rest) with
  | (some e, c) => (some e, c, x)
  | (none, c) => match Mz b c lines level rest with
   | (some e, c', _) => (some e, c', x)
   | (none, c', n) => Ei b lines level d (k + 1) c' (x.setKid k (n : Int)) (rest.drop 2)
def Mp (b : List UInt8) (a : Nat) (st : MSt) : (Er × Nat) × MSt :=
 match Cd b a with
 | (some e, c, _) => ((some e, c), st)
 | (none, c, v) => match Ei b st.lines v 4 0 c ⟨v, 0, 0, 0, 0⟩ [32, 48, 32, 48, 32, 48] with
  | (some e, c', _) => ((some e, c'), st)
  | (none, c', x) => ((none, c'), { st with nodes := st.nodes ++ [x], lines := st.lines ++ [(st.nodes.length + 1, (v : Int))] })
def rlS (b : List UInt8) (N : Int) (a : Nat) (st : MSt) : (Er × Nat) × MSt :=
 if A8 b a [35] then Mw b a st
 else if A8 b a [46, 42, 36, 49, 50, 51, 52, 53, 54, 55, 56, 57] && decide ((st.lines.length : Int) ≥ N) then ((some (4, []), a), st)
 else if A8 b a [46, 42, 36] then PQ b a st
 else Mp b a st
def IX (b : List UInt8) (N : Int) (a : Nat) (st : MSt) : (Er × Nat) × MSt :=
 match rlS b N a st with
 | ((some e, c), st') => ((some e, c), st')
 | ((none, c), st') => (G4 b c [], st')
def BI (b : List UInt8) (N : Int) : Nat → Nat → MSt → (Er × Nat) × MSt
 | 0, a, st => ((none, a), st)
 | k + 1, a, st =>
  if a = b.length then ((none, a), st)
  else match IX b N a st with
   | ((some e, c), st') => ((some e, c), st')
   | ((none, c), st') => BI b N k c st'
def C2 : List UInt8 := [91, 77, 50, 93]
def Da : List UInt8 := [66, 51, 47, 83, 50, 51]
def Gf (b : List UInt8) (N : Int) (st : MSt) : (Er × Nat) × MSt :=
 match B3 b 0 C2 [] with
 | (some e, c) => ((some e, c), st)
 | (none, c) => match G4 b (Ff b c) [] with
  | (some e, d) => ((some e, d), st)
  | (none, d) => BI b N (b.length + 1) d st
end Go.Gm
namespace Go.Gm

def LO (b : List UInt8) (f : Nat) (rest : List UInt8) : Nat → Nat → Option Aa × Nat
 | 0, a => (none, a)
 | n + 1, a =>
  if A8 b a BM then
   if f < a ∧ b[f]? = some 48 then (some (NS b a []), a)
   else if a - f = 400 then (some (Qa 4 []), a)
   else LO b f rest n (a + 1)
  else if a = f then (some (NS b a (49 :: rest)), a) else (none, a)
theorem numR_le (b : List UInt8) (f : Nat) (rest : List UInt8) : ∀ n a, a ≤ b.length → a ≤ (LO b f rest n a).2 ∧ (LO b f rest n a).2 ≤ b.length
 | 0, a, h => ⟨Nat.le_refl _, h⟩
 | n + 1, a, h => by
  unfold LO
  by_cases hs : A8 b a BM = true
  ·rw [if_pos hs]
   by_cases h1 : f < a ∧ b[f]? = some 48
   ·rw [if_pos h1]; exact ⟨Nat.le_refl _, h⟩
   ·rw [if_neg h1]
    by_cases h2 : a - f = 400
    ·rw [if_pos h2]; exact ⟨Nat.le_refl _, h⟩
    ·rw [if_neg h2]
     have := numR_le b f rest n (a + 1) (Cr hs)
     exact ⟨by omega, this.2⟩
  ·rw [if_neg hs]
   by_cases h1 : a = f
   ·rw [if_pos h1]; exact ⟨Nat.le_refl _, h⟩
   ·rw [if_neg h1]; exact ⟨Nat.le_refl _, h⟩
theorem numR_on {b : List UInt8} {f a : Nat} {rest : List UInt8} {n : Nat} (hs : A8 b a BM = true) (h1 : ¬ (f < a ∧ b[f]? = some 48)) (h2 : ¬ a - f = 400) : LO b f rest (n + 1) a = LO b f rest n (a + 1) := by
 rw [LO, if_pos hs, if_neg h1, if_neg h2]
noncomputable def numO (H0 K : Ab) (p : Nat) (b : List UInt8) (r : List Aa) (q from_ : Aa) : Option Aa × Nat → Out
 | (some v, e) => some (.pan v, AJ K p b r e)
 | (none, e) => Sh.f2i H0 (.ptr p 0 0) q from_ (AJ K p b r e)
theorem lx_num_loop {H0 K : Ab} {p f : Nat} {b : List UInt8} {r : List Aa} (h : Lx K p b f r) (hf : f ≤ b.length) (hb : b.length < 1152921504606846976) (rest : List UInt8) (hr : rest.length ≤ 1000000) (q from_ : Aa) :
  Ao (fun rec2 vs H => Sh.f2z H0 rec2 (ag vs 0) (ag vs 1) (ag vs 2) (ag vs 3) (ag vs 4) H) AI [.ptr p 0 0, .str rest, q, from_, .int .i64 (f : Int)] K = numO H0 K p b r q from_ (LO b f rest 402 f) := by
 have key := Br (G := fun rec2 vs H => Sh.f2z H0 rec2 (ag vs 0) (ag vs 1) (ag vs 2) (ag vs 3) (ag vs 4) H) (σ := Nat) (fun i => f ≤ i ∧ i ≤ b.length ∧ i - f ≤ 400) (fun _ => [.ptr p 0 0, .str rest, q, from_, .int .i64 (f : Int)]) (fun i => AJ K p b r i) (fun i => b.length - i)
  (fun i => numO H0 K p b r q from_ (LO b f rest (402 - (i - f)) i)) (fun i rec hi hrec => ?_) f ⟨Nat.le_refl _, hf, by omega⟩ (by omega)
 ·rw [BC h, Nat.sub_self, Nat.sub_zero] at key; exact key
 ·obtain ⟨h1, h2, h3⟩ := hi
  have hx := C6 (a' := i) h
  have e : 402 - (i - f) = (401 - (i - f)) + 1 := by omega
  have hcat : Af .none .add (.str [49]) (.str rest) = some (.str (49 :: rest)) := AV (by simp only [List.length_cons, List.length_nil]; omega)
  unfold Sh.f2z
  have hsee := BW hx h2 BM
  unfold BM at hsee
  rw [e]
  have hseesd : A8 b i [48, 49, 50, 51, 52, 53, 54, 55, 56, 57] = A8 b i BM := rfl
  simp only [GMb, GMc, hsee, hseesd]
  cases hs : A8 b i BM with
  | true =>
   have hlt := Cr hs
   have hfl : f < b.length := by omega
   have hw : IntKind.i64.wrap ((i : Int) - (f : Int)) = ((i - f : Nat) : Int) := by rw [A0] <;> omega
   have tail : ¬ (f < i ∧ b[f]? = some 48) → ((Af .none .sub (.int .i64 (i : Int)) (.int .i64 (f : Int))).bind fun x56 =>
     (Af .none .eql x56 (.int .i64 400)).bind fun x57 =>
     Am x57 (bK H0 (Sh.f6 (.ptr p 0 0) (AJ K p b r i)) fun x58 H59 => Sh.f2y H0 rec (.ptr p 0 0) (.str rest) q from_ (.int .i64 (f : Int)) H59)
      (Sh.f2y H0 rec (.ptr p 0 0) (.str rest) q from_ (.int .i64 (f : Int)) (AJ K p b r i))) = numO H0 K p b r q from_ (LO b f rest (401 - (i - f) + 1) i) := by
    intro hn
    simp only [GMb, GMc, hw]
    by_cases h4 : i - f = 400
    ·have h4' : ((i - f : Nat) : Int) = 400 := by omega
     rw [LO, if_pos hs, if_neg hn, if_pos h4]
     simp only [h4', GMb, GMc, lx_limit]
     rfl
    ·have h4' : ¬ ((i - f : Nat) : Int) = 400 := by omega
     rw [numR_on hs hn h4]
     unfold Sh.f2y
     simp only [h4', GMb, GMc, Ae, Ah, Nat.zero_add, Dv hx, Av (show i < 9223372036854775807 by omega), EO h]
     have := hrec (i + 1) ⟨by omega, by omega, by omega⟩ (by omega)
     rw [show 402 - (i + 1 - f) = 401 - (i - f) by omega] at this
     exact this
   by_cases hfi : f < i
   ·have hfi' : (i : Int) > (f : Int) := by omega
    simp only [GMb, GMc, Ae, Ah, Nat.zero_add, Dv hx, QE hx, hfi', Gr hfl, Ay]
    by_cases h0 : b[f] = 48
    ·rw [LO, if_pos hs, if_pos ⟨hfi, by rw [List.getElem?_eq_getElem hfl, h0]⟩]
     simp only [h0, GMb, GMc, KM hx]
     rfl
    ·have h0' : ¬ ((b[f].toNat : Int) = 48) := fun hc => h0 (UInt8.toNat_inj.1 (by show b[f].toNat = 48; omega))
     simp only [h0', GMb, GMc]
     exact tail (fun hc => h0 (by have := hc.2; rw [List.getElem?_eq_getElem hfl] at this; exact Option.some.inj this))
   ·have hfi' : ¬ (i : Int) > (f : Int) := by omega
    simp only [GMb, GMc, Ae, Ah, Nat.zero_add, Dv hx, hfi', Ay]
    exact tail (fun hc => hfi hc.1)
  | false =>
   rw [LO, if_neg (by rw [hs]; exact Bool.false_ne_true)]
   simp only [GMb, GMc, Ae, Ah, Nat.zero_add, Dv hx, Ay]
   by_cases he : i = f
   ·have he' : (i : Int) = (f : Int) := by omega
    rw [if_pos he]
    simp only [he', GMb, GMc, hcat, KM hx]
    rfl
   ·have he' : ¬ (i : Int) = (f : Int) := by omega
    rw [if_neg he]
    simp only [he', GMb, GMc]
    rfl
end Go.Gm
namespace Go.Gm
def Jp (l : List Nat) : Nat → Nat
 | 0 => 0
 | k + 1 => if l[k]?.getD 0 = 0 then Jp l k else k + 1
theorem topK_le (l : List Nat) : ∀ k, Jp l k ≤ k
 | 0 => Nat.le_refl _
 | k + 1 => by
  have := topK_le l k
  unfold Jp
  split <;> omega
theorem QX {l : List Nat} (hx : Lim l) : ∀ k, k ≤ l.length → l.take (Jp l k) = C9 (val (l.take k))
 | 0, _ => by
  have : C9 (val ([] : List Nat)) = [] := (PN (l := []) ⟨fun x h => (by cases h), fun x h => (by cases h)⟩).symm
  simpa [Jp] using this.symm
 | k + 1, hk => by
  have hg : l[k]? = some l[k] := List.getElem?_eq_getElem (by omega)
  have ht : l.take (k + 1) = l.take k ++ [l[k]] := List.take_succ_eq_append_getElem (by omega)
  unfold Jp
  split
  ·rename_i h
   rw [QX hx k (by omega), ht, EB]
   rw [hg, Option.getD_some] at h
   rw [h]
   simp [val]
  ·rename_i h
   rw [hg, Option.getD_some] at h
   refine PN ⟨fun x hxl => hx x (List.mem_of_mem_take hxl), fun x hxl => ?_⟩
   rw [ht, List.getLast?_concat] at hxl
   cases hxl
   exact h
theorem q_right {l : List Nat} {H : Ab} {id k : Nat} (hg : H[id]? = some (.cel 0 (flat cU l))) (hk : k ≤ l.length) (hl : l.length < 9223372036854775807) : Sh.f19 (.ms id 0 0 k l.length 1 true) H = some (.ret (.bool (decide (k = 0) || decide (l[k - 1]?.getD 0 ≠ 0))), H) := by
 unfold Sh.f19
 cases k with
 | zero => simp [AE]
 | succ k =>
  have hidx := Ek (sz := 1) (id := id) (n := k + 1) (K := .i64) (g := 0) (off := 0) (cap := l.length) (ex := true) (i := k) (by omega)
  simp only [Nat.zero_add, Nat.mul_one] at hidx
  have hld := HJ (f := cU) (id := id) (l := l) (H := H) (show A5 H id 0 = some (flat cU l) by simp [A5, hg]) (i := k) (by omega)
  have h0 : ¬ ((k + 1 : Nat) : Int) = 0 := by omega
  have hw : IntKind.i64.wrap (((k + 1 : Nat) : Int) - 1) = (k : Int) := by rw [A0] <;> omega
  have hgk : l[k]? = some l[k] := List.getElem?_eq_getElem (by omega)
  simp only [show AE (.ms id 0 0 (k + 1) l.length 1 true) = some (.int .i64 ((k + 1 : Nat) : Int)) from rfl, GMb, GMc, h0, hw, hidx, hld, Nat.add_sub_cancel, hgk, Option.getD_some, Nat.succ_ne_zero]
  by_cases h : l[k] = 0
  ·simp [h]
  ·have : ¬ (l[k] : Int) = 0 := by omega
   simp [h, this]
theorem q_cut {l : List Nat} {H : Ab} {id : Nat} (hg : H[id]? = some (.cel 0 (flat cU l))) (hl : l.length < 1152921504606846976) : Sh.f1a (.ms id 0 0 l.length l.length 1 true) H = some (.ret (.ms id 0 0 (Jp l l.length) l.length 1 true), H) := by
 unfold Sh.f1a
 refine Br (σ := Nat) (fun k => k ≤ l.length ∧ Jp l k = Jp l l.length) (fun k => [.ms id 0 0 k l.length 1 true]) (fun _ => H) (fun k => k) (fun _ => some (.ret (.ms id 0 0 (Jp l l.length) l.length 1 true), H)) (fun k rec hi hrec => ?_) l.length ⟨Nat.le_refl _, rfl⟩ (by omega)
 obtain ⟨hk, ht⟩ := hi
 unfold Sh.f4v
 simp only [AC, q_right hg hk (by omega), GMb, GMc]
 cases k with
 | zero => simp [← ht, Jp, rKN, fin, forget, Fz, fgt]
 | succ k =>
  by_cases h : l[k]?.getD 0 = 0
  ·have hw : IntKind.i64.wrap (((k + 1 : Nat) : Int) - 1) = (k : Int) := by rw [A0] <;> omega
   have hsl : Fu 1 (.ms id 0 0 (k + 1) l.length 1 true) none (some (.int .i64 (k : Int))) none = some (.ms id 0 0 k l.length 1 true) := by
    have : (0 : Int) ≤ (k : Int) := by omega
    simp only [Fu, Bc, Option.bind_some, this, if_true, Int.toNat_natCast]
    rw [if_pos ⟨trivial, by omega, by omega, by omega⟩]
    simp
   have ht' : Jp l k = Jp l l.length := by rw [← ht]; simp [Jp, h]
   have hr := hrec k ⟨by omega, ht'⟩ (by omega)
   simp only [h, show AE (.ms id 0 0 (k + 1) l.length 1 true) = some (.int .i64 ((k + 1 : Nat) : Int)) from rfl, GMb, GMc, hw, hsl, Nat.add_sub_cancel, ne_eq, not_true_eq_false, Nat.succ_ne_zero]
   exact hr
  ·have ht' : Jp l (k + 1) = k + 1 := by simp [Jp, h]
   rw [← ht, ht']
   simp only [h, GMb, GMc, Nat.add_sub_cancel, ne_eq, not_false_eq_true, Nat.succ_ne_zero]
   simp [rKN, fin, forget, Fz, fgt]
end Go.Gm
namespace Go.Gm
theorem fall_msT {α : Type} {f : α → List Aa} {sz : Nat} [hf : Sz f sz] [hp : Pl f] {H : Ab} {l : List α} {id b d cap k : Nat} {ex : Bool} (hg : A5 H id 0 = some (flat f l)) (hi : b ≤ id) (hk : k ≤ l.length) : Fl H b (d + 3) (.ms id 0 0 k cap sz ex) = some (.sl (enL f (l.take k)) .no) := by
 have h1 : ¬ id < b := by omega
 have h2 : k * sz ≤ l.length * sz := Nat.mul_le_mul_right _ hk
 have h3 : (l.take k).length = k := by simp; omega
 have h4 := Qr (f := f) (l.take k)
 rw [h3] at h4
 unfold Fl
 simp only [frz, h1, if_false, hg, Option.bind_some, List.drop_zero, Nat.zero_add, K0, h2, if_true, N8, GI (OO (f := f) (l.take k)), flat_imm (f := f) (l.take k), h4, Option.map_some, forget, Fz, fgt]
theorem wrap_u32m (t : Nat) : IntKind.u32.wrap (t : Int) = ((t % 4294967296 : Nat) : Int) := by
 simp only [IntKind.wrap, IntKind.bits, IntKind.signed]
 simp
theorem bin_shr64 (t : Nat) : Af .none .shr (.int .u64 (t : Int)) (.int .u64 32) = some (.int .u64 ((t / 4294967296 : Nat) : Int)) := by
 show some (Aa.int .u64 ((t : Int).fdiv 4294967296)) = _
 rw [Int.fdiv_eq_ediv_of_nonneg _ (by decide)]
 rfl
theorem mul_step {x m c : Nat} (hx : x < 4294967296) (hm : m < 4294967296) (hc : c < 4294967296) : c + x * m < 18446744073709551616 := by
 have h1 : x * m ≤ 4294967295 * 4294967295 := Nat.mul_le_mul (by omega) (by omega)
 omega
theorem val_single (x : Nat) : val [x] = x := by simp [val]
def CY (l : List Nat) (m c : Nat) : Nat → List Nat × Nat
 | 0 => ([], c)
 | i + 1 => ((CY l m c i).1 ++ [((CY l m c i).2 + l[i]?.getD 0 * m) % 4294967296], ((CY l m c i).2 + l[i]?.getD 0 * m) / 4294967296)
theorem mulS_ok {l : List Nat} {m c : Nat} (hx : Lim l) (hm : m < 4294967296) (hc : c < 4294967296) : ∀ i, i ≤ l.length →
  (CY l m c i).1.length = i ∧ (CY l m c i).2 < 4294967296 ∧ Lim (CY l m c i).1 ∧ val (CY l m c i).1 + 4294967296 ^ i * (CY l m c i).2 = val (l.take i) * m + c
 | 0, _ => ⟨rfl, hc, fun x h => (by cases h), by simp [CY, val]⟩
 | i + 1, hi => by
  obtain ⟨h1, h2, h3, h4⟩ := mulS_ok hx hm hc i (by omega)
  have hxi := hx _ (List.getElem_mem (show i < l.length by omega))
  have hg : l[i]?.getD 0 = l[i] := by rw [List.getElem?_eq_getElem (by omega)]; rfl
  have ht := mul_step hxi hm h2
  simp only [CY, hg]
  refine ⟨by simp [h1], ?_, ?_, ?_⟩
  ·omega
  ·intro x hxx
   rcases List.mem_append.1 hxx with h | h
   ·exact h3 x h
   ·rw [List.mem_singleton.1 h]; exact Nat.mod_lt _ (by decide)
  ·rw [List.take_succ_eq_append_getElem (by omega), EB, EB, h1, List.length_take, Nat.min_eq_left (by omega)]
   have hdm := Nat.div_add_mod ((CY l m c i).2 + l[i] * m) 4294967296
   simp only [val, Nat.mul_zero, Nat.add_zero]
   generalize ((CY l m c i).2 + l[i] * m) / 4294967296 = q at *
   generalize ((CY l m c i).2 + l[i] * m) % 4294967296 = r at *
   rw [Nat.pow_succ, Nat.mul_assoc, Nat.add_assoc, ← Nat.mul_add, show r + 4294967296 * q = (CY l m c i).2 + l[i] * m by omega, Nat.mul_add, Nat.add_mul]
   rw [← Nat.add_assoc, h4, Nat.mul_assoc]
   omega
theorem q_mul {l : List Nat} {tk : Tok} {m c : Nat} (H : Ab) (hx : Lim l) (hl : l.length ≤ 1099511627776) (hm : m < 4294967296) (hc : c < 4294967296) :
  Sh.f1h (.sl (enL cU l) tk) (.int .u32 (m : Int)) (.int .u32 (c : Int)) H = some (.ret (.sl (enL cU (C9 (val l * m + c))) .no), H) := by
 unfold Sh.f1h
 have hn : IntKind.i64.wrap ((l.length : Int) + 1) = ((l.length + 1 : Nat) : Int) := by rw [A0] <;> omega
 have hmk := F6 (f := cU) (a := 0) (n := l.length + 1) (bytes := 4) (H := H) (by omega) (by omega)
 simp only [show cU 0 = [Aa.int .u32 0] from rfl] at hmk
 have hcc : AP .u64 (.int .u32 (c : Int)) = some (.int .u64 (c : Int)) := by rw [BN, CH (by omega) (by omega)]
 have hcm : AP .u64 (.int .u32 (m : Int)) = some (.int .u64 (m : Int)) := by rw [BN, CH (by omega) (by omega)]
 simp only [GMb, GMc, A2, hn, hmk, hcc]
 refine BQ l.length (fun i => [.sl (enL cU l) tk, .int .u32 (m : Int), .ms H.length 0 0 (l.length + 1) (l.length + 1) 1 true, .int .u64 ((CY l m c i).2 : Int), .sl (enL cU l) tk, .int .i64 (l.length : Int), .int .i64 (i : Int)])
  (fun i => H ++ [.cel 0 (flat cU ((CY l m c i).1 ++ List.replicate (l.length + 1 - i) 0))]) _ (by omega) (fun rec i hi => ?_) (fun rec => ?_)
 ·obtain ⟨h1, h2, h3, h4⟩ := mulS_ok hx hm hc i (by omega)
  have hi' : (i : Int) < (l.length : Int) := by omega
  have hxi := hx _ (List.getElem_mem hi)
  have hg : l[i]?.getD 0 = l[i] := by rw [List.getElem?_eq_getElem hi]; rfl
  have ht := mul_step hxi hm h2
  have hidx := Ek (sz := 1) (id := H.length) (n := l.length + 1) (K := .i64) (g := 0) (off := 0) (cap := l.length + 1) (ex := true) (i := i) (by omega)
  simp only [Nat.zero_add, Nat.mul_one] at hidx
  obtain ⟨t, htt⟩ : ∃ t, t = (CY l m c i).2 + l[i] * m := ⟨_, rfl⟩
  have hP : l[i] * m ≤ 4294967295 * 4294967295 := Nat.mul_le_mul (by omega) (by omega)
  have w1 : AP .u64 (.int .u32 (l[i] : Int)) = some (.int .u64 (l[i] : Int)) := by rw [BN, CH (by omega) (by omega)]
  have w2 : IntKind.u64.wrap ((l[i] : Int) * (m : Int)) = ((l[i] * m : Nat) : Int) := by rw [← Int.natCast_mul, CH (by omega) (by omega)]
  have w3 : IntKind.u64.wrap (((CY l m c i).2 : Int) + ((l[i] * m : Nat) : Int)) = (t : Int) := by rw [CH] <;> omega
  have w4 : AP .u32 (.int .u64 (t : Int)) = some (.int .u32 ((t % 4294967296 : Nat) : Int)) := by rw [BN, wrap_u32m]
  have w5 : Af .none .shr (.int .u64 (t : Int)) (.int .u64 32) = some (.int .u64 ((t / 4294967296 : Nat) : Int)) := bin_shr64 t
  have w6 : IntKind.i64.wrap ((i : Int) + 1) = ((i + 1 : Nat) : Int) := by rw [A0] <;> omega
  have hst := FC (f := cU) (sz := 1) (l := (CY l m c i).1 ++ List.replicate (l.length + 1 - i) 0) (i := i) (a := t % 4294967296) (v := .int .u32 ((t % 4294967296 : Nat) : Int)) (H := H ++ [Blk.cel 0 (flat cU ((CY l m c i).1 ++ List.replicate (l.length + 1 - i) 0))]) (id := H.length) (Ba A9) (by simp; omega) rfl
  have hset : ((CY l m c i).1 ++ List.replicate (l.length + 1 - i) 0).set i (t % 4294967296) = (CY l m c (i + 1)).1 ++ List.replicate (l.length + 1 - (i + 1)) 0 := by
   rw [show l.length + 1 - i = (l.length + 1 - (i + 1)) + 1 by omega, List.replicate_succ, List.set_append_right _ _ (by omega), h1, Nat.sub_self, List.set_cons_zero]
   simp [CY, hg, ← htt]
  rw [Nat.mul_one, CI A9, BJ, hset] at hst
  unfold Sh.f44
  simp only [GMb, GMc, Ay, hi', Aw hi, Au, List.getElem?_cons_zero, w1, hcm, w2, w3, w4, hidx, hst, w5, w6]
  simp only [CY, hg, ← htt]
 ·obtain ⟨h1, h2, h3, h4⟩ := mulS_ok hx hm hc l.length (Nat.le_refl _)
  have hidx := Ek (sz := 1) (id := H.length) (n := l.length + 1) (K := .i64) (g := 0) (off := 0) (cap := l.length + 1) (ex := true) (i := l.length) (by omega)
  simp only [Nat.zero_add, Nat.mul_one] at hidx
  have w4 : AP .u32 (.int .u64 ((CY l m c l.length).2 : Int)) = some (.int .u32 ((CY l m c l.length).2 : Int)) := by rw [BN, CZ (by omega) (by omega)]
  have hst := FC (f := cU) (sz := 1) (l := (CY l m c l.length).1 ++ List.replicate (l.length + 1 - l.length) 0) (i := l.length) (a := (CY l m c l.length).2) (v := .int .u32 ((CY l m c l.length).2 : Int)) (H := H ++ [Blk.cel 0 (flat cU ((CY l m c l.length).1 ++ List.replicate (l.length + 1 - l.length) 0))]) (id := H.length) (Ba A9) (by simp; omega) rfl
  have hset : ((CY l m c l.length).1 ++ List.replicate (l.length + 1 - l.length) 0).set l.length (CY l m c l.length).2 = (CY l m c l.length).1 ++ [(CY l m c l.length).2] := by
   rw [show l.length + 1 - l.length = 1 by omega, List.set_append_right _ _ (by omega), h1, Nat.sub_self]
   rfl
  rw [Nat.mul_one, CI A9, BJ, hset] at hst
  obtain ⟨o, ho⟩ : ∃ o, o = (CY l m c l.length).1 ++ [(CY l m c l.length).2] := ⟨_, rfl⟩
  have hol : o.length = l.length + 1 := by rw [ho]; simp [h1]
  have hox : Lim o := by
   intro x hxx
   rw [ho] at hxx
   rcases List.mem_append.1 hxx with h | h
   ·exact h3 x h
   ·rw [List.mem_singleton.1 h]; exact h2
  have hov : val o = val l * m + c := by
   rw [ho, EB, h1, val_single]
   rw [List.take_length] at h4
   exact h4
  rw [← ho] at hst
  have hct := q_cut (l := o) (H := H ++ [Blk.cel 0 (flat cU o)]) (id := H.length) A9 (by omega)
  have htk := QX hox o.length (Nat.le_refl _)
  rw [List.take_length, hov] at htk
  have hfa := fall_msT (f := cU) (sz := 1) (b := H.length) (d := 5) (cap := o.length) (ex := true) (k := Jp o o.length) (l := o) (H := H ++ [Blk.cel 0 (flat cU o)]) (id := H.length) (Ba A9) (Nat.le_refl _) (topK_le o _)
  rw [htk] at hfa
  rw [hol] at hct hfa
  unfold Sh.f44
  simp only [GMb, GMc, Ay, Int.lt_irrefl, A2, w4, hidx, hst, hct, DG, hfa, Option.map_some]
end Go.Gm
namespace Go.Gm
end Go.Gm
namespace Go.Gm
theorem decN_lib (n : Nat) : Lib.decDigits n = AT n := by
 induction n using Nat.strongRecOn with
 | ind n ih =>
  unfold Lib.decDigits AT
  split
  ·rfl
  ·rw [ih (n / 10) (by omega)]
theorem Qo (n : Nat) : 0 < (AT n).length := by
 unfold AT
 split <;> simp
section
variable {H : Ab} {id g i : Nat} {L : List (List UInt8)}
end
def Turn (P L : List (List UInt8)) (i : Nat) : Prop := L.length = P.length ∧ ∀ k, k < P.length → L[k]? = if k < i ∨ P.length - i ≤ k then P[P.length - 1 - k]? else P[k]?
theorem Turn.step {P L : List (List UInt8)} {i : Nat} (h : Turn P L i) (hi : i < P.length - 1 - i) (hl : i < L.length) (hj : P.length - 1 - i < L.length) : Turn P ((L.set i L[P.length - 1 - i]).set (P.length - 1 - i) L[i]) (i + 1) := by
 obtain ⟨h1, h2⟩ := h
 refine ⟨by simp [h1], fun k hk => ?_⟩
 have ei := h2 i (by omega)
 have ej := h2 (P.length - 1 - i) (by omega)
 rw [List.getElem?_eq_getElem hl, if_neg (by omega)] at ei
 rw [List.getElem?_eq_getElem hj, if_neg (by omega)] at ej
 by_cases k1 : k = P.length - 1 - i
 ·subst k1
  rw [List.getElem?_set_self (by simp; omega), if_pos (by omega), ei]
  congr 1
  omega
 ·rw [List.getElem?_set_ne (Ne.symm k1)]
  by_cases k2 : k = i
  ·subst k2
   rw [List.getElem?_set_self hl, if_pos (by omega), ej]
  ·rw [List.getElem?_set_ne (Ne.symm k2), h2 k hk]
   by_cases k3 : k < i ∨ P.length - i ≤ k
   ·rw [if_pos k3, if_pos (by omega)]
   ·rw [if_neg k3, if_neg (by omega)]
theorem Turn.done {P L : List (List UInt8)} {i : Nat} (h : Turn P L i) (hi : ¬ i < P.length - 1 - i) : L = P.reverse := by
 apply List.ext_getElem?
 intro k
 by_cases hk : k < P.length
 ·rw [h.2 k hk, List.getElem?_reverse hk]
  split
  ·rfl
  ·congr 1
   omega
 ·rw [List.getElem?_eq_none (by rw [h.1]; omega), List.getElem?_eq_none (by simp; omega)]
end Go.Gm
namespace Go.Gm
def padk : Nat → Nat → List UInt8
 | 0, _ => []
 | k + 1, r => padk k (r / 10) ++ [UInt8.ofNat (48 + r % 10)]
theorem Dm {n : Nat} (h : n < 10) : AT n = [UInt8.ofNat (48 + n)] := by unfold AT; rw [dif_pos h]
theorem Dn {n : Nat} (h : ¬ n < 10) : AT n = AT (n / 10) ++ [UInt8.ofNat (48 + n % 10)] := by
 conv => lhs; unfold AT
 rw [dif_neg h]
theorem RG {q : Nat} (hq : 0 < q) : ∀ k r, r < 10 ^ k → AT (q * 10 ^ k + r) = AT q ++ padk k r
 | 0, r, h => by
  have : r = 0 := by simpa using h
  subst this
  simp [padk]
 | k + 1, r, h => by
  have h2 : r / 10 < 10 ^ k := by
   rw [Nat.div_lt_iff_lt_mul (by omega), ← Nat.pow_succ]; exact h
  have hp : 1 ≤ 10 ^ k := Nat.pow_pos (by omega)
  have hqk : 1 ≤ q * 10 ^ k := Nat.mul_pos hq hp
  have e : q * 10 ^ (k + 1) + r = 10 * (q * 10 ^ k) + r := by rw [Nat.pow_succ]; rw [← Nat.mul_assoc]; omega
  rw [e, Dn (by omega), show (10 * (q * 10 ^ k) + r) / 10 = q * 10 ^ k + r / 10 by omega, show (10 * (q * 10 ^ k) + r) % 10 = r % 10 by omega, RG hq k _ h2, padk]
  simp
theorem RH (n : Nat) (h : n ≠ 0) : ∃ c r, AT n = c :: r ∧ c ≠ 48 := by
 induction n using Nat.strongRecOn with
 | ind n ih =>
  by_cases hn : n < 10
  ·refine ⟨_, _, Dm hn, fun e => ?_⟩
   have := congrArg UInt8.toNat e
   rw [UInt8.toNat_ofNat_of_lt' (show 48 + n < 256 by omega)] at this
   have h48 : (48 : UInt8).toNat = 48 := rfl
   omega
  ·obtain ⟨c, r, h1, h2⟩ := ih (n / 10) (by omega) (by omega)
   exact ⟨c, r ++ [UInt8.ofNat (48 + n % 10)], by rw [Dn hn, h1]; rfl, h2⟩
theorem pow10_up {a b : Nat} (h : a ≤ b) : 10 ^ a ≤ 10 ^ b := Nat.pow_le_pow_right (by omega) h
end Go.Gm
namespace Go.Gm
def Fq (c : UInt8) : Bool := decide (48 ≤ c.toNat) && decide (c.toNat ≤ 57)
def FO (s : List UInt8) : Nat := (s.takeWhile Fq).length
theorem digN_le (s : List UInt8) : FO s ≤ s.length := (List.takeWhile_sublist Fq).length_le
theorem RE (c : UInt8) (s : List UInt8) : FO (c :: s) = if Fq c then FO s + 1 else 0 := by
 unfold FO
 rw [List.takeWhile_cons]
 split <;> simp
theorem byteAt (s : List UInt8) (pos : Nat) (h : pos < s.length) : ((⟨s.toArray⟩ : ByteArray)[pos]'(by show pos < s.toArray.size; simpa using h)) = s[pos] := by
 show s.toArray[pos] = s[pos]
 simp
theorem idx_from (s : List UInt8) : ∀ (f pos : Nat), pos ≤ s.length → s.length - pos ≤ f → Lib.idxFuncFrom Iv true ⟨s.toArray⟩ f pos = if pos + FO (s.drop pos) < s.length then ((pos + FO (s.drop pos) : Nat) : Int) else -1
 | 0, pos, h1, h2 => by
  have : pos = s.length := by omega
  subst this
  rw [Lib.idxFuncFrom, if_neg (by omega)]
 | f + 1, pos, h1, h2 => by
  have hsz : (⟨s.toArray⟩ : ByteArray).size = s.length := by simp [ByteArray.size]
  unfold Lib.idxFuncFrom
  rw [hsz]
  by_cases hp : pos < s.length
  ·rw [if_pos hp, List.drop_eq_getElem_cons hp, RE]
   have hb := byteAt s pos hp
   by_cases ha : s[pos].toNat < 128
   ·rw [decode_ascii ⟨s.toArray⟩ pos (by omega) (by rw [hb]; exact ha), hb]
    simp only []
    by_cases hd : Fq s[pos] = true
    ·have hnd : Iv s[pos].toNat = false := by
      simp only [Fq, Bool.and_eq_true, decide_eq_true_eq] at hd
      simp only [Iv, Bool.or_eq_false_iff, decide_eq_false_iff_not]
      omega
     rw [hnd, if_neg (by simp), if_pos hd, idx_from s f (pos + 1) (by omega) (by omega)]
     rw [show pos + (FO (s.drop (pos + 1)) + 1) = pos + 1 + FO (s.drop (pos + 1)) by omega]
    ·have hnd : Iv s[pos].toNat = true := by
      simp only [Fq, Bool.and_eq_true, decide_eq_true_eq] at hd
      simp only [Iv, Bool.or_eq_true, decide_eq_true_eq]
      omega
     rw [hnd, if_pos rfl, if_neg hd, if_pos (by omega)]
     rfl
   ·obtain ⟨k1, k2⟩ := decode_high ⟨s.toArray⟩ pos (by omega) (by rw [hb]; omega)
    have hd : ¬ Fq s[pos] = true := by
     simp only [Fq, Bool.and_eq_true, decide_eq_true_eq]
     omega
    have hnd : Iv (Utf8.decode ⟨s.toArray⟩ pos).1 = true := by
     simp only [Iv, Bool.or_eq_true, decide_eq_true_eq]
     omega
    rw [hnd, if_pos rfl, if_neg hd, if_pos (by omega)]
    rfl
  ·rw [if_neg hp, if_neg (by omega)]
theorem idx_dig (s : List UInt8) : Lib.idxFunc Iv true ⟨s.toArray⟩ = if FO s < s.length then (FO s : Int) else -1 := by
 have hsz : (⟨s.toArray⟩ : ByteArray).size = s.length := by simp [ByteArray.size]
 have := idx_from s s.length 0 (Nat.zero_le _) (by omega)
 rw [Nat.zero_add, List.drop_zero] at this
 rw [Lib.idxFunc, hsz, this]
def digA (s : List UInt8) (at' : Int) : Nat := if at' < 0 then 0 else FO (s.drop at'.toNat)
theorem q_digits (s : List UInt8) (at' : Int) (H : Ab) (hs : s.length < 1152921504606846976) : Sh.f1g (.str s) (.int .i64 at') H = some (.ret (.int .i64 (digA s at')), H) := by
 unfold Sh.f1g digA
 by_cases h0 : at' < 0
 ·simp only [GMb, GMc, h0, if_true]
  rfl
 ·obtain ⟨a, rfl⟩ : ∃ a : Nat, at' = (a : Int) := ⟨at'.toNat, by omega⟩
  simp only [GMb, GMc, h0, if_false, EP, Int.toNat_natCast]
  by_cases h1 : a ≤ s.length
  ·have h1' : ¬ ((a : Int) > (s.length : Int)) := by omega
   have hsl : Bp (.str s) (some (.int .i64 (a : Int))) none = some (.str (s.drop a)) := by
    simp [Bp, Bc, h1]
   have hi : Sh.f17 (.str (s.drop a)) (.fn 120 []) H = some (.ret (.int .i64 (if FO (s.drop a) < (s.drop a).length then (FO (s.drop a) : Int) else -1)), H) := by
    unfold Sh.f17
    simp only [idx_dig]
   have hle := digN_le (s.drop a)
   simp only [h1', GMb, GMc, hsl]
   by_cases hd : FO (s.drop a) < (s.drop a).length
   ·have : ¬ ((FO (s.drop a) : Int) < 0) := by omega
    rw [hi, if_pos hd]
    simp only [this, GMb, GMc]
   ·have e : FO (s.drop a) = (s.drop a).length := by omega
    rw [hi, if_neg hd]
    simp only [show ((-1 : Int) < 0) from by decide, GMb, GMc, EP, ← e]
  ·have h1' : (a : Int) > (s.length : Int) := by omega
   rw [List.drop_eq_nil_of_le (by omega)]
   simp only [h1', GMb, GMc]
   rfl
end Go.Gm
namespace Go.Gm
def Fm (s : List UInt8) : Nat := s.foldl (fun v c => v * 10 + (c.toNat - 48)) 0
theorem KZ (s : List UInt8) (c : UInt8) : Fm (s ++ [c]) = Fm s * 10 + (c.toNat - 48) := by simp [Fm]
theorem digN_all {s : List UInt8} (h : FO s = s.length) : ∀ c ∈ s, Fq c = true := by
 induction s with
 | nil => intro c hc; cases hc
 | cons x s ih =>
  rw [RE] at h
  by_cases hx : Fq x = true
  ·rw [if_pos hx, List.length_cons] at h
   intro c hc
   rcases List.mem_cons.1 hc with e | e
   ·rw [e]; exact hx
   ·exact ih (by omega) c e
  ·rw [if_neg hx] at h
   simp at h
theorem F7 (c : UInt8) : Fq c = true ↔ 48 ≤ c.toNat ∧ c.toNat ≤ 57 := by simp [Fq]
theorem decV_lt {s : List UInt8} (h : ∀ c ∈ s, Fq c = true) : ∀ i, i ≤ s.length → Fm (s.take i) < 10 ^ i
 | 0, _ => by simp [Fm]
 | i + 1, hi => by
  have := decV_lt h i (by omega)
  have hc := (F7 _).1 (h _ (List.getElem_mem (show i < s.length by omega)))
  rw [List.take_succ_eq_append_getElem (by omega), KZ, Nat.pow_succ]
  omega
def MS (s : List UInt8) : Bool := match s with
 | c :: _ => c == 45
 | [] => false
def B8 (s : List UInt8) : List UInt8 := if MS s then s.drop 1 else s
def O1 (s : List UInt8) : Bool := B8 s == [] || decide (FO (B8 s) < (B8 s).length) || ((B8 s)[0]?.getD 0 == 48 && !(s == [48]))
def Hy (s : List UInt8) : Int := if O1 s then 2 else if (B8 s).length > 400 then 4 else 0
def EE (s : List UInt8) : Int := if Hy s = 0 then (if MS s then -(Fm (B8 s) : Int) else Fm (B8 s)) else 0
theorem q_cutprefix (s : List UInt8) (H : Ab) (hs : s.length < 1152921504606846976) : Sh.f1f (.str s) (.str [45]) H = some (.ret (.tup [.str (B8 s), .bool (MS s)]), H) := by
 have hp : Sh.f1e (.str s) (.str [45]) H = some (.ret (.bool (MS s)), H) := by
  unfold Sh.f1e
  cases s with
  | nil => simp [B5, MS]
  | cons c r =>
   have h1 : ((c :: r).length : Int) ≥ (([45] : List UInt8).length : Int) := by simp; omega
   have h2 : Bp (.str (c :: r)) none (some (.int .i64 (([45] : List UInt8).length : Int))) = some (.str [c]) := by
    rw [Hs (by simp)]; rfl
   simp only [EP, GMb, GMc, h1, h2, Qx]
   simp [MS]
 unfold Sh.f1f Sh.f2h
 cases hb : MS s with
 | false => simp only [GMb, GMc, hp, hb, Dx, EH, B8, Bool.false_eq_true, if_false]
 | true =>
  have h2 : Bp (.str s) (some (.int .i64 (([45] : List UInt8).length : Int))) none = some (.str (s.drop 1)) := by
   refine Dc (l := 1) ?_
   cases s with
   | nil => cases hb
   | cons c r => simp
  simp only [GMb, GMc, hp, hb, EP, h2, Dx, EH, B8, if_true]
theorem next_dig {B : Ab} {d : List UInt8} {i : Nat} (h : i < d.length) (hd : d[i].toNat < 128) : Mq (.ptr B.length 0 0) (B ++ [.iter d i]) = some (.tup [.bool true, .int .i64 (i : Int), .int .i32 (d[i].toNat : Int)], B ++ [.iter d (i + 1)]) := by
 have hb := byteAt d i h
 have hdec := decode_ascii ⟨d.toArray⟩ i (by show i < d.toArray.size; simpa using h) (by rw [hb]; exact hd)
 simp only [Mq, List.getElem?_concat_length, h, if_true, hdec, hb, BJ]
theorem next_end {B : Ab} {d : List UInt8} : Mq (.ptr B.length 0 0) (B ++ [.iter d d.length]) = some (.tup [.bool false], B ++ [.iter d d.length]) := by
 simp [Mq]
theorem fin_big {H G : Ab} {zb : List Aa} {neg : Bool} {l : List Nat} {tk : Tok} {e : Int} (hz : zb.length = 2) :
  (bP H (AL (Al 2 (.ptr H.length 0 0) (.agg [.bool neg, .sl (enL cU l) tk]) (H ++ (.cel 0 zb :: G)))) fun _ H40 => (Ll [Ad true 2 (.ptr H.length 0 0) H40, some (.int .i64 e)]).bind fun x => rPN H x H40) = some (.ret (.tup [.agg [.bool neg, .sl (enL cU l) .no], .int .i64 e]), H) := by
 have h1 : Al 2 (.ptr H.length 0 0) (.agg [.bool neg, .sl (enL cU l) tk]) (H ++ (.cel 0 zb :: G)) = some (H ++ (.cel 0 [.bool neg, .sl (enL cU l) tk] :: G)) := by
  rw [FD, MR (vs := [.bool neg, .sl (enL cU l) tk]) rfl hz rfl]
  rfl
 have h2 : Ad true 2 (.ptr H.length 0 0) (H ++ (.cel 0 [.bool neg, .sl (enL cU l) tk] :: G)) = some (.agg [.bool neg, .sl (enL cU l) tk]) := by
  rw [GP]; rfl
 simp only [h1, GMb, GMc, h2, resM_eq, MU, Pq, Option.map_some, DG, EZ, C4, Dk, KU, Gu, HQ, M6, Qj, DZ]
theorem big_zero : Aa.agg [.bool false, .sl (enL cU []) .no] = big 0 := by
 rw [big_eq, show (0 : Int).natAbs = 0 from rfl, KQ]
 rfl
theorem big_of {neg : Bool} {n : Nat} (h : neg = true → n ≠ 0) : Aa.agg [.bool neg, .sl (enL cU (C9 n)) .no] = big (if neg then -(n : Int) else n) := by
 have h1 := big_sgn neg n
 have h2 : sgn neg n = neg := by
  unfold sgn
  cases neg with
  | false => rfl
  | true => simp [h rfl]
 rw [h2] at h1
 rw [h1]
 rfl
theorem Qv : A3 (some [(.bool false), (.sl [] .tight)]) [] = some (.agg [.bool false, .sl (enL cU []) .tight]) := rfl
theorem build_both {neg : Bool} {es : List (List Aa)} {tk : Tok} : A3 (some [(.bool false), (.sl [] .tight)]) [(0, 1, .bool neg), (1, 1, .sl es tk)] = some (.agg [.bool neg, .sl es tk]) := by simp [A3, GW, DI]
theorem syn_dig {s : List UInt8} (h : O1 s = false) : B8 s ≠ [] ∧ FO (B8 s) = (B8 s).length ∧ ((B8 s)[0]?.getD 0 = 48 → s = [48]) := by
 unfold O1 at h
 simp only [Bool.or_eq_false_iff, Bool.and_eq_false_iff, beq_eq_false_iff_ne, decide_eq_false_iff_not, ne_eq, Bool.not_eq_false', beq_iff_eq] at h
 have := digN_le (B8 s)
 refine ⟨h.1.1, by omega, fun h0 => ?_⟩
 rcases h.2 with h3 | h3
 ·exact absurd h0 h3
 ·exact h3
theorem decV_cons (c : UInt8) (s : List UInt8) : Fm (c :: s) = (c.toNat - 48) * 10 ^ s.length + Fm s := by
 have key : ∀ (s : List UInt8) (v : Nat), s.foldl (fun v c => v * 10 + (c.toNat - 48)) v = v * 10 ^ s.length + Fm s := by
  intro s
  induction s with
  | nil => intro v; simp [Fm]
  | cons x s ih =>
   intro v
   rw [List.foldl_cons, ih, List.length_cons, Nat.pow_succ]
   have e : Fm (x :: s) = (x.toNat - 48) * 10 ^ s.length + Fm s := by
    have := ih (0 * 10 + (x.toNat - 48))
    rw [Nat.zero_mul, Nat.zero_add] at this
    unfold Fm
    rw [List.foldl_cons, Nat.zero_mul, Nat.zero_add]
    exact this
   rw [e, Nat.add_mul, Nat.mul_assoc v 10, Nat.mul_comm 10]
   omega
 have := key s (0 * 10 + (c.toNat - 48))
 rw [Nat.zero_mul, Nat.zero_add] at this
 conv => lhs; unfold Fm
 rw [List.foldl_cons, Nat.zero_mul, Nat.zero_add]
 exact this
theorem decV_ne {s : List UInt8} (h : O1 s = false) (hn : MS s = true) : Fm (B8 s) ≠ 0 := by
 obtain ⟨h1, h2, h3⟩ := syn_dig h
 cases hd : B8 s with
 | nil => exact absurd hd h1
 | cons c r =>
  rw [decV_cons]
  have hc := digN_all h2 c (by rw [hd]; simp)
  rw [F7] at hc
  have h48 : c.toNat ≠ 48 := fun e => by
   have : c = 48 := UInt8.toNat.inj e
   have := h3 (by rw [hd, this]; rfl)
   rw [this] at hn
   cases hn
  have : 1 ≤ 10 ^ r.length := Nat.pow_pos (by omega)
  have : 1 ≤ (c.toNat - 48) * 10 ^ r.length := Nat.mul_pos (by omega) this
  omega
theorem wrap_i32 {n : Int} (h0 : -2147483648 ≤ n) (h : n ≤ 2147483647) : IntKind.i32.wrap n = n := by
 have h1 : IntKind.i32.bits = 32 := rfl
 have h2 : IntKind.i32.signed = true := rfl
 unfold IntKind.wrap
 simp only [h1, h2, Bool.true_and]
 split <;> rename_i hc <;> simp at hc <;> omega
theorem wrap_dig {c : UInt8} (h : Fq c = true) : IntKind.i32.wrap ((c.toNat : Int) - 48) = ((c.toNat - 48 : Nat) : Int) := by
 rw [F7] at h
 rw [wrap_i32 (by omega) (by omega)]
 omega
theorem lims_short2 {n m : Nat} (h : n < 10 ^ m) (hm : m ≤ 4096) : (C9 n).length ≤ 4096 := PO (n := n) (Nat.lt_of_lt_of_le (m := 10 ^ m) h (pow10_up (a := m) (b := 4096) hm))
theorem q_parse (s : List UInt8) (H : Ab) (hs : s.length < 1152921504606846976) : Sh.f1i (.str s) H = some (.ret (.tup [big (EE s), .int .i64 (Hy s)]), H) := by
 unfold Sh.f1i
 have htl : (B8 s).length ≤ s.length := by unfold B8; split <;> simp
 have hcp := q_cutprefix s (H ++ [Blk.cel 0 [.bool false, .sl [] .tight]]) hs
 have hdg := q_digits (B8 s) 0 (H ++ [Blk.cel 0 [.bool false, .sl [] .tight]]) (by omega)
 have hd0 : (digA (B8 s) 0 : Int) = (FO (B8 s) : Int) := by simp [digA]
 rw [hd0] at hdg
 simp only [alloc_eq (cs := [.bool false, .sl [] .tight]) rfl, BO, hcp, GMb, GMc, Dx, EH, Qx]
 have tail : Sh.f45 H (.ptr H.length 0 0) (.str (B8 s)) (.bool (MS s)) (.bool (O1 s)) (H ++ [Blk.cel 0 [.bool false, .sl [] .tight]]) = some (.ret (.tup [big (EE s), .int .i64 (Hy s)]), H) := by
  unfold Sh.f45
  cases hsyn : O1 s with
  | true =>
   have hE : Hy s = 2 := by simp [Hy, hsyn]
   have hZ : EE s = 0 := by simp [EE, hE]
   rw [hE, hZ, ← big_zero]
   simp only [GMb, GMc, Qv]
   exact fin_big rfl
  | false =>
   obtain ⟨n1, n2, n3⟩ := syn_dig hsyn
   simp only [GMb, GMc, EP]
   by_cases hl : (B8 s).length > 400
   ·have hl' : ((B8 s).length : Int) > 400 := by omega
    have hE : Hy s = 4 := by simp [Hy, hsyn, hl]
    have hZ : EE s = 0 := by simp [EE, hE]
    rw [hE, hZ, ← big_zero]
    simp only [hl', GMb, GMc, Qv]
    exact fin_big rfl
   ·have hl' : ¬ ((B8 s).length : Int) > 400 := by omega
    have hE : Hy s = 0 := by simp [Hy, hsyn, hl]
    have hZ : EE s = (if MS s then -(Fm (B8 s) : Int) else Fm (B8 s)) := by simp [EE, hE]
    have hne := decV_ne hsyn
    have hall := digN_all n2
    have hlt := decV_lt hall
    rw [hE, hZ, ← big_of (neg := MS s) hne]
    generalize hd : B8 s = d at *
    simp only [hl', GMb, GMc]
    have hrg : LG (.str d) (H ++ [Blk.cel 0 [.bool false, .sl [] .tight]]) = some (.ptr (H.length + 1) 0 0, H ++ [.cel 0 [.bool false, .sl [] .tight]] ++ [.iter d 0]) := by simp [LG]
    simp only [hrg, GMb, GMc]
    have hBl : (H ++ [Blk.cel 0 [.bool false, .sl [] .tight]]).length = H.length + 1 := by simp
    obtain ⟨tkf, htk⟩ : ∃ tkf : Nat → Tok, tkf = fun i => if i = 0 then .tight else .no := ⟨_, rfl⟩
    have key := BQ (G := fun rec2 vs H1 => Sh.f2x H rec2 (ag vs 0) (ag vs 1) (ag vs 2) (ag vs 3) H1) d.length (fun i => [.ptr H.length 0 0, .bool (MS s), .sl (enL cU (C9 (Fm (d.take i)))) (tkf i), .ptr (H.length + 1) 0 0])
     (fun i => H ++ [.cel 0 [.bool false, .sl [] .tight]] ++ [.iter d i]) (some (.ret (.tup [.agg [.bool (MS s), .sl (enL cU (C9 (Fm d))) .no], .int .i64 0]), H)) (by omega) (fun rec i hi => ?_) (fun rec => ?_)
    ·rw [List.take_zero, show Fm [] = 0 from rfl, KQ, htk] at key
     exact key
    ·have hdi := hall _ (List.getElem_mem hi)
     have hdi2 := (F7 _).1 hdi
     have hnx := next_dig (B := H ++ [Blk.cel 0 [.bool false, .sl [] .tight]]) hi (by omega)
     rw [hBl] at hnx
     have hw := wrap_dig hdi
     have hcv : AP .u32 (.int .i32 ((d[i].toNat - 48 : Nat) : Int)) = some (.int .u32 ((d[i].toNat - 48 : Nat) : Int)) := by rw [BN, CZ (by omega) (by omega)]
     have hsh := lims_short2 (hlt i (by omega)) (by omega)
     have hml := fun H => q_mul (l := C9 (Fm (d.take i))) (tk := tkf i) (m := 10) (c := d[i].toNat - 48) H (lim_lims _) (by omega) (by omega) (by omega)
     simp only [G9, ← KZ, ← List.take_succ_eq_append_getElem hi, show ((10 : Nat) : Int) = 10 from rfl] at hml
     have htk1 : tkf (i + 1) = .no := by rw [htk]; rfl
     unfold Sh.f2x
     simp only [AC, Ay, hnx, GMb, GMc, Dx, show ∀ (x y z : Aa), Aq 2 (.tup [x, y, z]) = some z from fun _ _ _ => rfl, show ∀ (x y z : Aa), Aq 0 (.tup [x, y, z]) = some x from fun _ _ _ => rfl, hw, hcv, hml, htk1]
    ·have hnx := next_end (B := H ++ [Blk.cel 0 [.bool false, .sl [] .tight]]) (d := d)
     rw [hBl] at hnx
     unfold Sh.f2x
     simp only [AC, Ay, hnx, GMb, GMc, show ∀ (x : Aa), Aq 0 (.tup [x]) = some x from fun _ => rfl, build_both, List.take_length]
     rw [List.append_assoc H]
     exact fin_big rfl
 by_cases h0 : B8 s = []
 ·have hsyn : O1 s = true := by simp [O1, h0]
  rw [hsyn] at tail
  simp only [h0, beq_self_eq_true, GMb, GMc, AC, Ay] at tail ⊢
  exact tail
 ·have hb : (B8 s == []) = false := by simpa using h0
  simp only [hb, GMb, GMc, hdg, EP]
  by_cases hlt : FO (B8 s) < (B8 s).length
  ·have hlt' : (FO (B8 s) : Int) < ((B8 s).length : Int) := by omega
   have hsyn : O1 s = true := by simp [O1, hlt]
   rw [hsyn] at tail
   simp only [hlt', GMb, GMc, AC, Ay]
   exact tail
  ·have hlt' : ¬ (FO (B8 s) : Int) < ((B8 s).length : Int) := by omega
   obtain ⟨c, r, hcr⟩ := List.exists_cons_of_ne_nil h0
   have hix : Di (.str (B8 s)) (.int .i64 0) = some (.int .u8 (c.toNat : Int)) := by rw [hcr]; exact idx_str0
   have hsyn : O1 s = ((c == 48) && !(s == [48])) := by
    simp only [O1, hb, decide_eq_false hlt, Bool.false_or]
    rw [hcr]
    rfl
   have hcc : decide ((c.toNat : Int) = 48) = (c == 48) := by
    rw [Bool.eq_iff_iff]
    simp only [decide_eq_true_eq, beq_iff_eq]
    constructor
    ·intro h
     exact UInt8.toNat.inj (show c.toNat = (48 : UInt8).toNat from by have : (48 : UInt8).toNat = 48 := rfl; omega)
    ·intro h; rw [h]; rfl
   rw [hsyn] at tail
   simp only [hlt', GMb, GMc, hix, hcc, bin_sneq]
   cases hc48 : (c == 48) with
   | false =>
    rw [hc48, Bool.false_and] at tail
    simp only [GMb, GMc, AC, Ay]
    exact tail
   | true =>
    rw [hc48, Bool.true_and] at tail
    simp only [GMb, GMc, AC, Ay]
    exact tail
end Go.Gm
namespace Go.Gm
def hv (e : Int × List UInt8) : Aa := Qa e.1 e.2
def Mg (er : Er) (v : Aa) : Res := match er with
 | none => .ret v
 | some e => .pan (hv e)
@[simp] theorem Bv (v : Aa) : Mg none v = .ret v := (rfl)
@[simp] theorem Bj (e : Int × List UInt8) (v : Aa) : Mg (some e) v = .pan (hv e) := (rfl)
theorem GF (b : List UInt8) (a : Nat) (s : List UInt8) : NS b a s = hv (FB b a s) := by
 unfold NS hv FB; split <;> rfl
section
variable {H : Ab} {p a : Nat} {b : List UInt8} {r : List Aa}
theorem DA (h : Lx H p b a r) (s : List UInt8) : Sh.f1 (.ptr p 0 0) (.str s) H = some (.pan (hv (FB b a s)), H) := by
 rw [KM h, ← GF]; rfl
theorem lx_endS (h : Lx H p b a r) (ha : a ≤ b.length) (hb : b.length < 1152921504606846976) (rest : List UInt8) (hr : rest.length ≤ 1000000) :
  Sh.fg (.ptr p 0 0) (.str rest) H = some (Mg (G4 b a rest).1 (.tup []), AJ H p b r (G4 b a rest).2) := by
 rw [lx_end h ha hb rest hr]
 unfold endO G4 eolN
 by_cases e : a = b.length
 ·have hs := BC h
  rw [e] at hs
  simp only [e, if_true, Bv, hs]
 ·simp only [if_neg e]
  cases hs : A8 b (crN b a) [10] with
  | true => simp only [if_true, Bv]
  | false => simp only [Bool.false_eq_true, if_false, Bj, GF]
theorem Mx (h : Lx H p b a r) (ha : a ≤ b.length) (hb : b.length < 1152921504606846976) (s rest : List UInt8) (hs : s.length ≤ 1000000) (hr : rest.length ≤ 1000000) :
  Sh.f3 (.ptr p 0 0) (.str s) (.str rest) H = some (Mg (B3 b a s rest).1 (.tup []), AJ H p b r (B3 b a s rest).2) := by
 rw [lx_must h ha hb s rest hs hr]
 unfold mustO B3 G2
 by_cases e : cpN (b.drop a) s < s.length
 ·simp only [if_pos e, Bj, GF]
 ·simp only [if_neg e, Bv]
theorem lx_ruleS (h : Lx H p b a r) (ha : a ≤ b.length) (hb : b.length < 1152921504606846976) (rest : List UInt8) (hr : rest.length ≤ 1000000) :
  Sh.fy (.ptr p 0 0) (.str rest) H = some (Mg (O4 b a rest).1 (.str ((b.take (O4 b a rest).2).drop a)), AJ H p b r (O4 b a rest).2) := by
 rw [lx_rule h ha hb rest hr]
 unfold ruleO O4
 by_cases e : Gh b a 40 a = a
 ·simp only [e, if_true, Bj, GF]
 ·simp only [if_neg e, Bv]
theorem numR_S (b : List UInt8) (f : Nat) (rest : List UInt8) : ∀ n a, LO b f rest n a = ((Km b f rest n a).1.map hv, (Km b f rest n a).2)
 | 0, a => rfl
 | n + 1, a => by
  rw [LO, Km]
  split
  ·split
   ·rw [GF]; rfl
   ·split
    ·rfl
    ·exact numR_S b f rest n (a + 1)
  ·split
   ·rw [GF]; rfl
   ·rfl
theorem lx_lt (h : Lx H p b a r) : p < H.length := by
 rcases Nat.lt_or_ge p H.length with h' | h'
 ·exact h'
 ·unfold Lx at h; rw [List.getElem?_eq_none h'] at h; cases h
theorem MT {G : Ab} {e : Nat} (h : p < H.length) : AJ (H ++ G) p b r e = AJ H p b r e ++ G := by
 unfold AJ; rw [List.set_append_left _ _ h]
theorem lx_num_end (h : Lx H p b a r) {f e : Nat} (hfe : f ≤ e) (he : e ≤ b.length) (hb : b.length < 1152921504606846976) (zb : List Aa) (hz : zb.length = 2) :
  ∃ G, Sh.f2i H (.ptr p 0 0) (.ptr H.length 0 0) (.int .i64 (f : Int)) (AJ H p b r e ++ [.cel 0 zb]) = some (.ret (big (EE ((b.take e).drop f))), AJ H p b r e ++ G) := by
 have hx := C6 (a' := e) h
 have hl := FE H p e b r
 have hld0 : ∀ G, Ad false 1 (.ptr p 0 0) (AJ H p b r e ++ G) = some (.str b) := fun G => QE (Lx.push hx)
 have hld1 : ∀ G, Ad false 1 (.ptr p 0 1) (AJ H p b r e ++ G) = some (.int .i64 (e : Int)) := fun G => Dv (Lx.push hx)
 unfold Sh.f2i
 rw [← hl]
 generalize AJ H p b r e = K at *
 have hq := fun H => q_parse ((b.take e).drop f) H (by simp only [List.length_drop, List.length_take]; omega)
 obtain ⟨sg, es, hbig⟩ : ∃ sg es, big (EE ((b.take e).drop f)) = .agg [.bool sg, .sl es .no] := ⟨_, _, big_eq _⟩
 rw [hbig] at hq ⊢
 refine ⟨[.cel 0 [.bool sg, .sl es .no], .cel 0 [.bool sg, .sl es .no]], ?_⟩
 simp only [GMb, GMc, HPa, HPc, HPd, HPe, HPz, Nat.reduceAdd, Nat.reduceLT, hld0, hld1, QZ hfe he, hq, hz]
 rfl

end
end Go.Gm
namespace Go.Gm
theorem numS_le (b : List UInt8) (f : Nat) (rest : List UInt8) : ∀ n a, a ≤ b.length → a ≤ (Km b f rest n a).2 ∧ (Km b f rest n a).2 ≤ b.length := fun n a h => by
 have := numR_le b f rest n a h
 rw [numR_S] at this; exact this
theorem intF_le {b : List UInt8} {a : Nat} (ha : a ≤ b.length) (neg : Bool) : a ≤ Nl b a neg ∧ Nl b a neg ≤ b.length := by
 unfold Nl
 cases neg with
 | false => exact ⟨Nat.le_refl _, ha⟩
 | true =>
  cases hs : A8 b a [45] with
  | true => have := Cr hs; simp; omega
  | false => simpa using ha
theorem intS_le {b : List UInt8} {a : Nat} (ha : a ≤ b.length) (neg : Bool) (rest : List UInt8) : a ≤ (FI b a neg rest).2 ∧ (FI b a neg rest).2 ≤ b.length := by
 unfold FI
 have h1 := intF_le ha neg
 have h2 := numS_le b (Nl b a neg) rest 402 (Nl b a neg) h1.2
 split
 ·rename_i h
  simp only [Bool.and_eq_true] at h
  have := Cr h.2
  exact ⟨Nat.le_succ _, by omega⟩
 ·omega
section
variable {H : Ab} {p a : Nat} {b : List UInt8} {r : List Aa}
theorem Rq (h : Lx H p b a r) {f : Nat} (haf : a ≤ f) (hf : f ≤ b.length) (hb : b.length < 1152921504606846976) (rest : List UInt8) (hr : rest.length ≤ 1000000) (zb : List Aa) (hz : zb.length = 2) :
  ∃ G, Sh.f30 H (.ptr p 0 0) (.str rest) (.ptr H.length 0 0) (.int .i64 (a : Int)) (AJ H p b r f ++ [.cel 0 zb]) = some (Mg (Km b f rest 402 f).1 (big (EE ((b.take (Km b f rest 402 f).2).drop a))), AJ H p b r (Km b f rest 402 f).2 ++ G) := by
 have hp := lx_lt h
 have hx : Lx (AJ H p b r f ++ [.cel 0 zb]) p b f r := Lx.push (C6 h)
 have key := lx_num_loop (H0 := H) hx hf hb rest hr (.ptr H.length 0 0) (.int .i64 (a : Int))
 have hle := numS_le b f rest 402 f hf
 unfold Sh.f30
 simp only [GMb, GMc, HPa, HPc, HPd, HPe, HPz, Nat.reduceAdd, Nat.reduceLT, Dv hx]
 rw [key, numR_S]
 generalize Km b f rest 402 f = R at *
 obtain ⟨er, e⟩ := R
 have hpp : ∀ G : Ab, AJ (AJ H p b r f ++ G) p b r e = AJ H p b r e ++ G := fun G => by
  rw [MT (by rw [FE]; exact hp), KH]
 cases er with
 | some v =>
  refine ⟨[.cel 0 zb], ?_⟩
  show some (Res.pan (hv v), AJ _ p b r e) = _
  rw [hpp]; rfl
 | none =>
  obtain ⟨G, hG⟩ := lx_num_end h (f := a) (e := e) (by dsimp only at hle; omega) hle.2 hb zb hz
  refine ⟨G, ?_⟩
  show Sh.f2i H (.ptr p 0 0) (.ptr H.length 0 0) (.int .i64 (a : Int)) (AJ _ p b r e) = _
  rw [hpp, hG]; rfl
theorem lx_number (h : Lx H p b a r) (ha : a ≤ b.length) (hb : b.length < 1152921504606846976) (neg : Bool) (rest : List UInt8) (hr : rest.length ≤ 1000000) :
  ∃ G, Sh.f1j (.ptr p 0 0) (.bool neg) (.str rest) H = some (Mg (FI b a neg rest).1 (big (EE ((b.take (FI b a neg rest).2).drop a))), AJ H p b r (FI b a neg rest).2 ++ G) := by
 have hx : Lx (H ++ [.cel 0 [.bool false, .sl [] .tight]]) p b a r := Lx.push h
 have hss := BC h
 unfold Sh.f1j
 have plain : Nl b a neg = a → FI b a neg rest = Km b a rest 402 a → ∃ G, Sh.f30 H (.ptr p 0 0) (.str rest) (.ptr H.length 0 0) (.int .i64 (a : Int)) (H ++ [.cel 0 [.bool false, .sl [] .tight]]) = some (Mg (FI b a neg rest).1 (big (EE ((b.take (FI b a neg rest).2).drop a))), AJ H p b r (FI b a neg rest).2 ++ G) := by
  intro e1 e2
  have := Rq h (Nat.le_refl a) ha hb rest hr [.bool false, .sl [] .tight] rfl
  rw [hss] at this
  rw [e2]; exact this
 cases neg with
 | false =>
  simp only [GMb, GMc, HPa, HPc, HPd, HPe, HPz, Nat.reduceAdd, Nat.reduceLT, Dv hx]
  exact plain rfl rfl
 | true =>
  simp only [GMb, GMc, HPa, HPc, HPd, HPe, HPz, Nat.reduceAdd, Nat.reduceLT, Dv hx, BW hx ha]
  cases hs : A8 b a [45] with
  | false =>
   simp only [GMb, GMc, HPa, HPc, HPd, HPe, HPz, Nat.reduceAdd, Nat.reduceLT]
   exact plain (by simp [Nl, hs]) (by simp [FI, Nl, hs])
  | true =>
   have hlt := Cr hs
   have hm := EO (a' := a) hx (a + 1)
   rw [BC hx] at hm
   have hx1 := C6 (a' := a + 1) hx
   have hpu := MT (b := b) (r := r) (G := [.cel 0 [.bool false, .sl [] .tight]]) (e := a + 1) (lx_lt h)
   simp only [GMb, GMc, HPa, HPc, HPd, HPe, HPz, Nat.reduceAdd, Nat.reduceLT, Dv hx, Av (show a < 9223372036854775807 by omega), hm, BW hx1 (show a + 1 ≤ b.length by omega)]
   have e1 : Nl b a true = a + 1 := by simp [Nl, hs]
   cases h0 : A8 b (a + 1) [48] with
   | true =>
    have e2 : FI b a true rest = (some (FB b (a + 1) []), a + 1) := by simp [FI, hs, h0]
    rw [e2]
    refine ⟨[.cel 0 [.bool false, .sl [] .tight]], ?_⟩
    simp only [GMb, GMc, HPa, HPc, HPd, HPe, HPz, Nat.reduceAdd, Nat.reduceLT, DA hx1]
    rw [hpu]; rfl
   | false =>
    have e2 : FI b a true rest = Km b (a + 1) rest 402 (a + 1) := by simp [FI, hs, h0, e1]
    rw [e2]
    have := Rq h (f := a + 1) (by omega) hlt hb rest hr [.bool false, .sl [] .tight] rfl
    simp only [GMb, GMc, HPa, HPc, HPd, HPe, HPz, Nat.reduceAdd, Nat.reduceLT]
    rw [hpu]
    exact this

end
end Go.Gm
namespace Go.Gm
end Go.Gm
namespace Go.Gm
def cBO : Option Int → List Aa
 | none => [.bool false, .sl [] .tight]
 | some z => E5 z
instance : Sz cBO 2 := ⟨fun a => by cases a <;> rfl⟩
instance : Pl cBO := ⟨fun a => by cases a <;> rfl⟩
def bo (a : Option Int) : Int := a.getD 0
end Go.Gm
namespace Go.Gm
section
variable {len sz id g o m p : Nat} {K : IntKind} {Hc : Ab} {nf : Nat → Nat}
theorem ON (h : m < len) : AW len sz (.ptr id g o) (.int K (m : Int)) = some (.ptr id g (o + m * sz)) := by
 unfold AW
 simp only []
 rw [if_pos ⟨by omega, by omega⟩]; simp
end
end Go.Gm
namespace Go.Gm
end Go.Gm
namespace Go.Gm
end Go.Gm
namespace Go.Gm
end Go.Gm
namespace Go.Gm
end Go.Gm
namespace Go.Gm
def bx (L : List Nd) (f : List Nd → Int) : Int := if L = [] then 0 else f L
end Go.Gm
namespace Go.Gm
end Go.Gm
namespace Go.Gm
section
variable {α : Type} {f : α → List Aa} {ty : TypeId} {sz : Nat}
def RS (f : α → List Aa) (ty : TypeId) (sz b : Nat) (out : List α) (v : Aa) (H : Ab) : Prop := (out = [] ∧ v = .sl [] .tight) ∨ ∃ t, b ≤ t ∧ v = .sl (enL f out) (.own t) ∧ H[t]? = some (.tok out.length ty sz)
theorem RS.sl {b : Nat} {out : List α} {v : Aa} {H : Ab} (h : RS f ty sz b out v H) : ∃ tk, v = .sl (enL f out) tk := by
 rcases h with ⟨rfl, rfl⟩ | ⟨t, _, rfl, _⟩
 ·exact ⟨_, rfl⟩
 ·exact ⟨_, rfl⟩
theorem RS.left {b : Nat} {out : List α} {v : Aa} {H : Ab} (h : RS f ty sz b out v H) (G : Ab) : RS f ty sz b out v (H ++ G) := by
 rcases h with h1 | ⟨t, h1, h2, h3⟩
 ·exact .inl h1
 ·exact .inr ⟨t, h1, h2, B6 h3⟩
theorem RS.put {b p : Nat} {out : List α} {v : Aa} {H : Ab} {c c' : List Aa} (h : RS f ty sz b out v H) (hp : H[p]? = some (.cel 0 c)) : RS f ty sz b out v (H.set p (.cel 0 c')) := by
 rcases h with h1 | ⟨t, h1, h2, h3⟩
 ·exact .inl h1
 ·refine .inr ⟨t, h1, h2, ?_⟩
  have : p ≠ t := fun e => by rw [← e, hp] at h3; cases h3
  rw [List.getElem?_set_ne this]; exact h3
theorem RS.snoc [hf : Sz f sz] {bytes b : Nat} {out : List α} {v : Aa} {H : Ab} (h : RS f ty sz b out v H) (hb : b ≤ H.length) (x : α) (tk : Tok) (hl : (out.length + 1) * bytes ≤ 140737488355328) (hl2 : out.length + 1 ≤ 140737488355328) :
  ∃ v' H', AG ty sz bytes v (.sl (enL f [x]) tk) H = some (v', H') ∧ RS f ty sz b (out ++ [x]) v' H' ∧ Kp b H H' := by
 rcases h with ⟨rfl, rfl⟩ | ⟨t, h1, rfl, h3⟩
 ·have := Cv (f := f) (l := []) (m := [x]) (ty := ty) (bytes := bytes) (tk := tk) (H := H) (by simp) (by simpa using hl) (by simp)
  exact ⟨_, _, this, .inr ⟨H.length, hb, rfl, by simp⟩, Kp.app hb _⟩
 ·have := DQ (f := f) (l := out) (m := [x]) (ty := ty) (bytes := bytes) (tk := tk) (H := H) (t := t) (by simp) h3 (by simpa using hl) (by simpa using hl2)
  have htl := (List.getElem?_eq_some_iff.1 h3).1
  refine ⟨_, _, this, .inr ⟨t, h1, rfl, by simp [htl]⟩, ⟨by simp, fun i cs hc => ?_, fun i hi => ?_⟩⟩
  ·have : t ≠ i := fun e => by rw [← e, h3] at hc; cases hc
   rw [List.getElem?_set_ne this]; exact hc
  ·rw [List.getElem?_set_ne (by omega)]

end
end Go.Gm
namespace Go.Gm
def lnC (q : Nat × Int) : List Aa := [.int .i64 (q.1 : Int), .int .i64 q.2]
instance : Sz lnC 2 := ⟨fun _ => rfl⟩
instance : Pl lnC := ⟨fun _ => rfl⟩
def rdR (bx N : Int) (law : List UInt8) (v w : Aa) : List Aa := [.int .i64 bx, .int .i64 N, .str law, v, w]
structure RDx (b0 p : Nat) (b : List UInt8) (a : Nat) (bx N : Int) (st : MSt) (v w : Aa) (H : Ab) : Prop where
 hb : b0 ≤ p
 lx : Lx H p b a (rdR bx N st.law v w)
 nodes : RS cNd As 5 b0 st.nodes v H
 lines : RS lnC CO 2 b0 st.lines w H
def RD (b0 p : Nat) (b : List UInt8) (a : Nat) (bx N : Int) (st : MSt) (H : Ab) : Prop := ∃ v w, RDx b0 p b a bx N st v w H
section
variable {b0 p a : Nat} {b : List UInt8} {bx N : Int} {st : MSt} {H : Ab} {v w : Aa}
theorem RDx.lt (h : RDx b0 p b a bx N st v w H) : p < H.length := lx_lt h.lx
theorem RDx.move (h : RDx b0 p b a bx N st v w H) (a' : Nat) : RDx b0 p b a' bx N st v w (AJ H p b (rdR bx N st.law v w) a') :=
 ⟨h.hb, C6 h.lx, h.nodes.put h.lx, h.lines.put h.lx⟩
theorem RDx.push (h : RDx b0 p b a bx N st v w H) (G : Ab) : RDx b0 p b a bx N st v w (H ++ G) :=
 ⟨h.hb, Lx.push h.lx, h.nodes.left G, h.lines.left G⟩
theorem Ext.setP (h : RDx b0 p b a bx N st v w H) (cs : List Aa) : Ext b0 p H (H.set p (.cel 0 cs)) :=
 ⟨by simp, fun i c hi hc => by rw [List.getElem?_set_ne (Ne.symm hi)]; exact hc, fun i hi => by rw [List.getElem?_set_ne (by have := h.hb; omega)]⟩
theorem Ext.push (b id : Nat) (hb : b ≤ H.length) (G : Ab) : Ext b id H (H ++ G) :=
 ⟨by simp, fun i c hi hc => B6 hc, fun i hi => List.getElem?_append_left (by omega)⟩
theorem RDx.ble (h : RDx b0 p b a bx N st v w H) : b0 ≤ H.length := Nat.le_trans h.hb (Nat.le_of_lt h.lt)
theorem RDx.go (h : RDx b0 p b a bx N st v w H) (a' : Nat) (G : Ab) : RDx b0 p b a' bx N st v w (AJ H p b (rdR bx N st.law v w) a' ++ G) ∧ Ext b0 p H (AJ H p b (rdR bx N st.law v w) a' ++ G) :=
 ⟨(h.move a').push G, (Ext.setP h _).trans (Ext.push b0 p (by show b0 ≤ List.length _; rw [show (H.set p _).length = H.length from by simp]; exact h.ble) G)⟩
theorem RDx.go0 (h : RDx b0 p b a bx N st v w H) (a' : Nat) : RDx b0 p b a' bx N st v w (AJ H p b (rdR bx N st.law v w) a') ∧ Ext b0 p H (AJ H p b (rdR bx N st.law v w) a') :=
 ⟨h.move a', Ext.setP h _⟩
def NN (b0 p : Nat) (b : List UInt8) (bx N : Int) (H : Ab) (x : Out) (v : Aa) (s : (Er × Nat) × MSt) : Prop := ∃ H', x = some (Mg s.1.1 v, H') ∧ Ext b0 p H H' ∧ RD b0 p b s.1.2 bx N s.2 H'
theorem mustS_le {s rest : List UInt8} (ha : a ≤ b.length) : (B3 b a s rest).2 ≤ b.length := HK ha s
theorem rulS_le {rest : List UInt8} (ha : a ≤ b.length) : a ≤ (O4 b a rest).2 ∧ (O4 b a rest).2 ≤ b.length := ruleN_le 40 a ha
theorem anyN_le (ha : a ≤ b.length) : Ff b a ≤ b.length := by
 unfold Ff
 have := (List.takeWhile_sublist (l := b.drop a) fun c => !([13, 10] : List UInt8).contains c).length_le
 rw [List.length_drop] at this
 omega
theorem rd_mark (h : RD b0 p b a bx N st H) (ha : a < b.length) (hb : b.length < 1152921504606846976) : NN b0 p b bx N H (Sh.f1l (.ptr p 0 0) H) (.tup []) (Mw b a st) := by
 obtain ⟨v, w, h⟩ := h
 have hm := EO (a' := a) h.lx (a + 1)
 rw [BC h.lx] at hm
 have h1 := (h.go0 (a + 1)).1
 have e1 := (h.go0 (a + 1)).2
 have hle : a + 1 ≤ b.length := by omega
 unfold NN Sh.f1l Mw
 simp only [GMb, GMc, HPa, HPc, HPd, HPe, HPz, Nat.reduceAdd, Nat.reduceLT, Dv h.lx, Av (show a < 9223372036854775807 by omega), hm]
 generalize AJ H p b (rdR bx N st.law v w) (a + 1) = H1 at h1 e1
 simp only [BW h1.lx hle]
 cases hC : A8 b (a + 1) [67] with
 | true =>
  simp only [GMb, GMc, HPa, HPc, HPd, HPe, HPz, Nat.reduceAdd, Nat.reduceLT, lx_any h1.lx hle hb, if_true]
  exact ⟨_, rfl, e1.trans (h1.go0 _).2, _, _, (h1.go0 _).1⟩
 | false =>
  simp only [GMb, GMc, HPa, HPc, HPd, HPe, HPz, Nat.reduceAdd, Nat.reduceLT, BW h1.lx hle, Bool.false_eq_true, if_false]
  cases hG : A8 b (a + 1) [71] with
  | true =>
   simp only [GMb, GMc, HPa, HPc, HPd, HPe, HPz, Nat.reduceAdd, Nat.reduceLT, Mx h1.lx hle hb [71, 32] [49] (by decide) (by decide), if_true]
   have hM := mustS_le (s := [71, 32]) (rest := [49]) hle
   generalize B3 b (a + 1) [71, 32] [49] = M at hM
   obtain ⟨er, c⟩ := M
   dsimp only at hM ⊢
   obtain ⟨h2, e2⟩ := h1.go0 c
   cases er with
   | some e =>
    simp only [GMb, GMc, HPa, HPc, HPd, HPe, HPz, Nat.reduceAdd, Nat.reduceLT, Bj]
    exact ⟨_, rfl, e1.trans e2, _, _, h2⟩
   | none =>
    obtain ⟨G, hn⟩ := lx_number h2.lx hM hb false [] (by decide)
    obtain ⟨h3, e3⟩ := h2.go (FI b c false []).2 G
    simp only [GMb, GMc, HPa, HPc, HPd, HPe, HPz, Nat.reduceAdd, Nat.reduceLT, Bv, hn]
    generalize AJ _ p b _ (FI b c false []).2 ++ G = H3 at h3 e3
    refine ⟨H3, ?_, (e1.trans e2).trans e3, _, _, h3⟩
    cases (FI b c false []).1 <;> simp only [GMb, GMc, HPa, HPc, HPd, HPe, HPz, Nat.reduceAdd, Nat.reduceLT, Bv, Bj]
  | false =>
   simp only [GMb, GMc, HPa, HPc, HPd, HPe, HPz, Nat.reduceAdd, Nat.reduceLT, BW h1.lx hle, Bool.false_eq_true, if_false]
   cases hR : A8 b (a + 1) [82] with
   | true =>
    simp only [GMb, GMc, HPa, HPc, HPd, HPe, HPz, Nat.reduceAdd, Nat.reduceLT, Mx h1.lx hle hb [82, 32] [97] (by decide) (by decide), if_true]
    have hM := mustS_le (s := [82, 32]) (rest := [97]) hle
    generalize B3 b (a + 1) [82, 32] [97] = M at hM
    obtain ⟨er, c⟩ := M
    dsimp only at hM ⊢
    obtain ⟨h2, e2⟩ := h1.go0 c
    cases er with
    | some e =>
     simp only [GMb, GMc, HPa, HPc, HPd, HPe, HPz, Nat.reduceAdd, Nat.reduceLT, Bj]
     exact ⟨_, rfl, e1.trans e2, _, _, h2⟩
    | none =>
     simp only [GMb, GMc, HPa, HPc, HPd, HPe, HPz, Nat.reduceAdd, Nat.reduceLT, Bv, lx_ruleS h2.lx hM hb [] (by decide)]
     generalize O4 b c [] = M
     obtain ⟨er, d⟩ := M
     dsimp only
     obtain ⟨h3, e3⟩ := h2.go0 d
     generalize AJ _ p b _ d = H3 at h3 e3
     cases er with
     | some e =>
      simp only [GMb, GMc, HPa, HPc, HPd, HPe, HPz, Nat.reduceAdd, Nat.reduceLT, Bj]
      exact ⟨_, rfl, (e1.trans e2).trans e3, _, _, h3⟩
     | none =>
      have hst := st_cel (o := 4) (v := .str ((b.take d).drop c)) h3.lx rfl (by simp [rdR])
      simp only [GMb, GMc, HPa, HPc, HPd, HPe, HPz, Nat.reduceAdd, Nat.reduceLT, Bv, hst]
      refine ⟨_, rfl, ((e1.trans e2).trans e3).trans (Ext.setP h3 _), v, w, h3.hb, ?_, h3.nodes.put h3.lx, h3.lines.put h3.lx⟩
      unfold Lx
      rw [List.getElem?_set_self h3.lt]; rfl
   | false =>
    simp only [GMb, GMc, HPa, HPc, HPd, HPe, HPz, Nat.reduceAdd, Nat.reduceLT, DA h1.lx, Bool.false_eq_true, if_false]
    exact ⟨_, rfl, e1, _, _, h1⟩

end
end Go.Gm
namespace Go.Gm
section
variable {α β : Type} {f : α → List Aa} {g : β → List Aa} {ty ty2 : TypeId} {sz sz2 : Nat}
structure Hk (v v' : Aa) (H H' : Ab) : Prop where
 len : H.length ≤ H'.length
 keep : ∀ i, i < H.length → (∀ es, v ≠ .sl es (.own i)) → H'[i]? = H[i]?
 own : ∀ i es, v' = .sl es (.own i) → H.length ≤ i ∨ ∃ es', v = .sl es' (.own i)
theorem RS.snoc2 [hf : Sz f sz] {bytes b : Nat} {out : List α} {v : Aa} {H : Ab} (h : RS f ty sz b out v H) (hb : b ≤ H.length) (x : α) (tk : Tok) (hl : (out.length + 1) * bytes ≤ 140737488355328) (hl2 : out.length + 1 ≤ 140737488355328) :
  ∃ v' H', AG ty sz bytes v (.sl (enL f [x]) tk) H = some (v', H') ∧ RS f ty sz b (out ++ [x]) v' H' ∧ Kp b H H' ∧ Hk v v' H H' := by
 rcases h with ⟨rfl, rfl⟩ | ⟨t, h1, rfl, h3⟩
 ·have := Cv (f := f) (l := []) (m := [x]) (ty := ty) (bytes := bytes) (tk := tk) (H := H) (by simp) (by simpa using hl) (by simp)
  refine ⟨_, _, this, .inr ⟨H.length, hb, rfl, by simp⟩, Kp.app hb _, by simp, fun i hi _ => List.getElem?_append_left hi, fun i es e => ?_⟩
  injection e with _ e; injection e with e
  exact .inl (by omega)
 ·have := DQ (f := f) (l := out) (m := [x]) (ty := ty) (bytes := bytes) (tk := tk) (H := H) (t := t) (by simp) h3 (by simpa using hl) (by simpa using hl2)
  have htl := (List.getElem?_eq_some_iff.1 h3).1
  refine ⟨_, _, this, .inr ⟨t, h1, rfl, by simp [htl]⟩, ⟨by simp, fun i cs hc => ?_, fun i hi => ?_⟩, by simp, fun i hi hne => ?_, fun i es e => ?_⟩
  ·have : t ≠ i := fun e => by rw [← e, h3] at hc; cases hc
   rw [List.getElem?_set_ne this]; exact hc
  ·rw [List.getElem?_set_ne (by omega)]
  ·have : t ≠ i := fun e => hne _ (by rw [e])
   rw [List.getElem?_set_ne this]
  ·injection e with _ e; injection e with e
   exact .inr ⟨_, by rw [e]⟩
theorem RS.stay {b : Nat} {out : List α} {v w w' : Aa} {H H' : Ab} (h : RS f ty sz b out v H) (hg : Hk w w' H H') (hne : ∀ i es es', v = .sl es (.own i) → w ≠ .sl es' (.own i)) : RS f ty sz b out v H' := by
 rcases h with h1 | ⟨t, h1, h2, h3⟩
 ·exact .inl h1
 ·have htl := (List.getElem?_eq_some_iff.1 h3).1
  exact .inr ⟨t, h1, h2, by rw [hg.keep t htl fun es => hne t _ es h2]; exact h3⟩
theorem RS.apart {b b2 : Nat} {out : List α} {out2 : List β} {v w : Aa} {H : Ab} (h : RS f ty sz b out v H) (h2 : RS g ty2 sz2 b2 out2 w H) (hne : (ty, sz) ≠ (ty2, sz2)) : ∀ i es es', v = .sl es (.own i) → w ≠ .sl es' (.own i) := by
 intro i es es' e1 e2
 rcases h with ⟨_, k1⟩ | ⟨t, _, k1, k2⟩
 ·rw [k1] at e1; injection e1 with _ e1; cases e1
 ·rcases h2 with ⟨_, l1⟩ | ⟨t2, _, l1, l2⟩
  ·rw [l1] at e2; injection e2 with _ e2; cases e2
  ·rw [k1] at e1; injection e1 with _ e1; injection e1 with e1
   rw [l1] at e2; injection e2 with _ e2; injection e2 with e2
   rw [e1] at k2; rw [e2, k2] at l2
   injection l2 with l2; injection l2 with _ l3 l4
   exact hne (by rw [l3, l4])
theorem RS.notok {b i : Nat} {out : List α} {v : Aa} {H : Ab} {B : Blk} (h : RS f ty sz b out v H) (hB : H[i]? = some B) (hn : ∀ n e s, B ≠ .tok n e s) : ∀ es, v ≠ .sl es (.own i) := by
 intro es e
 rcases h with ⟨_, k1⟩ | ⟨t, _, k1, k2⟩
 ·rw [k1] at e; injection e with _ e; cases e
 ·rw [k1] at e; injection e with _ e; injection e with e
  rw [e, hB] at k2; injection k2 with k2
  exact hn _ _ _ k2
theorem RS.setB {b i : Nat} {out : List α} {v : Aa} {H : Ab} {B B' : Blk} (h : RS f ty sz b out v H) (hB : H[i]? = some B) (hn : ∀ n e s, B ≠ .tok n e s) : RS f ty sz b out v (H.set i B') := by
 have hne := h.notok hB hn
 rcases h with h1 | ⟨t, h1, h2, h3⟩
 ·exact .inl h1
 ·refine .inr ⟨t, h1, h2, ?_⟩
  have : i ≠ t := fun e => hne _ (by rw [h2, e])
  rw [List.getElem?_set_ne this]; exact h3
theorem RS.one {b : Nat} {out : List α} {v : Aa} {H : Ab} (h : RS f ty sz b out v H) : v.isScal = true := by
 obtain ⟨tk, rfl⟩ := h.sl; rfl
theorem RS.len {b : Nat} {out : List α} {v : Aa} {H : Ab} (h : RS f ty sz b out v H) : AE v = some (.int .i64 (out.length : Int)) := by
 obtain ⟨tk, rfl⟩ := h.sl; exact A2
theorem RS.idx [hf : Sz f sz] {b i : Nat} {out : List α} {v : Aa} {H : Ab} (h : RS f ty sz b out v H) (hi : i < out.length) (K : IntKind) : A4 sz v (.int K (i : Int)) = some (.cptr (f out[i]) 0) := by
 obtain ⟨tk, rfl⟩ := h.sl; exact Aw hi

end
end Go.Gm
namespace Go.Gm
theorem cNd_len (x : Nd) : (cNd x).length = 5 := (rfl)
theorem shl_one {v : Nat} (h : v < 60) : Af .none .shl (.int .i64 1) (.int .i64 (v : Int)) = some (.int .i64 ((2 ^ v : Nat) : Int)) := by
 have hm : min ((v : Int)).toNat IntKind.i64.bits = v := by simp [IntKind.bits]; omega
 have hp : 2 ^ v < 1152921504606846976 := Nat.lt_of_lt_of_le (Nat.pow_lt_pow_right (by decide) h) (by decide)
 have hn : ¬ (v : Int) < 0 := by omega
 unfold Af
 simp only [Ct, if_true, JF, if_neg hn, hm]
 have : (1 * 2 ^ v : Int) = ((2 ^ v : Nat) : Int) := by simp
 rw [this]
 generalize 2 ^ v = m at *
 rw [Cz (by omega)]
section
variable {b0 p a : Nat} {b : List UInt8} {bx N : Int} {st : MSt} {H : Ab}
def RDw (b0 p : Nat) (b : List UInt8) (a : Nat) (bx N : Int) (st : MSt) (w : Aa) (H : Ab) : Prop := ∃ v, RDx b0 p b a bx N st v w H
def MSt.put (st : MSt) (x : Nd) : MSt := { st with nodes := st.nodes ++ [x] }
theorem rd_put {w : Aa} (h : RDw b0 p b a bx N st w H) (x : Nd) (hn : st.nodes.length < 3000000000000) :
  ∃ H', Sh.fh (.ptr p 0 0) (.agg (cNd x)) H = some (.ret (.int .i64 ((st.nodes.length + 1 : Nat) : Int)), H') ∧ Ext b0 p H H' ∧ RDw b0 p b a bx N (st.put x) w H' := by
 obtain ⟨v, h⟩ := h
 have hB : b0 ≤ (H ++ [Blk.cel 0 (cNd x)]).length := by have := h.ble; simp; omega
 have h1 := h.push [.cel 0 (cNd x)]
 obtain ⟨v', H', ha, hr, hk, hg⟩ := RS.snoc2 (bytes := 40) h1.nodes hB x .tight (by omega) (by omega)
 have hc' := hk.cel _ _ h1.lx
 have hst := st_cel (o := 5) (v := v') hc' hr.one (by simp [rdR])
 have hlt' : p < H'.length := (List.getElem?_eq_some_iff.1 hc').1
 have e1 : Ext b0 p H (H ++ [.cel 0 (cNd x)]) := Ext.push b0 p h.ble _
 have e2 : Ext b0 p (H ++ [.cel 0 (cNd x)]) H' := ⟨hk.len, fun i cs _ hc => hk.cel i cs hc, hk.old⟩
 have e3 : ∀ cs, Ext b0 p H' (H'.set p (.cel 0 cs)) := fun cs => ⟨by simp, fun i c hi hc => by rw [List.getElem?_set_ne (Ne.symm hi)]; exact hc, fun i hi => by rw [List.getElem?_set_ne (by have := h.hb; omega)]⟩
 have hset : ∀ cs : List Aa, (H'.set p (.cel 0 cs))[p]? = some (.cel 0 cs) := fun cs => by rw [List.getElem?_set_self hlt']
 unfold Sh.fh
 rw [Gw (sz := 5) Ci rfl]
 simp only [GMb, GMc, HPa, HPc, HPd, HPe, HPz, Nat.reduceAdd, Nat.reduceLT, Bw h1.lx, rdR, cNd_len, FS, ha, hst, Bw (hset _), hr.len]
 refine ⟨_, by rw [List.length_append]; rfl, (e1.trans e2).trans (e3 _), v', h.hb, ?_, hr.put hc', (h1.lines.stay hg (RS.apart h1.lines h1.nodes (by decide))).put hc'⟩
 unfold Lx
 rw [hset]; rfl
def OnC (q : Nat) (on : List Bool) (H : Ab) : Prop := H[q]? = some (.cel 0 (flat cB on))
theorem onC_load {q : Nat} {on : List Bool} (h : OnC q on H) (hl : on.length = 64) {x y : Nat} (hx : x < 8) (hy : y < 8) : Ad false 1 (.ptr q 0 (y * 8 + x * 1)) H = some (.bool (onQ on x y)) := by
 have hi : y * 8 + x < on.length := by omega
 rw [show y * 8 + x * 1 = y * 8 + x by omega, HJ (f := cB) (Ba h) hi]
 unfold onQ
 rw [List.getD_eq_getElem?_getD, List.getElem?_eq_getElem hi]; rfl
theorem OG {on : Nat → Nat → Bool} {rec : Nat → Nat → List Nd → List Nd} {m : Nat} (hr : ∀ x y l, (rec x y l).length ≤ l.length + m) (level x y half : Nat) : ∀ k l, (sqK on rec level x y half k l).1.length ≤ l.length + k * m
 | 0, l => by simp [sqK]
 | k + 1, l => by
  have ih := OG (on := on) hr level x y half k l
  unfold sqK
  simp only
  split
  ·rw [Nat.succ_mul]; dsimp only; omega
  ·have := hr (x + k % 2 * half) (y + k / 2 * half) (sqK on rec level x y half k l).1
   rw [Nat.succ_mul]; dsimp only; omega
def sqM : Nat → Nat
 | 0 => 0
 | v + 1 => 4 * sqM v + 1
theorem OH (on : Nat → Nat → Bool) : ∀ v x y l, (sqF on v x y l).length ≤ l.length + sqM v
 | 0, x, y, l => by simp [sqF, sqM]
 | v + 1, x, y, l => by
  have := OG (on := on) (OH on v) (v + 1) x y (2 ^ v) 4 l
  unfold sqF sqM
  simp only [List.length_append, List.length_singleton]
  omega
theorem rd_square {w : Aa} {q : Nat} {on : List Bool} (hl : on.length = 64) (hq : q ≠ p) : ∀ (v d x y : Nat) (st : MSt) (H : Ab), v ≤ 3 → v < d → x + 2 ^ v ≤ 8 → y + 2 ^ v ≤ 8 → 0 < v → st.nodes.length + sqM v < 3000000000000 → RDw b0 p b a bx N st w H → OnC q on H →
  ∃ H', Sh.f9 d (.ptr p 0 0) (.ptr q 0 0) (.int .i64 (v : Int)) (.int .i64 (x : Int)) (.int .i64 (y : Int)) H = some (.ret (.int .i64 ((sqF (onQ on) v x y st.nodes).length : Int)), H') ∧ Ext b0 p H H' ∧ RDw b0 p b a bx N { st with nodes := sqF (onQ on) v x y st.nodes } w H' := by
 intro v
 induction v with
 | zero => intro d x y st H _ _ _ _ h0; omega
 | succ v ih =>
  intro d x y st H hv hd hx hy _ hn h hon
  obtain ⟨d, rfl⟩ : ∃ e, d = e + 1 := ⟨d - 1, by omega⟩
  have hble : b0 ≤ H.length := by obtain ⟨_, h⟩ := h; exact h.ble
  have hlt : p < H.length := by obtain ⟨_, h⟩ := h; exact h.lt
  have hw1 : IntKind.i64.wrap (((v + 1 : Nat) : Int) - 1) = (v : Int) := by rw [A0] <;> omega
  have hbd : A3 (some [(.int .i64 0), (.int .i64 0), (.int .i64 0), (.int .i64 0), (.int .i64 0)]) [(0, 1, .int .i64 ((v + 1 : Nat) : Int))] = some (.agg (cNd ⟨((v + 1 : Nat) : Int), 0, 0, 0, 0⟩)) := rfl
  have hhalf : 2 ^ v ≤ 4 := by
   have : v = 0 ∨ v = 1 ∨ v = 2 := by omega
   rcases this with h | h | h <;> subst h <;> decide
  have h2v : 2 ^ (v + 1) = 2 * 2 ^ v := by rw [Nat.pow_succ]; omega
  have hpos : 0 < 2 ^ v := Nat.pow_pos (by decide)
  show ∃ H', Sh.f48 (Sh.f9 d) _ _ _ _ _ _ = _ ∧ _
  unfold Sh.f48
  simp only [GMb, GMc, hw1, shl_one (show v < 60 by omega), hbd, Fg, DT (A9 (B := H) (cs := cNd nd0)) rfl, BJ]
  have hsl : ∀ k, k ≤ 4 → (sqK (onQ on) (sqF (onQ on) v) (v + 1) x y (2 ^ v) k st.nodes).1.length ≤ st.nodes.length + 4 * sqM v := fun k hk => by
   have := OG (on := onQ on) (OH (onQ on) v) (v + 1) x y (2 ^ v) k st.nodes
   have : k * sqM v ≤ 4 * sqM v := Nat.mul_le_mul_right _ hk
   omega
  have hsm : sqM (v + 1) = 4 * sqM v + 1 := rfl
  have hsk : ∀ k, k < 4 → (sqK (onQ on) (sqF (onQ on) v) (v + 1) x y (2 ^ v) k st.nodes).1.length ≤ st.nodes.length + 3 * sqM v := fun k hk => by
   have := OG (on := onQ on) (OH (onQ on) v) (v + 1) x y (2 ^ v) k st.nodes
   have : k * sqM v ≤ 3 * sqM v := Nat.mul_le_mul_right _ (by omega)
   omega
  generalize hhf : 2 ^ v = half at *
  have loop := My (G := fun rec1 vs H1 => Sh.f1m H (Sh.f9 d) rec1 (ag vs 0) (ag vs 1) (ag vs 2) (ag vs 3) (ag vs 4) (ag vs 5) (ag vs 6) (ag vs 7) H1) 4
   (fun k vs Hc => vs = [.ptr p 0 0, .ptr q 0 0, .int .i64 ((v + 1 : Nat) : Int), .int .i64 (x : Int), .int .i64 (y : Int), .int .i64 (half : Int), .ptr H.length 0 0, .int .i64 (k : Int)] ∧ Ext b0 p H Hc ∧
    RDw b0 p b a bx N { st with nodes := (sqK (onQ on) (sqF (onQ on) v) (v + 1) x y half k st.nodes).1 } w Hc ∧ Hc[H.length]? = some (.cel 0 (cNd (sqK (onQ on) (sqF (onQ on) v) (v + 1) x y half k st.nodes).2)))
   (by decide) (fun k vs Hc hk hI => ?_) (vs := [.ptr p 0 0, .ptr q 0 0, .int .i64 ((v + 1 : Nat) : Int), .int .i64 (x : Int), .int .i64 (y : Int), .int .i64 (half : Int), .ptr H.length 0 0, .int .i64 0]) (H := H ++ [.cel 0 (cNd ⟨((v + 1 : Nat) : Int), 0, 0, 0, 0⟩)])
   ⟨rfl, Ext.push b0 p hble _, by obtain ⟨v', h⟩ := h; exact ⟨v', h.push _⟩, by simp [sqK]⟩
  ·obtain ⟨vs', Hc, ⟨rfl, hE, hR, hcell⟩, rec, hloop⟩ := loop
   rw [hloop]
   unfold Sh.f1m
   obtain ⟨H', hp1, hp2, hp3⟩ := rd_put hR (sqK (onQ on) (sqF (onQ on) v) (v + 1) x y half 4 st.nodes).2 (by have := hsl 4 (by omega); dsimp only; omega)
   simp only [GMb, GMc, Ay, show ¬ (((4 : Nat) : Int) < 4) from by decide, CK hcell, hp1]
   have hfin : sqF (onQ on) (v + 1) x y st.nodes = (sqK (onQ on) (sqF (onQ on) v) (v + 1) x y half 4 st.nodes).1 ++ [(sqK (onQ on) (sqF (onQ on) v) (v + 1) x y half 4 st.nodes).2] := by
    unfold sqF; rw [hhf]
   rw [hfin]
   exact ⟨H', by rw [List.length_append]; rfl, hE.trans hp2, hp3⟩
  ·obtain ⟨rfl, hE, hR, hcell⟩ := hI
   have hk' : (k : Int) < 4 := by omega
   have hk2 : k % 2 ≤ 1 := by omega
   have hk3 : k / 2 ≤ 1 := by omega
   have m1 : k % 2 * half ≤ half := by rcases Nat.le_one_iff_eq_zero_or_eq_one.1 hk2 with h | h <;> rw [h] <;> omega
   have m2 : k / 2 * half ≤ half := by rcases Nat.le_one_iff_eq_zero_or_eq_one.1 hk3 with h | h <;> rw [h] <;> omega
   have hr2 : Af .none .rem (.int .i64 (k : Int)) (.int .i64 2) = some (.int .i64 ((k % 2 : Nat) : Int)) := by rw [Il (by decide)]; rfl
   have hq2 : Af .none .quo (.int .i64 (k : Int)) (.int .i64 2) = some (.int .i64 ((k / 2 : Nat) : Int)) := by
    rw [Lc (by decide), show ((k : Int).tdiv 2) = ((k / 2 : Nat) : Int) from rfl, Cz (by omega)]
   have hm1 : IntKind.i64.wrap (((k % 2 : Nat) : Int) * (half : Int)) = ((k % 2 * half : Nat) : Int) := by rw [← Int.natCast_mul, Cz (by omega)]
   have hm2 : IntKind.i64.wrap (((k / 2 : Nat) : Int) * (half : Int)) = ((k / 2 * half : Nat) : Int) := by rw [← Int.natCast_mul, Cz (by omega)]
   have ha1 : IntKind.i64.wrap ((x : Int) + ((k % 2 * half : Nat) : Int)) = ((x + k % 2 * half : Nat) : Int) := KE (by omega)
   have ha2 : IntKind.i64.wrap ((y : Int) + ((k / 2 * half : Nat) : Int)) = ((y + k / 2 * half : Nat) : Int) := KE (by omega)
   have hws := Av (show k < 9223372036854775807 by omega)
   have hon' : OnC q on Hc := hE.cel q _ hq hon
   have hHl : H.length ≠ p := by omega
   generalize hX : x + k % 2 * half = X at *
   generalize hY : y + k / 2 * half = Y at *
   have hl1 := hsl (k + 1) (by omega)
   have hl0 := hsk k (by omega)
   by_cases hv0 : v = 0
   ·have hgt : ¬ (((v + 1 : Nat) : Int) > 1) := by omega
    have hh1 : half = 1 := by rw [← hhf, hv0]
    have hX8 : X < 8 := by omega
    have hY8 : Y < 8 := by omega
    have hstep : sqK (onQ on) (sqF (onQ on) v) (v + 1) x y half (k + 1) st.nodes = ((sqK (onQ on) (sqF (onQ on) v) (v + 1) x y half k st.nodes).1, (sqK (onQ on) (sqF (onQ on) v) (v + 1) x y half k st.nodes).2.setKid k (if onQ on X Y then 1 else 0)) := by
     conv => lhs; unfold sqK
     simp only [hX, hY]
     rw [if_pos (show v + 1 ≤ 1 by omega)]
    have hkid0 : (sqK (onQ on) (sqF (onQ on) v) (v + 1) x y half k st.nodes).2.setKid k 0 = (sqK (onQ on) (sqF (onQ on) v) (v + 1) x y half k st.nodes).2 := by
     have : ∀ j, (sqK (onQ on) (sqF (onQ on) v) (v + 1) x y half j st.nodes).2.kid k = 0 ∨ k < j := by
      intro j
      induction j with
      | zero => left; match k, hk with
       | 0, _ => rfl
       | 1, _ => rfl
       | 2, _ => rfl
       | 3, _ => rfl
      | succ j ihj =>
       by_cases hkj : k < j + 1
       ·exact .inr hkj
       ·left
        rcases ihj with h | h
        ·unfold sqK
         simp only
         by_cases hj4 : j < 4
         ·split <;> (rw [Ds _ _ hj4 hk (by omega)]; exact h)
         ·omega
        ·omega
     have h0 := (this k).resolve_right (by omega)
     generalize (sqK (onQ on) (sqF (onQ on) v) (v + 1) x y half k st.nodes).2 = z at h0
     obtain ⟨z0, z1, z2, z3, z4⟩ := z
     match k, hk, h0 with
     | 0, _, h0 => simp only [Nd.kid] at h0; simp [Nd.setKid, h0]
     | 1, _, h0 => simp only [Nd.kid] at h0; simp [Nd.setKid, h0]
     | 2, _, h0 => simp only [Nd.kid] at h0; simp [Nd.setKid, h0]
     | 3, _, h0 => simp only [Nd.kid] at h0; simp [Nd.setKid, h0]
    have hi1 := ON (sz := 8) (K := .i64) (id := q) (g := 0) (o := 0) hY8
    have hi2 := ON (sz := 1) (K := .i64) (id := q) (g := 0) (o := Y * 8) hX8
    have hld := onC_load hon' hl hX8 hY8
    rw [hstep]
    cases hb1 : onQ on X Y with
    | true =>
     rw [hb1] at hld
     refine ⟨[.ptr p 0 0, .ptr q 0 0, .int .i64 ((v + 1 : Nat) : Int), .int .i64 (x : Int), .int .i64 (y : Int), .int .i64 (half : Int), .ptr H.length 0 0, .int .i64 ((k + 1 : Nat) : Int)], Hc.set H.length (.cel 0 (cNd ((sqK (onQ on) (sqF (onQ on) v) (v + 1) x y half k st.nodes).2.setKid k 1))), ⟨rfl, ⟨by have := hE.len; simpa using this, fun i cs hi hc => ?_, fun i hi => ?_⟩, ?_, ?_⟩, fun rec => ?_⟩
     ·rw [List.getElem?_set_ne (by have := (List.getElem?_eq_some_iff.1 hc).1; omega)]; exact hE.cel i cs hi hc
     ·rw [List.getElem?_set_ne (by omega)]; exact hE.old i hi
     ·obtain ⟨v', hR⟩ := hR
      refine ⟨v', hR.hb, ?_, hR.nodes.put hcell, hR.lines.put hcell⟩
      unfold Lx; rw [List.getElem?_set_ne hHl]; exact hR.lx
     ·rw [List.getElem?_set_self (List.getElem?_eq_some_iff.1 hcell).1]; rfl
     ·unfold Sh.f1m
      simp only [GMb, GMc, Ay, hk', hr2, hm1, ha1, hq2, hm2, ha2, hgt, Ae, hi1, hi2, hld, Ah, Nat.zero_add, CM hk, Cw hcell hk, hws]
    | false =>
     rw [hb1] at hld
     simp only [Bool.false_eq_true, if_false, hkid0]
     refine ⟨[.ptr p 0 0, .ptr q 0 0, .int .i64 ((v + 1 : Nat) : Int), .int .i64 (x : Int), .int .i64 (y : Int), .int .i64 (half : Int), .ptr H.length 0 0, .int .i64 ((k + 1 : Nat) : Int)], Hc, ⟨rfl, hE, hR, hcell⟩, fun rec => ?_⟩
     unfold Sh.f1m
     simp only [GMb, GMc, Ay, hk', hr2, hm1, ha1, hq2, hm2, ha2, hgt, Ae, hi1, hi2, hld, hws, Nat.zero_add]
   ·have hgt : (((v + 1 : Nat) : Int) > 1) := by omega
    have hstep : sqK (onQ on) (sqF (onQ on) v) (v + 1) x y half (k + 1) st.nodes = (sqF (onQ on) v X Y (sqK (onQ on) (sqF (onQ on) v) (v + 1) x y half k st.nodes).1, (sqK (onQ on) (sqF (onQ on) v) (v + 1) x y half k st.nodes).2.setKid k ((sqF (onQ on) v X Y (sqK (onQ on) (sqF (onQ on) v) (v + 1) x y half k st.nodes).1).length : Int)) := by
     conv => lhs; unfold sqK
     simp only [hX, hY]
     rw [if_neg (show ¬ v + 1 ≤ 1 by omega)]
    rw [hstep]
    obtain ⟨H1, i1, i2, i3⟩ := ih d X Y _ Hc (by omega) (by omega) (by omega) (by omega) (by omega) (by dsimp only; omega) hR hon'
    dsimp only at i1 i3
    have hcell1 := i2.cel _ _ hHl hcell
    refine ⟨[.ptr p 0 0, .ptr q 0 0, .int .i64 ((v + 1 : Nat) : Int), .int .i64 (x : Int), .int .i64 (y : Int), .int .i64 (half : Int), .ptr H.length 0 0, .int .i64 ((k + 1 : Nat) : Int)], H1.set H.length (.cel 0 (cNd ((sqK (onQ on) (sqF (onQ on) v) (v + 1) x y half k st.nodes).2.setKid k ((sqF (onQ on) v X Y (sqK (onQ on) (sqF (onQ on) v) (v + 1) x y half k st.nodes).1).length : Int)))), ⟨rfl, ⟨?_, fun i cs hi hc => ?_, fun i hi => ?_⟩, ?_, ?_⟩, fun rec => ?_⟩
    ·have := hE.len; have := i2.len; simp; omega
    ·rw [List.getElem?_set_ne (by have := (List.getElem?_eq_some_iff.1 hc).1; omega)]; exact i2.cel i cs hi (hE.cel i cs hi hc)
    ·rw [List.getElem?_set_ne (by omega), i2.old i hi]; exact hE.old i hi
    ·obtain ⟨v', hR⟩ := i3
     refine ⟨v', hR.hb, ?_, hR.nodes.put hcell1, hR.lines.put hcell1⟩
     unfold Lx; rw [List.getElem?_set_ne hHl]; exact hR.lx
    ·rw [List.getElem?_set_self (List.getElem?_eq_some_iff.1 hcell1).1]
    ·unfold Sh.f1m
     simp only [GMb, GMc, Ay, hk', hr2, hm1, ha1, hq2, hm2, ha2, hgt, hw1, i1, Ah, Nat.zero_add, CM hk, Cw hcell1 hk, hws]

end
end Go.Gm
namespace Go.Gm
theorem flat_cB (on : List Bool) : flat cB on = on.map Aa.bool := by
 induction on with
 | nil => rfl
 | cons c l ih => rw [Cp, ih]; rfl
theorem flat_cB_set (on : List Bool) (i : Nat) (t : Bool) : (flat cB on).set i (.bool t) = flat cB (on.set i t) := by
 rw [flat_cB, flat_cB, List.map_set]
theorem lx_moveG {H G : Ab} {p a a' : Nat} {b : List UInt8} {r : List Aa} (h : Lx H p b a r) (n : Nat) : Al 1 (.ptr p 0 1) (.int .i64 (n : Int)) (AJ H p b r a' ++ G) = some (AJ H p b r n ++ G) := by
 have hp := lx_lt h
 rw [lx_step (Lx.push (C6 (a' := a') h))]
 congr 1
 rw [List.set_append_left _ _ (by rw [FE]; exact hp)]
 congr 1
 exact KH H p a' n b r r
theorem GQ (b : List UInt8) : ∀ n a x y on, a ≤ b.length → a ≤ (DX b n a x y on).2.1 ∧ (DX b n a x y on).2.1 ≤ b.length ∧ (DX b n a x y on).2.2.length = on.length
 | 0, a, x, y, on, h => ⟨Nat.le_refl _, h, rfl⟩
 | n + 1, a, x, y, on, h => by
  unfold DX
  cases hs : A8 b a [46, 42, 36] with
  | false => exact ⟨Nat.le_refl _, h, rfl⟩
  | true =>
   simp only [if_true]
   split
   ·exact ⟨Nat.le_refl _, h, rfl⟩
   ·split
    ·have := GQ b n (a + 1) 0 (y + 1) on (Cr hs); omega
    ·have := GQ b n (a + 1) (x + 1) y (on.set (y * 8 + x) (A8 b a [42])) (Cr hs)
     rw [List.length_set] at this; omega
section
variable {b0 p a : Nat} {b : List UInt8} {bx N : Int} {st : MSt} {H : Ab}
noncomputable def PP (H0 : Ab) (r_4 on_5 : Aa) (H12 : Ab) : Out :=
 Cj (Sh.f9 AI r_4 on_5 (.int .i64 3) (.int .i64 0) (.int .i64 0) H12) fun x60 H61 =>
 (Ae r_4).bind fun x62 =>
 (Ac 6 x62).bind fun x63 =>
 bC (Ad false 1 x63 H61) (fun x64 => Ad false 1 x63 H12 = some x64 ∧ True) fun x64 =>
 (A3 (some [(.int .i64 0), (.int .i64 0)]) [(0, 1, x60), (1, 1, (.int .i64 3))]).bind fun x65 =>
 (AF 2 [x65]).bind fun x66 =>
 Cj (BB (AG CO 2 16 x64 x66 H61)) fun x67 H68 =>
 (Ae r_4).bind fun x69 =>
 (Ac 6 x69).bind fun x70 =>
 bK H0 (AL (Al 1 x70 x67 H68)) fun _ H72 =>
 rK H0 (.tup []) H72
theorem leaf_loop {r : List Aa} (h : Lx H p b a r) (ha : a ≤ b.length) (hb : b.length < 1152921504606846976) :
  Ao (fun rec1 vs H1 => Sh.f32 H rec1 (ag vs 0) (ag vs 1) (ag vs 2) (ag vs 3) H1) AI [.ptr p 0 0, .ptr H.length 0 0, .int .i64 0, .int .i64 0] (H ++ [.cel 0 (flat cB (List.replicate 64 false))]) =
   match DX b (b.length + 1 - a) a 0 0 (List.replicate 64 false) with
   | (some e, c, on) => some (.pan (hv e), AJ H p b r c ++ [.cel 0 (flat cB on)])
   | (none, c, on) => PP H (.ptr p 0 0) (.ptr H.length 0 0) (AJ H p b r c ++ [.cel 0 (flat cB on)]) := by
 have key := Br (G := fun rec1 vs H1 => Sh.f32 H rec1 (ag vs 0) (ag vs 1) (ag vs 2) (ag vs 3) H1) (σ := Nat × Nat × Nat × List Bool) (fun s => s.1 ≤ b.length ∧ s.2.1 ≤ 8 ∧ s.2.2.1 ≤ 8 ∧ s.2.2.2.length = 64)
  (fun s => [.ptr p 0 0, .ptr H.length 0 0, .int .i64 (s.2.1 : Int), .int .i64 (s.2.2.1 : Int)]) (fun s => AJ H p b r s.1 ++ [.cel 0 (flat cB s.2.2.2)]) (fun s => b.length - s.1)
  (fun s => match DX b (b.length + 1 - s.1) s.1 s.2.1 s.2.2.1 s.2.2.2 with
   | (some e, c, on) => some (.pan (hv e), AJ H p b r c ++ [.cel 0 (flat cB on)])
   | (none, c, on) => PP H (.ptr p 0 0) (.ptr H.length 0 0) (AJ H p b r c ++ [.cel 0 (flat cB on)])) (fun s rec hi hrec => ?_) (a, 0, 0, List.replicate 64 false) ⟨ha, by simp, by simp, by simp⟩ (by dsimp only; omega)
 ·rw [BC h] at key; exact key
 ·obtain ⟨i, x, y, on⟩ := s
  obtain ⟨h1, h2, h3, h4⟩ := hi
  dsimp only at h1 h2 h3 h4 hrec ⊢
  have hx : Lx (AJ H p b r i ++ [.cel 0 (flat cB on)]) p b i r := Lx.push (C6 h)
  rw [show b.length + 1 - i = (b.length - i) + 1 by omega]
  unfold Sh.f32
  simp only [GMb, GMc, HPa, HPc, HPd, HPe, HPz, Nat.reduceAdd, Nat.reduceLT, Ay, BW hx h1]
  unfold DX
  cases hs : A8 b i [46, 42, 36] with
  | false =>
   unfold PP
   simp only [GMb, GMc, HPa, HPc, HPd, HPe, HPz, Nat.reduceAdd, Nat.reduceLT, Bool.false_eq_true, if_false]
  | true =>
   have hlt := Cr hs
   simp only [GMb, GMc, HPa, HPc, HPd, HPe, HPz, Nat.reduceAdd, Nat.reduceLT, BW hx h1, if_true]
   have hy8 : decide ((y : Int) = 8) = decide (y = 8) := by rw [Bool.eq_iff_iff]; simp only [decide_eq_true_eq]; omega
   have hx8 : decide ((x : Int) = 8) = decide (x = 8) := by rw [Bool.eq_iff_iff]; simp only [decide_eq_true_eq]; omega
   rw [hy8]
   have go : ¬ (y = 8 ∨ (x = 8 ∧ ¬ A8 b i [36] = true)) → Sh.f49 H (fun vs H1 => Sh.f31 H rec (ag vs 0) (ag vs 1) (ag vs 2) (ag vs 3) H1) (.ptr p 0 0) (.ptr H.length 0 0) (.int .i64 (x : Int)) (.int .i64 (y : Int)) (.bool (A8 b i [36])) (AJ H p b r i ++ [.cel 0 (flat cB on)]) =
     match (if A8 b i [36] then DX b (b.length - i) (i + 1) 0 (y + 1) on else DX b (b.length - i) (i + 1) (x + 1) y (on.set (y * 8 + x) (A8 b i [42]))) with
     | (some e, c, on) => some (.pan (hv e), AJ H p b r c ++ [.cel 0 (flat cB on)])
     | (none, c, on) => PP H (.ptr p 0 0) (.ptr H.length 0 0) (AJ H p b r c ++ [.cel 0 (flat cB on)]) := by
    intro hn
    unfold Sh.f49
    cases hd : A8 b i [36] with
    | true =>
     have hyl : y < 8 := by omega
     have := hrec (i + 1, 0, y + 1, on) ⟨hlt, by simp, hyl, h4⟩ (by dsimp only; omega)
     dsimp only at this
     rw [show b.length + 1 - (i + 1) = b.length - i by omega] at this
     simp only [GMb, GMc, HPa, HPc, HPd, HPe, HPz, Nat.reduceAdd, Nat.reduceLT, Av (show y < 9223372036854775807 by omega), if_true]
     unfold Sh.f31
     simp only [GMb, GMc, HPa, HPc, HPd, HPe, HPz, Nat.reduceAdd, Nat.reduceLT, Dv hx, Av (show i < 9223372036854775807 by omega), lx_moveG h]
     exact this
    | false =>
     have hyl : y < 8 := by omega
     have hxl : x < 8 := by
      rcases Nat.lt_or_ge x 8 with h | h
      ·exact h
      ·exact absurd (.inr ⟨by omega, by rw [hd]; decide⟩) hn
     have hi1 := ON (sz := 8) (K := .i64) (id := H.length) (g := 0) (o := 0) hyl
     have hi2 := ON (sz := 1) (K := .i64) (id := H.length) (g := 0) (o := y * 8) hxl
     rw [Nat.zero_add] at hi1
     rw [Nat.mul_one] at hi2
     have hst : ∀ t, Al 1 (.ptr H.length 0 (y * 8 + x)) (.bool t) (AJ H p b r i ++ [.cel 0 (flat cB on)]) = some (AJ H p b r i ++ [.cel 0 (flat cB (on.set (y * 8 + x) t))]) := fun t => by
      rw [← FE H p i b r, FD, KG rfl (by rw [flat_cB, List.length_map]; omega), flat_cB_set]; rfl
     have hx2 : Lx (AJ H p b r i ++ [.cel 0 (flat cB (on.set (y * 8 + x) (A8 b i [42])))]) p b i r := Lx.push (C6 h)
     have := hrec (i + 1, x + 1, y, on.set (y * 8 + x) (A8 b i [42])) ⟨hlt, hxl, h3, by rw [List.length_set]; exact h4⟩ (by dsimp only; omega)
     dsimp only at this
     rw [show b.length + 1 - (i + 1) = b.length - i by omega] at this
     simp only [GMb, GMc, HPa, HPc, HPd, HPe, HPz, Nat.reduceAdd, Nat.reduceLT, BW hx h1, hi1, hi2, hst, Av (show x < 9223372036854775807 by omega), Bool.false_eq_true, if_false]
     unfold Sh.f31
     simp only [GMb, GMc, HPa, HPc, HPd, HPe, HPz, Nat.reduceAdd, Nat.reduceLT, Dv hx2, Av (show i < 9223372036854775807 by omega), lx_moveG h]
     exact this
   by_cases hy : y = 8
   ·simp only [hy, GMb, GMc, HPa, HPc, HPd, HPe, HPz, Nat.reduceAdd, Nat.reduceLT, hx8, DA hx, true_or, if_true]
   ·by_cases hxx : x = 8
    ·cases hd : A8 b i [36] with
     | false =>
      have hx8' : decide ((x : Int) = 8) = true := by rw [hx8, hxx]; rfl
      rw [if_pos (.inr ⟨hxx, by decide⟩)]
      simp only [hy, hx8', GMb, GMc, HPa, HPc, HPd, HPe, HPz, Nat.reduceAdd, Nat.reduceLT, DA hx]
     | true =>
      have := go (by rw [hd]; simp [hy])
      rw [hd] at this
      simp only [hy, hx8, hxx, GMb, GMc, HPa, HPc, HPd, HPe, HPz, Nat.reduceAdd, Nat.reduceLT, false_or, not_true_eq_false, if_false] at this ⊢
      exact this
    ·have := go (by simp [hy, hxx])
     simp only [hy, hx8, hxx, GMb, GMc, HPa, HPc, HPd, HPe, HPz, Nat.reduceAdd, Nat.reduceLT, false_or, false_and, if_false] at this ⊢
     exact this
theorem build_ln (n : Nat) (v : Int) : A3 (some [(.int .i64 0), (.int .i64 0)]) [(0, 1, .int .i64 (n : Int)), (1, 1, .int .i64 v)] = some (.agg (lnC (n, v))) := (rfl)
theorem RP (q : Nat × Int) : AF 2 [.agg (lnC q)] = some (.sl (enL lnC [q]) .tight) := by
 simp [AF, Cc, Aa.acells]; simp [lnC, LS, Bm, enL, Aa.isScal]
theorem Ext.ble {b id : Nat} {H H' : Ab} (h : Ext b id H H') (hb : b ≤ H.length) : b ≤ H'.length := Nat.le_trans hb h.len
theorem rd_line {v w : Aa} (h : RDx b0 p b a bx N st v w H) (q : Nat × Int) (hn : st.lines.length < 3000000000000) :
  ∃ w' H', AG CO 2 16 w (.sl (enL lnC [q]) .tight) H = some (w', H') ∧ Al 1 (.ptr p 0 6) w' H' = some (H'.set p (.cel 0 (.str b :: .int .i64 (a : Int) :: rdR bx N st.law v w'))) ∧
   Ext b0 p H (H'.set p (.cel 0 (.str b :: .int .i64 (a : Int) :: rdR bx N st.law v w'))) ∧ RD b0 p b a bx N { st with lines := st.lines ++ [q] } (H'.set p (.cel 0 (.str b :: .int .i64 (a : Int) :: rdR bx N st.law v w'))) := by
 obtain ⟨w', H', ha, hr, hk, hg⟩ := RS.snoc2 (bytes := 16) h.lines h.ble q .tight (by omega) (by omega)
 have hc' := hk.cel _ _ h.lx
 have hlt' : p < H'.length := (List.getElem?_eq_some_iff.1 hc').1
 have hst := st_cel (o := 6) (v := w') hc' hr.one (by simp [rdR])
 have e2 : Ext b0 p H H' := ⟨hk.len, fun i cs _ hc => hk.cel i cs hc, hk.old⟩
 have e3 : ∀ cs, Ext b0 p H' (H'.set p (.cel 0 cs)) := fun cs => ⟨by simp, fun i c hi hc => by rw [List.getElem?_set_ne (Ne.symm hi)]; exact hc, fun i hi => by rw [List.getElem?_set_ne (by have := h.hb; omega)]⟩
 refine ⟨w', H', ha, hst, e2.trans (e3 _), v, w', h.hb, ?_, (h.nodes.stay hg (RS.apart h.nodes h.lines (by decide))).put hc', hr.put hc'⟩
 unfold Lx; rw [List.getElem?_set_self hlt']
theorem rd_leaf (h : RD b0 p b a bx N st H) (ha : a ≤ b.length) (hb : b.length < 1152921504606846976) (hn : st.nodes.length + 100 < 3000000000000) (hn2 : st.lines.length < 3000000000000) : NN b0 p b bx N H (Sh.f1n (.ptr p 0 0) H) (.tup []) (PQ b a st) := by
 obtain ⟨v, w, h⟩ := h
 have hal : ∀ K : Ab, AD (some [(.bool false), (.bool false), (.bool false), (.bool false), (.bool false), (.bool false), (.bool false), (.bool false), (.bool false), (.bool false), (.bool false), (.bool false), (.bool false), (.bool false), (.bool false), (.bool false), (.bool false), (.bool false), (.bool false), (.bool false), (.bool false), (.bool false), (.bool false), (.bool false), (.bool false), (.bool false), (.bool false), (.bool false), (.bool false), (.bool false), (.bool false), (.bool false), (.bool false), (.bool false), (.bool false), (.bool false), (.bool false), (.bool false), (.bool false), (.bool false), (.bool false), (.bool false), (.bool false), (.bool false), (.bool false), (.bool false), (.bool false), (.bool false), (.bool false), (.bool false), (.bool false), (.bool false), (.bool false), (.bool false), (.bool false), (.bool false), (.bool false), (.bool false), (.bool false), (.bool false), (.bool false), (.bool false), (.bool false), (.bool false)]) K = some (.ptr K.length 0 0, K ++ [.cel 0 (flat cB (List.replicate 64 false))]) := fun K => by
  rw [alloc_eq rfl]; rfl
 unfold Sh.f1n NN PQ
 rw [hal]
 simp only [GMb, GMc]
 rw [leaf_loop h.lx ha hb]
 have hle := GQ b (b.length + 1 - a) a 0 0 (List.replicate 64 false) ha
 generalize DX b (b.length + 1 - a) a 0 0 (List.replicate 64 false) = R at hle
 obtain ⟨er, c, on⟩ := R
 dsimp only at hle ⊢
 obtain ⟨h1, e1⟩ := h.go c [.cel 0 (flat cB on)]
 cases er with
 | some e => exact ⟨_, rfl, e1, _, _, h1⟩
 | none =>
  have hon : OnC H.length on (AJ H p b (rdR bx N st.law v w) c ++ [.cel 0 (flat cB on)]) := by
   unfold OnC
   rw [← FE H p c b (rdR bx N st.law v w)]; exact A9
  have hld1 := Bw (o := 6) (sz := 1) h1.lx
  dsimp only
  generalize AJ H p b (rdR bx N st.law v w) c ++ [.cel 0 (flat cB on)] = H1 at h1 e1 hon hld1 ⊢
  obtain ⟨H2, s1, s2, v2, s3⟩ := rd_square (w := w) (on := on) (q := H.length) (by rw [hle.2.2]; simp) (by have := h.lt; omega) 3 AI 0 0 st H1 (by omega) (by rw [Dj]; decide) (by decide) (by decide) (by decide) (by have : sqM 3 = 21 := rfl; omega) ⟨v, h1⟩ hon
  have hld2 := Bw (o := 6) (sz := 1) s3.lx
  obtain ⟨w3, H3, t1, t2, t3, t4⟩ := rd_line s3 ((sqF (onQ on) 3 0 0 st.nodes).length, 3) hn2
  unfold PP
  rw [show (((3 : Nat) : Int)) = 3 from rfl, show (((0 : Nat) : Int)) = 0 from rfl] at s1
  simp only [GMb, GMc, HPa, HPc, HPd, HPe, HPz, Nat.reduceAdd, Nat.reduceLT, s1, hld1, hld2, rdR, build_ln, RP, t1, t2]
  exact ⟨_, rfl, (e1.trans s2).trans t3, t4⟩

end
end Go.Gm
namespace Go.Gm
theorem ME {b : List UInt8} {i : Nat} (h : A8 b i BM = true) : ∃ hl : i < b.length, 48 ≤ b[i].toNat ∧ b[i].toNat ≤ 57 ∧ Dy b i = b[i].toNat - 48 := by
 have hl := Cr h
 unfold A8 at h
 rw [List.getElem?_eq_getElem hl] at h
 unfold BM at h
 simp only [digs_mem, decide_eq_true_eq] at h
 refine ⟨hl, h.1, h.2, ?_⟩
 unfold Dy
 rw [List.getD_eq_getElem?_getD, List.getElem?_eq_getElem hl]; rfl
theorem digV_le {b : List UInt8} {i : Nat} (h : A8 b i BM = true) : Dy b i ≤ 9 := by
 obtain ⟨hl, h1, h2, h3⟩ := ME h; omega
theorem dig_bin {b : List UInt8} {i : Nat} (h : A8 b i BM = true) (hl : i < b.length) : IntKind.u8.wrap ((b[i].toNat : Int) - 48) = (Dy b i : Int) ∧ IntKind.i64.wrap (Dy b i : Int) = (Dy b i : Int) := by
 obtain ⟨_, h1, h2, h3⟩ := ME h
 rw [h3]
 refine ⟨?_, by rw [Cz (by omega)]⟩
 rw [wrap_u8 (by omega) (by omega)]; omega
theorem OL (b : List UInt8) : ∀ k a n, a ≤ b.length → a ≤ (Ge b k a n).2.1 ∧ (Ge b k a n).2.1 ≤ b.length
 | 0, a, n, h => ⟨Nat.le_refl _, h⟩
 | k + 1, a, n, h => by
  unfold Ge
  cases hs : A8 b a BM with
  | true =>
   simp only [if_true]
   split
   ·exact ⟨Nat.le_refl _, h⟩
   ·have := OL b k (a + 1) (10 * n + Dy b a) (Cr hs); omega
  | false =>
   simp only [Bool.false_eq_true, if_false]
   split <;> exact ⟨Nat.le_refl _, h⟩
theorem levF_ok (b : List UInt8) : ∀ k a n, n ≤ 1329 → a ≤ b.length → b.length < a + k → (Ge b k a n).1 = none → 0 < (Ge b k a n).2.2 ∧ (Ge b k a n).2.2 ≤ 1329
 | 0, a, n, h, ha, hk, _ => by omega
 | k + 1, a, n, h, ha, hk, he => by
  unfold Ge at he ⊢
  cases hs : A8 b a BM with
  | true =>
   rw [hs] at he
   simp only [if_true] at he ⊢
   split
   ·rename_i hgt; rw [if_pos hgt] at he; cases he
   ·rename_i hgt; rw [if_neg hgt] at he
    exact levF_ok b k (a + 1) _ (by omega) (Cr hs) (by omega) he
  | false =>
   rw [hs] at he
   simp only [Bool.false_eq_true, if_false] at he ⊢
   split
   ·rename_i h0; rw [if_pos h0] at he; cases he
   ·rename_i h0; exact ⟨by dsimp only; omega, h⟩
section
variable {b0 p a : Nat} {b : List UInt8} {bx N : Int} {st : MSt} {H : Ab} {r : List Aa}
theorem lx_level (h : Lx H p b a r) (ha : a ≤ b.length) (hb : b.length < 1152921504606846976) :
  Sh.f1o (.ptr p 0 0) H = some (Mg (Cd b a).1 (.int .i64 ((Cd b a).2.2 : Int)), AJ H p b r (Cd b a).2.1) := by
 have hss := BC h
 unfold Sh.f1o Cd
 simp only [GMb, GMc, HPa, HPc, HPd, HPe, HPz, Nat.reduceAdd, Nat.reduceLT, BW h ha]
 cases h0 : A8 b a [48] with
 | true =>
  simp only [GMb, GMc, HPa, HPc, HPd, HPe, HPz, Nat.reduceAdd, Nat.reduceLT, DA h, if_true, Bj, hss]
 | false =>
  simp only [GMb, GMc, HPa, HPc, HPd, HPe, HPz, Nat.reduceAdd, Nat.reduceLT, Bool.false_eq_true, if_false]
  unfold Sh.f4y
  have key := Br (G := fun rec2 vs H1 => Sh.f4a H rec2 (ag vs 0) (ag vs 1) H1) (σ := Nat × Nat) (fun s => s.1 ≤ b.length ∧ s.2 ≤ 1329) (fun s => [.ptr p 0 0, .int .i64 (s.2 : Int)]) (fun s => AJ H p b r s.1) (fun s => b.length - s.1)
   (fun s => some (Mg (Ge b (b.length + 1 - s.1) s.1 s.2).1 (.int .i64 ((Ge b (b.length + 1 - s.1) s.1 s.2).2.2 : Int)), AJ H p b r (Ge b (b.length + 1 - s.1) s.1 s.2).2.1)) (fun s rec hi hrec => ?_) (a, 0) ⟨ha, by simp⟩ (by dsimp only; omega)
  ·rw [hss] at key; exact key
  ·obtain ⟨i, n⟩ := s
   obtain ⟨h1, h2⟩ := hi
   dsimp only at h1 h2 hrec ⊢
   have hx := C6 (a' := i) h
   have hsd := BW hx h1 BM
   unfold BM at hsd
   rw [show b.length + 1 - i = (b.length - i) + 1 by omega]
   have hds : A8 b i [48, 49, 50, 51, 52, 53, 54, 55, 56, 57] = A8 b i BM := rfl
   rw [hds] at hsd
   unfold Sh.f4a
   simp only [GMb, GMc, HPa, HPc, HPd, HPe, HPz, Nat.reduceAdd, Nat.reduceLT, hsd]
   unfold Ge
   cases hs : A8 b i BM with
   | true =>
    obtain ⟨hlt, d1, d2, d3⟩ := ME hs
    obtain ⟨w1, w2⟩ := dig_bin hs hlt
    have hd9 := digV_le hs
    have w3 : IntKind.i64.wrap (10 * (n : Int)) = ((10 * n : Nat) : Int) := by rw [show (10 * (n : Int)) = ((10 * n : Nat) : Int) by omega, Cz (by omega)]
    have w4 : IntKind.i64.wrap (((10 * n : Nat) : Int) + (Dy b i : Int)) = ((10 * n + Dy b i : Nat) : Int) := KE (by omega)
    simp only [GMb, GMc, HPa, HPc, HPd, HPe, HPz, Nat.reduceAdd, Nat.reduceLT, Dv hx, QE hx, Gr hlt, w1, BN, w2, w3, w4, if_true]
    by_cases hgt : 1329 < 10 * n + Dy b i
    ·have hgt' : ((10 * n + Dy b i : Nat) : Int) > 1329 := by omega
     simp only [hgt', GMb, GMc, HPa, HPc, HPd, HPe, HPz, Nat.reduceAdd, Nat.reduceLT, lx_limit, if_pos hgt, Bj]
     rfl
    ·have hgt' : ¬ ((10 * n + Dy b i : Nat) : Int) > 1329 := by omega
     have := hrec (i + 1, 10 * n + Dy b i) ⟨hlt, by dsimp only; omega⟩ (by dsimp only; omega)
     dsimp only at this
     rw [show b.length + 1 - (i + 1) = b.length - i by omega] at this
     unfold Sh.f4x
     simp only [hgt', GMb, GMc, HPa, HPc, HPd, HPe, HPz, Nat.reduceAdd, Nat.reduceLT, if_neg hgt, Dv hx, Av (show i < 9223372036854775807 by omega), EO h]
     exact this
   | false =>
    by_cases hn : n = 0
    ·have hn' : ((0 : Nat) : Int) = 0 := rfl
     simp only [hn, hn', GMb, GMc, HPa, HPc, HPd, HPe, HPz, Nat.reduceAdd, Nat.reduceLT, DA hx, Bool.false_eq_true, if_false, if_true, Bj]
    ·have hn' : ¬ (n : Int) = 0 := by omega
     simp only [hn', hn, GMb, GMc, HPa, HPc, HPd, HPe, HPz, Nat.reduceAdd, Nat.reduceLT, Bool.false_eq_true, if_false, Bv]
theorem rd_may {v w : Aa} (h : RDx b0 p b a bx N st v w H) {level : Int} (h1 : 1 ≤ level) (h2 : level ≤ 1329) (n : Nat) (hn : n < 4000000000000000000) : Sh.fa (.ptr p 0 0) (.int .i64 level) (.int .i64 (n : Int)) H = some (.ret (.bool (Df st.lines level n)), H) := by
 have hld := Bw (o := 6) (sz := 1) h.lx
 have w1 : IntKind.i64.wrap (level - 1) = level - 1 := by rw [A0] <;> omega
 unfold Sh.fa Df
 by_cases hl : level = 1
 ·have : decide ((n : Int) ≤ 255) = decide (n ≤ 255) := by rw [Bool.eq_iff_iff]; simp only [decide_eq_true_eq]; omega
  simp only [hl, GMb, GMc, HPa, HPc, HPd, HPe, HPz, Nat.reduceAdd, Nat.reduceLT, this, if_true]
 ·simp only [hl, GMb, GMc, HPa, HPc, HPd, HPe, HPz, Nat.reduceAdd, Nat.reduceLT, if_false]
  by_cases h0 : n = 0
  ·have h0' : ((0 : Nat) : Int) = 0 := rfl
   simp only [h0, h0', GMb, GMc, HPa, HPc, HPd, HPe, HPz, Nat.reduceAdd, Nat.reduceLT, if_true]
  ·have h0' : ¬ (n : Int) = 0 := by omega
   simp only [h0', h0, GMb, GMc, HPa, HPc, HPd, HPe, HPz, Nat.reduceAdd, Nat.reduceLT, if_false, hld, rdR, h.lines.len]
   by_cases hle : n ≤ st.lines.length
   ·have hle' : (n : Int) ≤ (st.lines.length : Int) := by omega
    have hlt : n - 1 < st.lines.length := by omega
    have w2 : IntKind.i64.wrap ((n : Int) - 1) = ((n - 1 : Nat) : Int) := Dq (by omega) (by omega)
    simp only [hle', GMb, GMc, HPa, HPc, HPd, HPe, HPz, Nat.reduceAdd, Nat.reduceLT, hld, rdR, w1, w2, h.lines.idx hlt, Ai, Au, lnC, List.getElem?_eq_getElem hlt]
   ·have hle' : ¬ (n : Int) ≤ (st.lines.length : Int) := by omega
    simp only [hle', GMb, GMc, HPa, HPc, HPd, HPe, HPz, Nat.reduceAdd, Nat.reduceLT, List.getElem?_eq_none (show st.lines.length ≤ n - 1 by omega)]
theorem Rp (lines : List (Nat × Int)) (level : Int) : Df lines level 0 = true := by
 unfold Df; split <;> simp
theorem PG (lines : List (Nat × Int)) (level : Int) : ∀ (f f' low high : Nat), 1 ≤ low → lines.length + 1 - low ≤ f → lines.length + 1 - low ≤ f' → FH lines level f low high = FH lines level f' low high := by
 intro f
 induction f with
 | zero =>
  intro f' low high h1 h2 h3
  cases f' with
  | zero => rfl
  | succ f' => unfold FH; rw [if_neg (by omega)]
 | succ f ih =>
  intro f' low high h1 h2 h3
  cases f' with
  | zero => unfold FH; rw [if_neg (by omega)]
  | succ f' =>
   unfold FH
   rw [ih f' (low * 10) (high * 10 + 9) (by omega) (by omega) (by omega)]
theorem Rj {v w : Aa} (h : RDx b0 p b a bx N st v w H) {level : Int} (h1 : 1 ≤ level) (h2 : level ≤ 1329) (n : Nat) (hn : n < 40000000000000) (hll : st.lines.length < 3000000000000) :
  Sh.fz (.ptr p 0 0) (.int .i64 level) (.int .i64 (n : Int)) H = some (.ret (.tup [.int .i64 (((EU st.lines level n).getD 0 : Nat) : Int), .bool (EU st.lines level n).isSome]), H) := by
 have hld := Bw (o := 6) (sz := 1) h.lx
 unfold Sh.fz EU
 simp only [GMb, GMc, HPa, HPc, HPd, HPe, HPz, Nat.reduceAdd, Nat.reduceLT, rd_may h h1 h2 n (by omega)]
 cases hm : Df st.lines level n with
 | true => simp only [GMb, GMc, HPa, HPc, HPd, HPe, HPz, Nat.reduceAdd, Nat.reduceLT, rd_may h h1 h2 n (by omega), hm, if_true, Option.getD_some, Option.isSome_some]
 | false =>
  have hn0 : n ≠ 0 := fun e => by rw [e, Rp] at hm; cases hm
  have hn0' : ¬ (n : Int) = 0 := by omega
  have w1 : IntKind.i64.wrap ((n : Int) * 10) = ((n * 10 : Nat) : Int) := by rw [show ((n : Int) * 10) = ((n * 10 : Nat) : Int) by omega, Cz (by omega)]
  have w2 : IntKind.i64.wrap (((n * 10 : Nat) : Int) + 9) = ((n * 10 + 9 : Nat) : Int) := by rw [A0] <;> omega
  simp only [hn0', hn0, GMb, GMc, HPa, HPc, HPd, HPe, HPz, Nat.reduceAdd, Nat.reduceLT, w1, w2, Bool.false_eq_true, if_false]
  have key := Br (G := fun rec1 vs H1 => Sh.f4b H rec1 (ag vs 0) (ag vs 1) (ag vs 2) (ag vs 3) H1) (σ := Nat × Nat) (fun s => 10 ≤ s.1 ∧ s.2 < 2 * s.1 ∧ s.1 ≤ s.2 ∧ s.1 < 400000000000000) (fun s => [.ptr p 0 0, .int .i64 level, .int .i64 (s.1 : Int), .int .i64 (s.2 : Int)]) (fun _ => H) (fun s => st.lines.length + 1 - s.1)
   (fun s => some (.ret (.tup [.int .i64 (((FH st.lines level (st.lines.length + 1 - s.1) s.1 s.2).getD 0 : Nat) : Int), .bool (FH st.lines level (st.lines.length + 1 - s.1) s.1 s.2).isSome]), H)) (fun s rec hi hrec => ?_) (n * 10, n * 10 + 9) ⟨by dsimp only; omega, by dsimp only; omega, by dsimp only; omega, by dsimp only; omega⟩ (by dsimp only; omega)
  ·rw [PG st.lines level (st.lines.length + 1) (st.lines.length + 1 - n * 10) _ _ (by omega) (by omega) (by omega)]
   exact key
  ·obtain ⟨low, high⟩ := s
   obtain ⟨i1, i2, i3, i4⟩ := hi
   dsimp only at i1 i2 i3 i4 hrec ⊢
   unfold Sh.f4b
   simp only [GMb, GMc, HPa, HPc, HPd, HPe, HPz, Nat.reduceAdd, Nat.reduceLT, hld, rdR, h.lines.len]
   by_cases hle : low ≤ st.lines.length
   ·have hle' : (low : Int) ≤ (st.lines.length : Int) := by omega
    rw [show st.lines.length + 1 - low = (st.lines.length - low) + 1 by omega]
    unfold FH
    have w3 : IntKind.i64.wrap ((low : Int) * 10) = ((low * 10 : Nat) : Int) := by rw [show ((low : Int) * 10) = ((low * 10 : Nat) : Int) by omega, Cz (by omega)]
    have w4 : IntKind.i64.wrap ((high : Int) * 10) = ((high * 10 : Nat) : Int) := by rw [show ((high : Int) * 10) = ((high * 10 : Nat) : Int) by omega, Cz (by omega)]
    have w5 : IntKind.i64.wrap (((high * 10 : Nat) : Int) + 9) = ((high * 10 + 9 : Nat) : Int) := by rw [A0] <;> omega
    have hnext := hrec (low * 10, high * 10 + 9) ⟨by dsimp only; omega, by dsimp only; omega, by dsimp only; omega, by dsimp only; omega⟩ (by dsimp only; omega)
    dsimp only at hnext
    have inner := HH (G := fun rec2 vs H1 => Sh.f33 H rec rec2 (ag vs 0) (ag vs 1) (ag vs 2) (ag vs 3) (ag vs 4) H1) (min high st.lines.length + 1 - low) (fun i => Df st.lines level (low + i)) (fun i => [.ptr p 0 0, .int .i64 level, .int .i64 (low : Int), .int .i64 (high : Int), .int .i64 ((low + i : Nat) : Int)]) H
     (rec [.ptr p 0 0, .int .i64 level, .int .i64 ((low * 10 : Nat) : Int), .int .i64 ((high * 10 + 9 : Nat) : Int)] H) (fun i => some (.ret (.tup [.int .i64 ((low + i : Nat) : Int), .bool true]), H)) (by omega) (fun rec2 i hi => ?_) (fun rec2 => ?_)
    ·simp only [hle', GMb, GMc, HPa, HPc, HPd, HPe, HPz, Nat.reduceAdd, Nat.reduceLT, if_pos hle]
     rw [Nat.add_zero] at inner
     rw [inner]
     cases (List.range (min high st.lines.length + 1 - low)).find? (fun i => Df st.lines level (low + i)) with
     | some i => simp only [Option.getD_some, Option.isSome_some]
     | none =>
      simp only
      rw [hnext, PG st.lines level (st.lines.length + 1 - low * 10) (st.lines.length - low) _ _ (by omega) (by omega) (by omega)]
    ·have c1 : ((low + i : Nat) : Int) ≤ (high : Int) := by omega
     have c2 : ((low + i : Nat) : Int) ≤ (st.lines.length : Int) := by omega
     unfold Sh.f33
     simp only [GMb, GMc, HPa, HPc, HPd, HPe, HPz, Nat.reduceAdd, Nat.reduceLT, c1, c2, hld, rdR, h.lines.len, rd_may h h1 h2 (low + i) (by omega)]
     cases hmm : Df st.lines level (low + i) with
     | true => simp only [GMb, GMc, HPa, HPc, HPd, HPe, HPz, Nat.reduceAdd, Nat.reduceLT, if_true]
     | false => simp only [GMb, GMc, HPa, HPc, HPd, HPe, HPz, Nat.reduceAdd, Nat.reduceLT, Bool.false_eq_true, if_false, Av (show low + i < 9223372036854775807 by omega)]; rfl
    ·unfold Sh.f33
     have hN : low + (min high st.lines.length + 1 - low) = min high st.lines.length + 1 := by omega
     rw [hN]
     by_cases hc : high ≤ st.lines.length
     ·have c1 : ¬ ((min high st.lines.length + 1 : Nat) : Int) ≤ (high : Int) := by omega
      simp only [GMb, GMc, HPa, HPc, HPd, HPe, HPz, Nat.reduceAdd, Nat.reduceLT, c1, w3, w4, w5]
     ·have c1 : ((min high st.lines.length + 1 : Nat) : Int) ≤ (high : Int) := by omega
      have c2 : ¬ ((min high st.lines.length + 1 : Nat) : Int) ≤ (st.lines.length : Int) := by omega
      simp only [GMb, GMc, HPa, HPc, HPd, HPe, HPz, Nat.reduceAdd, Nat.reduceLT, c1, c2, hld, rdR, h.lines.len, w3, w4, w5]
   ·have hle' : ¬ (low : Int) ≤ (st.lines.length : Int) := by omega
    rw [show st.lines.length + 1 - low = 0 by omega]
    unfold FH
    simp only [hle', GMb, GMc, HPa, HPc, HPd, HPe, HPz, Nat.reduceAdd, Nat.reduceLT, Option.getD_none, Option.isSome_none]
    rfl

end
end Go.Gm
namespace Go.Gm
theorem decN_mono : ∀ (m n : Nat), m ≤ n → (AT m).length ≤ (AT n).length := by
 intro m
 induction m using Nat.strongRecOn with
 | _ m ih =>
  intro n h
  by_cases hm : m < 10
  ·rw [Dm hm]
   unfold AT
   split <;> simp
  ·rw [Dn hm, Dn (n := n) (by omega), List.length_append, List.length_append]
   have := ih (m / 10) (by omega) (n / 10) (by omega)
   simp only [List.length_singleton]; omega
theorem longF_ge (lines : List (Nat × Int)) (level : Int) : ∀ (f low high k : Nat), 1 ≤ low → FH lines level f low high = some k → low ≤ k ∧ k ≤ lines.length := by
 intro f
 induction f with
 | zero => intro low high k _ h; cases h
 | succ f ih =>
  intro low high k h1 h
  unfold FH at h
  by_cases hl : low ≤ lines.length
  ·rw [if_pos hl] at h
   split at h
   ·rename_i i hf
    injection h with h
    have := List.mem_of_find?_eq_some hf
    rw [List.mem_range] at this
    omega
   ·have := ih _ _ _ (by omega) h; omega
  ·rw [if_neg hl] at h; cases h
theorem longS_ge {lines : List (Nat × Int)} {level : Int} {n k : Nat} (h : EU lines level n = some k) : n ≤ k := by
 unfold EU at h
 split at h
 ·injection h with h; omega
 ·split at h
  ·cases h
  ·have := longF_ge _ _ _ _ _ _ (by omega) h; omega
theorem mayB_le {lines : List (Nat × Int)} {level : Int} {n : Nat} (h : Df lines level n = true) : n ≤ max 255 lines.length := by
 unfold Df at h
 split at h
 ·simp only [decide_eq_true_eq] at h; omega
 ·split at h
  ·omega
  ·split at h
   ·rename_i hq
    have := (List.getElem?_eq_some_iff.1 hq).1; omega
   ·cases h
theorem longS_le {lines : List (Nat × Int)} {level : Int} {n k : Nat} (h : EU lines level n = some k) : k ≤ max 255 lines.length := by
 unfold EU at h
 split at h
 ·rename_i hm; injection h with h; rw [← h]; exact mayB_le hm
 ·split at h
  ·cases h
  ·have := longF_ge _ _ _ _ _ _ (by omega) h; omega
theorem kidF_le (b : List UInt8) (lines : List (Nat × Int)) (level : Int) (f : Nat) (rest : List UInt8) : ∀ k a n, a ≤ b.length → a ≤ (GR b lines level f rest k a n).2.1 ∧ (GR b lines level f rest k a n).2.1 ≤ b.length
 | 0, a, n, h => ⟨Nat.le_refl _, h⟩
 | k + 1, a, n, h => by
  unfold GR
  cases hs : A8 b a BM with
  | true =>
   simp only [if_true]
   split
   ·exact ⟨Nat.le_refl _, h⟩
   ·split
    ·have := kidF_le b lines level f rest k (a + 1) (10 * n + Dy b a) (Cr hs); omega
    ·exact ⟨Nat.le_refl _, h⟩
  | false =>
   simp only [Bool.false_eq_true, if_false]
   split
   ·exact ⟨Nat.le_refl _, h⟩
   ·split <;> exact ⟨Nat.le_refl _, h⟩
section
variable {b0 p a : Nat} {b : List UInt8} {bx N : Int} {st : MSt} {H : Ab}
theorem rd_tell {v w : Aa} (h : RDx b0 p b a bx N st v w H) {level : Int} (h1 : 1 ≤ level) (n : Nat) (hm : Df st.lines level n = true) (hn : n < 4000000000000000000) : Sh.f34 H (.ptr p 0 0) (.int .i64 level) (.int .i64 (n : Int)) H = some (.ret (.int .i64 (Db st.lines level n : Int)), H) := by
 have hld := Bw (o := 6) (sz := 1) h.lx
 unfold Sh.f34 Db
 by_cases hl : 1 < level
 ·have hl' : level > 1 := hl
  by_cases h0 : 0 < n
  ·have h0' : (n : Int) > 0 := by omega
   have hlt : n - 1 < st.lines.length := by
    unfold Df at hm
    rw [if_neg (by omega), if_neg (by omega)] at hm
    split at hm
    ·rename_i hq; exact (List.getElem?_eq_some_iff.1 hq).1
    ·cases hm
   have w2 : IntKind.i64.wrap ((n : Int) - 1) = ((n - 1 : Nat) : Int) := Dq (by omega) (by omega)
   simp only [hl', h0', GMb, GMc, HPa, HPc, HPd, HPe, HPz, Nat.reduceAdd, Nat.reduceLT, hld, rdR, w2, h.lines.idx hlt, Ai, Au, lnC, hl, h0, if_true, List.getElem?_eq_getElem hlt, Option.getD_some]
  ·have h0' : ¬ (n : Int) > 0 := by omega
   simp only [hl', h0', GMb, GMc, HPa, HPc, HPd, HPe, HPz, Nat.reduceAdd, Nat.reduceLT, h0, and_false, if_false]
 ·have hl' : ¬ level > 1 := hl
  simp only [hl', GMb, GMc, HPa, HPc, HPd, HPe, HPz, Nat.reduceAdd, Nat.reduceLT, hl, false_and, if_false]
theorem rd_kid {v w : Aa} (h : RDx b0 p b a bx N st v w H) (ha : a ≤ b.length) (hb : b.length < 1152921504606846976) {level : Int} (h1 : 1 ≤ level) (h2 : level ≤ 1329) (hll : st.lines.length < 3000000000000) (rest : List UInt8) (hr : rest.length ≤ 1000000) :
  ∃ x, Sh.f1p (.ptr p 0 0) (.int .i64 level) (.str rest) H = some (Mg (Mz b a st.lines level rest).1 (.int .i64 x), AJ H p b (rdR bx N st.law v w) (Mz b a st.lines level rest).2.1) ∧ ((Mz b a st.lines level rest).1 = none → x = ((Mz b a st.lines level rest).2.2 : Int)) := by
 have hss := BC h.lx
 have key := Br (G := fun rec1 vs H1 => Sh.f4e H rec1 (ag vs 0) (ag vs 1) (ag vs 2) (ag vs 3) (ag vs 4) H1) (σ := Nat × Nat) (fun s => a ≤ s.1 ∧ s.1 ≤ b.length ∧ s.2 ≤ max 255 st.lines.length ∧ (a < s.1 → (AT s.2).length = s.1 - a ∧ (EU st.lines level s.2).isSome = true) ∧ (s.1 = a → s.2 = 0))
  (fun s => [.ptr p 0 0, .int .i64 level, .str rest, .int .i64 (s.2 : Int), .int .i64 (a : Int)]) (fun s => AJ H p b (rdR bx N st.law v w) s.1) (fun s => b.length - s.1)
  (fun s => some (Mg (GR b st.lines level a rest (b.length + 1 - s.1) s.1 s.2).1 (.int .i64 (Db st.lines level (GR b st.lines level a rest (b.length + 1 - s.1) s.1 s.2).2.2 : Int)), AJ H p b (rdR bx N st.law v w) (GR b st.lines level a rest (b.length + 1 - s.1) s.1 s.2).2.1)) (fun s rec hi hrec => ?_) (a, 0) ⟨Nat.le_refl _, ha, Nat.zero_le _, fun h => absurd h (by simp), fun _ => rfl⟩ (by dsimp only; omega)
 ·rw [hss] at key
  refine ⟨_, ?_, fun _ => rfl⟩
  unfold Sh.f1p Mz
  simp only [GMb, GMc, HPa, HPc, HPd, HPe, HPz, Nat.reduceAdd, Nat.reduceLT, Dv h.lx]
  exact key
 ·obtain ⟨i, n⟩ := s
  obtain ⟨i0, i1, i2, i3, i4⟩ := hi
  dsimp only at i0 i1 i2 i3 i4 hrec ⊢
  have hR := h.move i
  have hx := hR.lx
  have hsd := BW hx i1 BM
  have hds : A8 b i [48, 49, 50, 51, 52, 53, 54, 55, 56, 57] = A8 b i BM := rfl
  unfold BM at hsd
  rw [hds] at hsd
  rw [show b.length + 1 - i = (b.length - i) + 1 by omega]
  unfold Sh.f4e
  simp only [GMb, GMc, HPa, HPc, HPd, HPe, HPz, Nat.reduceAdd, Nat.reduceLT, Ay, hsd]
  unfold GR
  cases hs : A8 b i BM with
  | true =>
   obtain ⟨hlt, d1, d2, d3⟩ := ME hs
   obtain ⟨w1, w2⟩ := dig_bin hs hlt
   have hd9 := digV_le hs
   have go : ¬ (a < i ∧ n = 0) → Sh.f4d H (fun vs H1 => Sh.f4c H rec (ag vs 0) (ag vs 1) (ag vs 2) (ag vs 3) (ag vs 4) H1) (.ptr p 0 0) (.int .i64 level) (.str rest) (.int .i64 (n : Int)) (.int .i64 (a : Int)) (AJ H p b (rdR bx N st.law v w) i) =
     some (Mg (if (EU st.lines level (10 * n + Dy b i)).isSome then GR b st.lines level a rest (b.length - i) (i + 1) (10 * n + Dy b i) else (some (FB b i []), i, n)).1 (.int .i64 (Db st.lines level (if (EU st.lines level (10 * n + Dy b i)).isSome then GR b st.lines level a rest (b.length - i) (i + 1) (10 * n + Dy b i) else (some (FB b i []), i, n)).2.2 : Int)), AJ H p b (rdR bx N st.law v w) (if (EU st.lines level (10 * n + Dy b i)).isSome then GR b st.lines level a rest (b.length - i) (i + 1) (10 * n + Dy b i) else (some (FB b i []), i, n)).2.1) := by
    intro hn
    have w3 : IntKind.i64.wrap (10 * (n : Int)) = ((10 * n : Nat) : Int) := by rw [show (10 * (n : Int)) = ((10 * n : Nat) : Int) by omega, Cz (by omega)]
    have w4 : IntKind.i64.wrap (((10 * n : Nat) : Int) + (Dy b i : Int)) = ((10 * n + Dy b i : Nat) : Int) := KE (by omega)
    unfold Sh.f4d
    simp only [GMb, GMc, HPa, HPc, HPd, HPe, HPz, Nat.reduceAdd, Nat.reduceLT, Dv hx, QE hx, Gr hlt, w1, BN, w2, w3, w4, Rj hR h1 h2 (10 * n + Dy b i) (by omega) hll]
    cases hl : EU st.lines level (10 * n + Dy b i) with
    | none =>
     simp only [GMb, GMc, HPa, HPc, HPd, HPe, HPz, Nat.reduceAdd, Nat.reduceLT, Option.isSome_none, DA hx, Bool.false_eq_true, if_false, Bj]
    | some k =>
     have hk1 := longS_ge hl
     have hk2 := longS_le hl
     have hlen : (AT (10 * n + Dy b i)).length = i + 1 - a := by
      by_cases hai : a < i
      ·have hn0 : n ≠ 0 := fun e => hn ⟨hai, e⟩
       rw [Dn (by omega), List.length_append, show (10 * n + Dy b i) / 10 = n by omega, (i3 hai).1, List.length_singleton]; omega
      ·have hia : i = a := by omega
       rw [i4 hia, Dm (by omega), List.length_singleton]; omega
     have := hrec (i + 1, 10 * n + Dy b i) ⟨by dsimp only; omega, hlt, by dsimp only; omega, fun _ => ⟨hlen, by rw [hl]; rfl⟩, fun e => by dsimp only at e; omega⟩ (by dsimp only; omega)
     dsimp only at this
     rw [show b.length + 1 - (i + 1) = b.length - i by omega] at this
     unfold Sh.f4c
     simp only [GMb, GMc, HPa, HPc, HPd, HPe, HPz, Nat.reduceAdd, Nat.reduceLT, Option.isSome_some, if_true, Dv hx, Av (show i < 9223372036854775807 by omega), EO h.lx]
     exact this
   simp only [GMb, GMc, HPa, HPc, HPd, HPe, HPz, Nat.reduceAdd, Nat.reduceLT, Dv hx, if_true]
   by_cases hai : a < i
   ·have hai' : (i : Int) > (a : Int) := by omega
    simp only [hai', GMb, GMc, HPa, HPc, HPd, HPe, HPz, Nat.reduceAdd, Nat.reduceLT]
    by_cases hn : n = 0
    ·have hn' : ((0 : Nat) : Int) = 0 := rfl
     simp only [hn, hn', GMb, GMc, HPa, HPc, HPd, HPe, HPz, Nat.reduceAdd, Nat.reduceLT, hai, if_true, DA hx, Bj]
    ·have hn' : ¬ (n : Int) = 0 := by omega
     simp only [hn', hn, GMb, GMc, HPa, HPc, HPd, HPe, HPz, Nat.reduceAdd, Nat.reduceLT, and_false, if_false]
     exact go (fun hc => hn hc.2)
   ·have hai' : ¬ (i : Int) > (a : Int) := by omega
    simp only [hai', GMb, GMc, HPa, HPc, HPd, HPe, HPz, Nat.reduceAdd, Nat.reduceLT, hai, false_and, if_false]
    exact go (fun hc => hai hc.1)
  | false =>
   simp only [GMb, GMc, HPa, HPc, HPd, HPe, HPz, Nat.reduceAdd, Nat.reduceLT, Dv hx, Bool.false_eq_true, if_false]
   by_cases hia : i = a
   ·have hia' : (i : Int) = (a : Int) := by omega
    have hcat : Af .none .add (.str [48]) (.str rest) = some (.str (48 :: rest)) := AV (by simp only [List.length_cons, List.length_nil]; omega)
    rw [if_pos hia]
    simp only [hia', GMb, GMc, HPa, HPc, HPd, HPe, HPz, Nat.reduceAdd, Nat.reduceLT, hcat, DA hx, Bj]
   ·have hia' : ¬ (i : Int) = (a : Int) := by omega
    obtain ⟨k1, k2⟩ := i3 (by omega)
    rw [if_neg hia]
    unfold Sh.f4z
    simp only [hia', GMb, GMc, HPa, HPc, HPd, HPe, HPz, Nat.reduceAdd, Nat.reduceLT, rd_may hR h1 h2 n (by omega)]
    cases hm : Df st.lines level n with
    | true =>
     simp only [GMb, GMc, HPa, HPc, HPd, HPe, HPz, Nat.reduceAdd, Nat.reduceLT, if_true, Bv]
     have := rd_tell hR h1 n hm (by omega)
     unfold Sh.f34 at this ⊢
     exact this
    | false =>
     simp only [GMb, GMc, HPa, HPc, HPd, HPe, HPz, Nat.reduceAdd, Nat.reduceLT, Bool.false_eq_true, if_false, Rj hR h1 h2 n (by omega) hll]
     obtain ⟨k, hk⟩ := Option.isSome_iff_exists.1 k2
     have hge := longS_ge hk
     have hle := longS_le hk
     have hit : Sh.f16 (.int .i64 (k : Int)) (AJ H p b (rdR bx N st.law v w) i) = some (.ret (.str (AT k)), AJ H p b (rdR bx N st.law v w) i) := by
      unfold Sh.f16
      simp only
      rw [if_pos ⟨by omega, by omega⟩, Lib.itoa, if_neg (by omega), Int.toNat_natCast, decN_lib]
     have hmono := decN_mono n k hge
     have hw : IntKind.i64.wrap ((i : Int) - (a : Int)) = ((i - a : Nat) : Int) := by rw [A0] <;> omega
     have hklen := decN_len k
     have hcat : Af .none .add (.str ((AT k).drop (i - a))) (.str rest) = some (.str ((AT k).drop (i - a) ++ rest)) := AV (by rw [List.length_drop]; omega)
     simp only [hk, Option.getD_some, hit, GMb, GMc, HPa, HPc, HPd, HPe, HPz, Nat.reduceAdd, Nat.reduceLT, Dv hx, hw, Dc (show i - a ≤ (AT k).length by omega), hcat, DA hx, Bj]

end
end Go.Gm
namespace Go.Gm
end Go.Gm
namespace Go.Gm
end Go.Gm
namespace Go.Gm
theorem KJ {r : Nat} (h : r < 10) : (UInt8.ofNat (48 + r)).toNat = 48 + r := UInt8.toNat_ofNat_of_lt' (show 48 + r < 256 by omega)
theorem RF (n : Nat) : Fm (AT n) = n := by
 induction n using Nat.strongRecOn with
 | ind n ih =>
  by_cases hn : n < 10
  ·rw [Dm hn]
   have := KZ [] (UInt8.ofNat (48 + n))
   rw [List.nil_append, KJ hn, show Fm [] = 0 from rfl] at this
   rw [this]; omega
  ·rw [Dn hn, KZ, ih (n / 10) (by omega), KJ (Nat.mod_lt _ (by omega))]
   omega
theorem decN_dig (n : Nat) : ∀ c ∈ AT n, Fq c = true := by
 induction n using Nat.strongRecOn with
 | ind n ih =>
  intro c hc
  by_cases hn : n < 10
  ·rw [Dm hn, List.mem_singleton] at hc
   rw [hc, F7, KJ hn]; omega
  ·rw [Dn hn] at hc
   rcases List.mem_append.1 hc with h | h
   ·exact ih (n / 10) (by omega) c h
   ·have := Nat.mod_lt n (show 10 > 0 by omega)
    rw [List.mem_singleton.1 h, F7, KJ this]; omega
end Go.Gm
namespace Go.Gm
theorem decN_inj {m n : Nat} (h : AT m = AT n) : m = n := by
 have := congrArg Fm h
 rwa [RF, RF] at this
theorem dec_pre {m : Nat} (hm : m ≠ 0) : ∀ (k : Nat), (∃ s, AT k = AT m ++ s) ↔ ∃ j, k / 10 ^ j = m := by
 intro k
 constructor
 ·intro h
  induction k using Nat.strongRecOn with
  | _ k ih =>
   obtain ⟨s, h⟩ := h
   rcases List.eq_nil_or_concat s with hs | ⟨s', c, hs⟩
   ·rw [hs, List.append_nil] at h; exact ⟨0, by simp [decN_inj h]⟩
   ·rw [List.concat_eq_append] at hs
    subst hs
    by_cases hk : k < 10
    ·rw [Dm hk] at h
     have := congrArg List.length h
     have := Qo m
     simp only [List.length_append, List.length_singleton] at *; omega
    ·rw [Dn hk, ← List.append_assoc] at h
     obtain ⟨h1, _⟩ := List.append_inj' h rfl
     obtain ⟨j, hj⟩ := ih (k / 10) (by omega) ⟨s', h1⟩
     exact ⟨j + 1, by rw [Nat.pow_succ, Nat.mul_comm, ← Nat.div_div_eq_div_mul]; exact hj⟩
 ·rintro ⟨j, h⟩
  have hp : 0 < 10 ^ j := Nat.pow_pos (by decide)
  have e : k = m * 10 ^ j + k % 10 ^ j := by rw [← h, Nat.mul_comm]; exact (Nat.div_add_mod k (10 ^ j)).symm
  have hj := RG (q := m) (by omega) j (k % 10 ^ j) (Nat.mod_lt _ hp)
  rw [← e] at hj
  exact ⟨_, hj⟩
theorem longF_iff (lines : List (Nat × Int)) (level : Int) : ∀ (f j m : Nat), m ≠ 0 → lines.length + 1 - m * 10 ^ j ≤ f → ((FH lines level f (m * 10 ^ j) (m * 10 ^ j + 10 ^ j - 1)).isSome = true ↔ ∃ k j', j ≤ j' ∧ k / 10 ^ j' = m ∧ k ≤ lines.length ∧ Df lines level k = true) := by
 intro f
 induction f with
 | zero =>
  intro j m hm hf
  constructor
  ·intro h; cases h
  ·rintro ⟨k, j', h1, h2, h3, h4⟩
   have hp : 10 ^ j ≤ 10 ^ j' := Nat.pow_le_pow_right (by decide) h1
   have : m * 10 ^ j' ≤ k := by rw [← h2]; exact Nat.div_mul_le_self k _
   have : m * 10 ^ j ≤ m * 10 ^ j' := Nat.mul_le_mul_left _ hp
   omega
 | succ f ih =>
  intro j m hm hf
  have hp : 0 < 10 ^ j := Nat.pow_pos (by decide)
  have hmp : 1 ≤ m * 10 ^ j := Nat.mul_pos (by omega) hp
  have e1 : m * 10 ^ j * 10 = m * 10 ^ (j + 1) := by rw [Nat.pow_succ, Nat.mul_assoc]
  have e2 : (m * 10 ^ j + 10 ^ j - 1) * 10 + 9 = m * 10 ^ (j + 1) + 10 ^ (j + 1) - 1 := by rw [← e1, Nat.pow_succ]; omega
  unfold FH
  by_cases hl : m * 10 ^ j ≤ lines.length
  ·rw [if_pos hl]
   cases hfd : (List.range (min (m * 10 ^ j + 10 ^ j - 1) lines.length + 1 - m * 10 ^ j)).find? (fun i => Df lines level (m * 10 ^ j + i)) with
   | some i =>
    have hmem := List.mem_of_find?_eq_some hfd
    have hmay := List.find?_some hfd
    rw [List.mem_range] at hmem
    simp only [Option.isSome_some, true_iff]
    refine ⟨m * 10 ^ j + i, j, Nat.le_refl _, ?_, by omega, hmay⟩
    have : i < 10 ^ j := by omega
    rw [Nat.mul_comm, Nat.mul_add_div hp, Nat.div_eq_of_lt this, Nat.add_zero]
   | none =>
    simp only
    rw [e1, e2, ih (j + 1) m hm (by rw [← e1]; omega)]
    constructor
    ·rintro ⟨k, j', h1, h2, h3, h4⟩; exact ⟨k, j', by omega, h2, h3, h4⟩
    ·rintro ⟨k, j', h1, h2, h3, h4⟩
     by_cases hj : j = j'
     ·exfalso
      subst hj
      have hk : k = m * 10 ^ j + k % 10 ^ j := by rw [← h2, Nat.mul_comm]; exact (Nat.div_add_mod k (10 ^ j)).symm
      have hr : k % 10 ^ j < 10 ^ j := Nat.mod_lt _ hp
      have := List.find?_eq_none.1 hfd (k % 10 ^ j) (by rw [List.mem_range]; omega)
      rw [← hk] at this
      exact this h4
     ·exact ⟨k, j', by omega, h2, h3, h4⟩
  ·rw [if_neg hl]
   constructor
   ·intro h; cases h
   ·rintro ⟨k, j', h1, h2, h3, h4⟩
    have hpp : 10 ^ j ≤ 10 ^ j' := Nat.pow_le_pow_right (by decide) h1
    have : m * 10 ^ j' ≤ k := by rw [← h2]; exact Nat.div_mul_le_self k _
    have : m * 10 ^ j ≤ m * 10 ^ j' := Nat.mul_le_mul_left _ hpp
    omega
theorem mayB_le2 {lines : List (Nat × Int)} {level : Int} {n : Nat} (hl : level ≠ 1) (h : Df lines level n = true) : n ≤ lines.length := by
 unfold Df at h
 rw [if_neg hl] at h
 split at h
 ·omega
 ·split at h
  ·rename_i hq
   have := (List.getElem?_eq_some_iff.1 hq).1; omega
  ·cases h
theorem longS_iff (lines : List (Nat × Int)) (level : Int) (m : Nat) : (EU lines level m).isSome = true ↔ ∃ k s, AT k = AT m ++ s ∧ Df lines level k = true := by
 unfold EU
 by_cases hm : Df lines level m = true
 ·rw [if_pos hm]
  exact ⟨fun _ => ⟨m, [], by simp, hm⟩, fun _ => rfl⟩
 ·have hm0 : m ≠ 0 := fun e => hm (by rw [e]; exact Rp _ _)
  rw [if_neg hm, if_neg hm0]
  have key := longF_iff lines level (lines.length + 1) 1 m hm0 (by omega)
  rw [Nat.pow_one, show m * 10 + 10 - 1 = m * 10 + 9 by omega] at key
  rw [key]
  constructor
  ·rintro ⟨k, j, h1, h2, h3, h4⟩
   obtain ⟨s, hs⟩ := (dec_pre hm0 k).2 ⟨j, h2⟩
   exact ⟨k, s, hs, h4⟩
  ·rintro ⟨k, s, hs, h4⟩
   obtain ⟨j, hj⟩ := (dec_pre hm0 k).1 ⟨s, hs⟩
   by_cases hj0 : j = 0
   ·exfalso; apply hm; rw [hj0, Nat.pow_zero, Nat.div_one] at hj; rw [← hj]; exact h4
   ·by_cases hl : level = 1
    ·exfalso
     have hk : k ≤ 255 := by unfold Df at h4; rw [if_pos hl] at h4; exact of_decide_eq_true h4
     apply hm
     unfold Df
     rw [if_pos hl, decide_eq_true_eq]
     have : m ≤ k := by rw [← hj]; exact Nat.div_le_self _ _
     omega
    ·exact ⟨k, j, by omega, hj, mayB_le2 hl h4, h4⟩
end Go.Gm
namespace Go.Gm
def F3 (er : Er) : Prop := ∀ e, er = some e → 0 < e.1 ∧ e.1 ≤ 4
theorem F3.none : F3 none := fun e h => by cases h
theorem F3.stp (b : List UInt8) (a : Nat) (s : List UInt8) : F3 (some (FB b a s)) := fun e h => by
 injection h with h; subst h; unfold FB; split <;> simp
theorem F3.lim : F3 (some (4, [])) := fun e h => by injection h with h; subst h; simp
theorem Ms (b : List UInt8) (a : Nat) (s rest : List UInt8) : F3 (B3 b a s rest).1 := by
 unfold B3; split
 ·exact .stp _ _ _
 ·exact .none
theorem endS_er (b : List UInt8) (a : Nat) (rest : List UInt8) : F3 (G4 b a rest).1 := by
 unfold G4; split
 ·exact .none
 ·split
  ·exact .none
  ·exact .stp _ _ _
theorem rulS_er (b : List UInt8) (f : Nat) (rest : List UInt8) : F3 (O4 b f rest).1 := by
 unfold O4; split
 ·exact .stp _ _ _
 ·exact .none
theorem numS_er (b : List UInt8) (f : Nat) (rest : List UInt8) : ∀ n a, F3 (Km b f rest n a).1
 | 0, a => .none
 | n + 1, a => by
  unfold Km
  split
  ·split
   ·exact .stp _ _ _
   ·split
    ·exact .lim
    ·exact numS_er b f rest n (a + 1)
  ·split
   ·exact .stp _ _ _
   ·exact .none
theorem intS_er (b : List UInt8) (a : Nat) (neg : Bool) (rest : List UInt8) : F3 (FI b a neg rest).1 := by
 unfold FI; split
 ·exact .stp _ _ _
 ·exact numS_er _ _ _ _ _
theorem markS_er (b : List UInt8) (a : Nat) (st : MSt) : F3 (Mw b a st).1.1 := by
 unfold Mw
 split
 ·exact .none
 ·split
  ·have := Ms b (a + 1) [71, 32] [49]
   generalize B3 b (a + 1) [71, 32] [49] = M at this
   obtain ⟨er, c⟩ := M
   cases er with
   | some e => exact this
   | none => exact intS_er _ _ _ _
  ·split
   ·have := Ms b (a + 1) [82, 32] [97]
    generalize B3 b (a + 1) [82, 32] [97] = M at this
    obtain ⟨er, c⟩ := M
    cases er with
    | some e => exact this
    | none =>
     have := rulS_er b c []
     dsimp only
     generalize O4 b c [] = M at this
     obtain ⟨er, d⟩ := M
     cases er with
     | some e => exact this
     | none => exact .none
   ·exact .stp _ _ _
theorem PR (b : List UInt8) : ∀ n a x y on, F3 (DX b n a x y on).1
 | 0, a, x, y, on => .none
 | n + 1, a, x, y, on => by
  unfold DX
  split
  ·split
   ·exact .stp _ _ _
   ·split
    ·exact PR b n _ _ _ _
    ·exact PR b n _ _ _ _
  ·exact .none
theorem leafS_er (b : List UInt8) (a : Nat) (st : MSt) : F3 (PQ b a st).1.1 := by
 unfold PQ
 have := PR b (b.length + 1 - a) a 0 0 (List.replicate 64 false)
 generalize DX b (b.length + 1 - a) a 0 0 (List.replicate 64 false) = M at this
 obtain ⟨er, c, on⟩ := M
 cases er with
 | some e => exact this
 | none => exact .none
theorem levF_er (b : List UInt8) : ∀ k a n, F3 (Ge b k a n).1
 | 0, a, n => .none
 | k + 1, a, n => by
  unfold Ge
  split
  ·split
   ·exact .lim
   ·exact levF_er b k _ _
  ·split
   ·exact .stp _ _ _
   ·exact .none
theorem levelS_er (b : List UInt8) (a : Nat) : F3 (Cd b a).1 := by
 unfold Cd; split
 ·exact .stp _ _ _
 ·exact levF_er _ _ _ _
theorem kidF_er (b : List UInt8) (lines : List (Nat × Int)) (level : Int) (f : Nat) (rest : List UInt8) : ∀ k a n, F3 (GR b lines level f rest k a n).1
 | 0, a, n => .none
 | k + 1, a, n => by
  unfold GR
  split
  ·split
   ·exact .stp _ _ _
   ·split
    ·exact kidF_er b lines level f rest k _ _
    ·exact .stp _ _ _
  ·split
   ·exact .stp _ _ _
   ·split
    ·exact .none
    ·exact .stp _ _ _
theorem kidS_er (b : List UInt8) (a : Nat) (lines : List (Nat × Int)) (level : Int) (rest : List UInt8) : F3 (Mz b a lines level rest).1 := kidF_er _ _ _ _ _ _ _ _
theorem kidsF_er (b : List UInt8) (lines : List (Nat × Int)) (level : Int) : ∀ d k a x rest, F3 (Ei b lines level d k a x rest).1
 | 0, k, a, x, rest => .none
 | d + 1, k, a, x, rest => by
  unfold Ei
  have := Ms b a [32] (48 :: rest)
  generalize B3 b a [32] (48 :: rest) = M at this
  obtain ⟨er, c⟩ := M
  cases er with
  | some e => exact this
  | none =>
   dsimp only
   have := kidS_er b c lines level rest
   generalize Mz b c lines level rest = M at this
   obtain ⟨er, c', n⟩ := M
   cases er with
   | some e => exact this
   | none => exact kidsF_er b lines level d _ _ _ _
theorem nodeS_er (b : List UInt8) (a : Nat) (st : MSt) : F3 (Mp b a st).1.1 := by
 unfold Mp
 have := levelS_er b a
 generalize Cd b a = M at this
 obtain ⟨er, c, v⟩ := M
 cases er with
 | some e => exact this
 | none =>
  dsimp only
  have := kidsF_er b st.lines v 4 0 c ⟨v, 0, 0, 0, 0⟩ [32, 48, 32, 48, 32, 48]
  generalize Ei b st.lines v 4 0 c ⟨v, 0, 0, 0, 0⟩ [32, 48, 32, 48, 32, 48] = M at this
  obtain ⟨er, c', x⟩ := M
  cases er with
  | some e => exact this
  | none => exact .none
theorem lineS_er (b : List UInt8) (N : Int) (a : Nat) (st : MSt) : F3 (rlS b N a st).1.1 := by
 unfold rlS
 split
 ·exact markS_er _ _ _
 ·split
  ·exact .lim
  ·split
   ·exact leafS_er _ _ _
   ·exact nodeS_er _ _ _
theorem oneS_er (b : List UInt8) (N : Int) (a : Nat) (st : MSt) : F3 (IX b N a st).1.1 := by
 unfold IX
 have := lineS_er b N a st
 generalize rlS b N a st = M at this
 obtain ⟨⟨er, c⟩, st'⟩ := M
 cases er with
 | some e => exact this
 | none => exact endS_er _ _ _
theorem Rv (b : List UInt8) (N : Int) : ∀ k a st, F3 (BI b N k a st).1.1
 | 0, a, st => .none
 | k + 1, a, st => by
  unfold BI
  split
  ·exact .none
  ·have := oneS_er b N a st
   generalize IX b N a st = M at this
   obtain ⟨⟨er, c⟩, st'⟩ := M
   cases er with
   | some e => exact this
   | none => exact Rv b N k _ _
theorem allS_er (b : List UInt8) (N : Int) (st : MSt) : F3 (Gf b N st).1.1 := by
 unfold Gf
 have := Ms b 0 C2 []
 generalize B3 b 0 C2 [] = M at this
 obtain ⟨er, c⟩ := M
 cases er with
 | some e => exact this
 | none =>
  dsimp only
  have := endS_er b (Ff b c) []
  generalize G4 b (Ff b c) [] = M at this
  obtain ⟨er, d⟩ := M
  cases er with
  | some e => exact this
  | none => exact Rv _ _ _ _ _
end Go.Gm
namespace Go.Gm
end Go.Gm
namespace Go.Gm
def ats (st : MSt) : List Nat := st.lines.map (·.1)
def lvs (st : MSt) : List Int := st.lines.map (·.2)
def sttC (law : List UInt8) (v1 v2 v3 : Aa) : List Aa := [.str law, v1, v2, v3]
structure SR (b0 : Nat) (st : MSt) (v1 v2 v3 : Aa) (H : Ab) : Prop where
 nodes : RS cNd As 5 b0 st.nodes v1 H
 ats : RS cN D3 1 b0 (ats st) v2 H
 lvs : RS cI D3 1 b0 (lvs st) v3 H
 apart : ∀ i es es', v2 = .sl es (.own i) → v3 ≠ .sl es' (.own i)
theorem SR.push {b0 : Nat} {st : MSt} {v1 v2 v3 : Aa} {H : Ab} (h : SR b0 st v1 v2 v3 H) (G : Ab) : SR b0 st v1 v2 v3 (H ++ G) :=
 ⟨h.nodes.left G, h.ats.left G, h.lvs.left G, h.apart⟩
theorem SR.put {b0 p : Nat} {st : MSt} {v1 v2 v3 : Aa} {H : Ab} {c c' : List Aa} (h : SR b0 st v1 v2 v3 H) (hp : H[p]? = some (.cel 0 c)) : SR b0 st v1 v2 v3 (H.set p (.cel 0 c')) :=
 ⟨h.nodes.put hp, h.ats.put hp, h.lvs.put hp, h.apart⟩
theorem SR.law {b0 : Nat} {st : MSt} {v1 v2 v3 : Aa} {H : Ab} (h : SR b0 st v1 v2 v3 H) (law : List UInt8) : SR b0 { st with law := law } v1 v2 v3 H := ⟨h.nodes, h.ats, h.lvs, h.apart⟩
end Go.Gm
namespace Go.Gm
section
variable {lines : List (Nat × Int)} {level : Int}
end
end Go.Gm
namespace Go.Gm
theorem Hk.refl (v : Aa) (H : Ab) : Hk v v H H := ⟨Nat.le_refl _, fun _ _ _ => rfl, fun i es h => .inr ⟨es, h⟩⟩
theorem Hk.trans {v v' v'' : Aa} {H H' H'' : Ab} (h : Hk v v' H H') (h' : Hk v' v'' H' H'') : Hk v v'' H H'' :=
 ⟨Nat.le_trans h.len h'.len, fun i hi hn => by
  rw [h'.keep i (Nat.lt_of_lt_of_le hi h.len) fun es e => ?_, h.keep i hi hn]
  rcases h.own i es e with h1 | ⟨es', h1⟩
  ·omega
  ·exact hn es' h1,
  fun i es e => by
  rcases h'.own i es e with h1 | ⟨es', h1⟩
  ·exact .inl (Nat.le_trans h.len h1)
  ·exact h.own i es' h1⟩
theorem Hk.app (v : Aa) (H G : Ab) : Hk v v H (H ++ G) := ⟨by simp, fun i hi _ => List.getElem?_append_left hi, fun i es h => .inr ⟨es, h⟩⟩
theorem Hk.set {v v' : Aa} {H H' : Ab} {p : Nat} {B : Blk} (h : Hk v v' H H') (hp : H.length ≤ p) : Hk v v' H (H'.set p B) :=
 ⟨by rw [List.length_set]; exact h.len, fun i hi hn => by rw [List.getElem?_set_ne (by omega)]; exact h.keep i hi hn, h.own⟩
section
variable {α β : Type} {f : α → List Aa} {ty : TypeId} {sz : Nat}
theorem RS.lt {b i : Nat} {out : List α} {v : Aa} {H : Ab} {es : List (List Aa)} (h : RS f ty sz b out v H) (e : v = .sl es (.own i)) : i < H.length := by
 rcases h with ⟨_, k⟩ | ⟨t, _, k2, k3⟩
 ·rw [k] at e; injection e with _ e; cases e
 ·rw [k2] at e; injection e with _ e; injection e with e
  rw [← e]; exact (List.getElem?_eq_some_iff.1 k3).1

end
section
variable {b0 : Nat} {st : MSt} {v1 v2 v3 : Aa} {H : Ab}
end
end Go.Gm
namespace Go.Gm
def cW (t : Bool) : List Aa := [.int .i64 (if t then 1 else 0)]
instance : Sz cW 1 := ⟨fun _ => rfl⟩
instance : Pl cW := ⟨fun _ => rfl⟩
section
variable {b0 : Nat}
end
end Go.Gm
namespace Go.Gm
section
variable {b0 : Nat} {st : MSt} {v1 v2 v3 : Aa} {H : Ab}
end
end Go.Gm
namespace Go.Gm
section
variable {b0 : Nat} {st : MSt} {v1 v2 v3 : Aa} {H : Ab}
end
end Go.Gm
namespace Go.Gm
theorem kidS_le {b : List UInt8} {a : Nat} (ha : a ≤ b.length) (lines : List (Nat × Int)) (level : Int) (rest : List UInt8) : a ≤ (Mz b a lines level rest).2.1 ∧ (Mz b a lines level rest).2.1 ≤ b.length := kidF_le b lines level a rest _ a 0 ha
theorem litN_ge (b : List UInt8) (a : Nat) (s : List UInt8) : a ≤ G2 b a s := Nat.le_add_right _ _
theorem PU (b : List UInt8) (lines : List (Nat × Int)) (level : Int) : ∀ d k a x rest, a ≤ b.length → a ≤ (Ei b lines level d k a x rest).2.1 ∧ (Ei b lines level d k a x rest).2.1 ≤ b.length ∧ (Ei b lines level d k a x rest).2.2.lv = x.lv
 | 0, k, a, x, rest, h => ⟨Nat.le_refl _, h, rfl⟩
 | d + 1, k, a, x, rest, h => by
  unfold Ei
  have h1 := litN_ge b a [32]
  have h2 := HK h [32]
  have e : (B3 b a [32] (48 :: rest)).2 = G2 b a [32] := rfl
  generalize B3 b a [32] (48 :: rest) = M at e
  obtain ⟨er, c⟩ := M
  dsimp only at e
  subst e
  cases er with
  | some e => exact ⟨h1, h2, rfl⟩
  | none =>
   dsimp only
   have h3 := kidS_le h2 lines level rest
   generalize Mz b (G2 b a [32]) lines level rest = M at h3
   obtain ⟨er, c', n⟩ := M
   dsimp only at h3
   cases er with
   | some e => exact ⟨by dsimp only; omega, by dsimp only; omega, rfl⟩
   | none =>
    have := PU b lines level d (k + 1) c' (x.setKid k (n : Int)) (rest.drop 2) (by omega)
    rw [Dt] at this
    exact ⟨by dsimp only; omega, by dsimp only; omega, by dsimp only; exact this.2.2⟩
section
variable {b0 p a : Nat} {b : List UInt8} {bx N : Int} {st : MSt} {H : Ab}
noncomputable def nodeT (H0 : Ab) (r_9 n_10 : Aa) (H13 : Ab) : Out :=
 bC (Ad true 5 n_10 H13) (fun _ => True) fun x32 =>
 Cj (Sh.fh r_9 x32 H13) fun x33 H34 =>
 (Ae r_9).bind fun x35 =>
 (Ac 6 x35).bind fun x36 =>
 bC (Ad false 1 x36 H34) (fun x37 => Ad false 1 x36 H13 = some x37 ∧ True) fun x37 =>
 (Ac 0 n_10).bind fun x38 =>
 bC (Ad false 1 x38 H34) (fun x39 => Ad false 1 x38 H13 = some x39 ∧ True) fun x39 =>
 (A3 (some [(.int .i64 0), (.int .i64 0)]) [(0, 1, x33), (1, 1, x39)]).bind fun x40 =>
 (AF 2 [x40]).bind fun x41 =>
 Cj (BB (AG CO 2 16 x37 x41 H34)) fun x42 H43 =>
 (Ae r_9).bind fun x44 =>
 (Ac 6 x44).bind fun x45 =>
 bK H0 (AL (Al 1 x45 x42 H43)) fun _ H47 =>
 rK H0 (.tup []) H47
theorem node_loop {v w : Aa} (h : RDx b0 p b a bx N st v w H) (ha : a ≤ b.length) (hb : b.length < 1152921504606846976) {level : Int} (h1 : 1 ≤ level) (h2 : level ≤ 1329) (hll : st.lines.length < 3000000000000) (H0 : Ab) (x : Nd) (hx : x.lv = level) (rest : List UInt8) (hr : rest.length ≤ 100) :
  Ao (fun rec1 vs H1 => Sh.f35 H0 rec1 (ag vs 0) (ag vs 1) (ag vs 2) (ag vs 3) H1) AI [.ptr p 0 0, .ptr H.length 0 0, .str rest, .int .i64 0] (H ++ [.cel 0 (cNd x)]) =
   match Ei b st.lines level 4 0 a x rest with
   | (some e, c, x') => some (.pan (hv e), AJ H p b (rdR bx N st.law v w) c ++ [.cel 0 (cNd x')])
   | (none, c, x') => nodeT H0 (.ptr p 0 0) (.ptr H.length 0 0) (AJ H p b (rdR bx N st.law v w) c ++ [.cel 0 (cNd x')]) := by
 have key := Br (G := fun rec1 vs H1 => Sh.f35 H0 rec1 (ag vs 0) (ag vs 1) (ag vs 2) (ag vs 3) H1) (σ := Nat × Nat × Nd × List UInt8) (fun s => s.1 ≤ 4 ∧ s.2.1 ≤ b.length ∧ s.2.2.1.lv = level ∧ s.2.2.2.length ≤ 100)
  (fun s => [.ptr p 0 0, .ptr H.length 0 0, .str s.2.2.2, .int .i64 (s.1 : Int)]) (fun s => AJ H p b (rdR bx N st.law v w) s.2.1 ++ [.cel 0 (cNd s.2.2.1)]) (fun s => 4 - s.1)
  (fun s => match Ei b st.lines level (4 - s.1) s.1 s.2.1 s.2.2.1 s.2.2.2 with
   | (some e, c, x') => some (.pan (hv e), AJ H p b (rdR bx N st.law v w) c ++ [.cel 0 (cNd x')])
   | (none, c, x') => nodeT H0 (.ptr p 0 0) (.ptr H.length 0 0) (AJ H p b (rdR bx N st.law v w) c ++ [.cel 0 (cNd x')])) (fun s rec hi hrec => ?_) (0, a, x, rest) ⟨by simp, ha, hx, hr⟩ (by dsimp only; omega)
 ·rw [BC h.lx] at key; exact key
 ·obtain ⟨k, i, x, rest⟩ := s
  obtain ⟨i0, i1, i2, i3⟩ := hi
  dsimp only at i0 i1 i2 i3 hrec ⊢
  have hlen : ∀ c, (AJ H p b (rdR bx N st.law v w) c).length = H.length := fun c => FE H p c b _
  have hp := h.lt
  have hpp : ∀ c e (G : Ab), AJ (AJ H p b (rdR bx N st.law v w) c ++ G) p b (rdR bx N st.law v w) e = AJ H p b (rdR bx N st.law v w) e ++ G := fun c e G => by
   rw [MT (by rw [hlen]; exact hp), KH]
  have hR := fun c => (h.go c [.cel 0 (cNd x)]).1
  have hcell : ∀ c, (AJ H p b (rdR bx N st.law v w) c ++ [Blk.cel 0 (cNd x)])[H.length]? = some (.cel 0 (cNd x)) := fun c => by rw [← hlen c]; exact A9
  unfold Sh.f35
  by_cases hk : k < 4
  ·have hk' : (k : Int) < 4 := by omega
   have hcat : Af .none .add (.str [48]) (.str rest) = some (.str (48 :: rest)) := AV (by simp only [List.length_cons, List.length_nil]; omega)
   have hmust := Mx (hR i).lx i1 hb [32] (48 :: rest) (by decide) (by simp only [List.length_cons]; omega)
   rw [hpp] at hmust
   have e : (B3 b i [32] (48 :: rest)).2 ≤ b.length := HK i1 [32]
   rw [show 4 - k = (3 - k) + 1 by omega]
   unfold Ei
   simp only [hk', GMb, GMc, HPa, HPc, HPd, HPe, HPz, Nat.reduceAdd, Nat.reduceLT, hcat, hmust]
   generalize B3 b i [32] (48 :: rest) = M at e
   obtain ⟨er, c⟩ := M
   dsimp only at e ⊢
   cases er with
   | some e => simp only [Bj, GMb, GMc, HPa, HPc, HPd, HPe, HPz, Nat.reduceAdd, Nat.reduceLT]
   | none =>
    obtain ⟨y, k1, k2⟩ := rd_kid (hR c) e hb h1 h2 hll rest (by omega)
    have h3 := kidS_le e st.lines level rest
    rw [hpp] at k1
    have hlv := DC (hcell c)
    rw [i2] at hlv
    simp only [Bv, GMb, GMc, HPa, HPc, HPd, HPe, HPz, Nat.reduceAdd, Nat.reduceLT, hlv, k1]
    generalize Mz b c st.lines level rest = M at h3 k2
    obtain ⟨er, c', n⟩ := M
    dsimp only at h3 k2 ⊢
    cases er with
    | some e => simp only [Bj, GMb, GMc, HPa, HPc, HPd, HPe, HPz, Nat.reduceAdd, Nat.reduceLT]
    | none =>
     obtain rfl := k2 rfl
     have hst := Cw (c := (n : Int)) (hcell c') hk
     rw [← hlen c', BJ, hlen c'] at hst
     have hmin : Gt Mt (.int .i64 2) [.int .i64 (rest.length : Int)] = some (.int .i64 ((min 2 rest.length : Nat) : Int)) := by rw [min_int]; congr 2; omega
     have hdr : rest.drop (min 2 rest.length) = rest.drop 2 := by
      by_cases hl : 2 ≤ rest.length
      ·rw [Nat.min_eq_left hl]
      ·rw [List.drop_of_length_le (by omega), List.drop_of_length_le (by omega)]
     have := hrec (k + 1, c', x.setKid k (n : Int), rest.drop 2) ⟨by dsimp only; omega, by dsimp only; omega, by rw [Dt]; exact i2, by simp only [List.length_drop]; omega⟩ (by dsimp only; omega)
     dsimp only at this
     rw [show 4 - (k + 1) = 3 - k by omega] at this
     simp only [Bv, GMb, GMc, HPa, HPc, HPd, HPe, HPz, Nat.reduceAdd, Nat.reduceLT, CM hk, hst, hmin, Dc (show min 2 rest.length ≤ rest.length by omega), hdr, Av (show k < 9223372036854775807 by omega)]
     exact this
  ·have hk' : ¬ (k : Int) < 4 := by omega
   rw [show 4 - k = 0 by omega]
   unfold Ei nodeT
   simp only [hk', GMb, GMc, HPa, HPc, HPd, HPe, HPz, Nat.reduceAdd, Nat.reduceLT]
theorem rd_node (h : RD b0 p b a bx N st H) (ha : a ≤ b.length) (hb : b.length < 1152921504606846976) (hn : st.nodes.length < 3000000000000) (hll : st.lines.length < 3000000000000) : NN b0 p b bx N H (Sh.f1q (.ptr p 0 0) H) (.tup []) (Mp b a st) := by
 obtain ⟨v, w, h⟩ := h
 unfold Sh.f1q NN Mp
 have hlev := lx_level h.lx ha hb
 have hle : (Cd b a).2.1 ≤ b.length := by
  unfold Cd
  split
  ·exact ha
  ·exact (OL b _ a 0 ha).2
 have hok : (Cd b a).1 = none → 0 < (Cd b a).2.2 ∧ (Cd b a).2.2 ≤ 1329 := by
  unfold Cd
  split
  ·intro e; cases e
  ·intro e; exact levF_ok b _ a 0 (by omega) ha (by omega) e
 simp only [hlev]
 generalize Cd b a = M at hle hok
 obtain ⟨er, c, lv⟩ := M
 dsimp only at hle hok ⊢
 obtain ⟨h1, e1⟩ := h.go0 c
 cases er with
 | some e =>
  simp only [Bj, GMb, GMc, HPa, HPc, HPd, HPe, HPz, Nat.reduceAdd, Nat.reduceLT]
  exact ⟨_, rfl, e1, _, _, h1⟩
 | none =>
  obtain ⟨l1, l2⟩ := hok rfl
  have hbd : A3 (some [(.int .i64 0), (.int .i64 0), (.int .i64 0), (.int .i64 0), (.int .i64 0)]) [(0, 1, .int .i64 (lv : Int))] = some (.agg (cNd ⟨(lv : Int), 0, 0, 0, 0⟩)) := rfl
  have hloop := node_loop h1 hle hb (level := (lv : Int)) (by omega) (by omega) hll H ⟨(lv : Int), 0, 0, 0, 0⟩ rfl [32, 48, 32, 48, 32, 48] (by decide)
  simp only [Bv, GMb, GMc, hbd, Fg, DT (A9 (cs := cNd nd0)) rfl, BJ]
  rw [hloop]
  have hkl := PU b st.lines (lv : Int) 4 0 c ⟨(lv : Int), 0, 0, 0, 0⟩ [32, 48, 32, 48, 32, 48] hle
  generalize Ei b st.lines (lv : Int) 4 0 c ⟨(lv : Int), 0, 0, 0, 0⟩ [32, 48, 32, 48, 32, 48] = M at hkl
  obtain ⟨er, c', x⟩ := M
  dsimp only at hkl ⊢
  obtain ⟨h2, e2⟩ := h1.go c' [.cel 0 (cNd x)]
  cases er with
  | some e => exact ⟨_, rfl, e1.trans e2, _, _, h2⟩
  | none =>
   dsimp only
   have hlen : (AJ (AJ H p b (rdR bx N st.law v w) c) p b (rdR bx N st.law v w) c').length = (AJ H p b (rdR bx N st.law v w) c).length := FE _ _ _ _ _
   have hcell : (AJ (AJ H p b (rdR bx N st.law v w) c) p b (rdR bx N st.law v w) c' ++ [Blk.cel 0 (cNd x)])[(AJ H p b (rdR bx N st.law v w) c).length]? = some (.cel 0 (cNd x)) := by rw [← hlen]; exact A9
   have hqp : (AJ H p b (rdR bx N st.law v w) c).length ≠ p := by have := h1.lt; omega
   have hld1 := Bw (o := 6) (sz := 1) h2.lx
   generalize AJ (AJ H p b (rdR bx N st.law v w) c) p b (rdR bx N st.law v w) c' ++ [Blk.cel 0 (cNd x)] = H2 at *
   generalize (AJ H p b (rdR bx N st.law v w) c).length = q at *
   obtain ⟨H3, s1, s2, v3, s3⟩ := rd_put (w := w) ⟨v, h2⟩ x hn
   have hcell3 := s2.cel q _ hqp hcell
   have hld2 := Bw (o := 6) (sz := 1) s3.lx
   obtain ⟨w4, H4, t1, t2, t3, t4⟩ := rd_line s3 (st.nodes.length + 1, (lv : Int)) hll
   have hl1 := DC hcell
   have hl2 := DC hcell3
   rw [hkl.2.2] at hl1 hl2
   unfold nodeT
   simp only [GMb, GMc, HPa, HPc, HPd, HPe, HPz, Nat.reduceAdd, Nat.reduceLT, CK hcell, s1, hld1, hld2, rdR, hl1, hl2, build_ln, RP, t1, t2]
   exact ⟨_, rfl, ((e1.trans e2).trans s2).trans t3, t4⟩

end
end Go.Gm
namespace Go.Gm
structure Q3 (b : List UInt8) (a : Nat) (st : MSt) (s : (Er × Nat) × MSt) : Prop where
 le : s.1.2 ≤ b.length
 go : s.1.1 = none → a < s.1.2
 nd : s.2.nodes.length ≤ st.nodes.length + 21
 ln : s.2.lines.length ≤ st.lines.length + 1
theorem markS_ok {b : List UInt8} {a : Nat} (ha : a < b.length) (st : MSt) : Q3 b a st (Mw b a st) := by
 have hle : a + 1 ≤ b.length := ha
 unfold Mw
 split
 ·exact ⟨anyN_le hle, fun _ => by show a < Ff b (a + 1); unfold Ff; omega, by dsimp only; omega, by dsimp only; omega⟩
 ·split
  ·have hM := HK hle [71, 32]
   have hG := litN_ge b (a + 1) [71, 32]
   have e : (B3 b (a + 1) [71, 32] [49]).2 = G2 b (a + 1) [71, 32] := rfl
   generalize B3 b (a + 1) [71, 32] [49] = M at e
   obtain ⟨er, c⟩ := M
   dsimp only at e
   subst e
   cases er with
   | some e => exact ⟨hM, fun h => (by cases h), by dsimp only; omega, by dsimp only; omega⟩
   | none => have := intS_le hM false []; exact ⟨by dsimp only; omega, fun _ => by dsimp only; omega, by dsimp only; omega, by dsimp only; omega⟩
  ·split
   ·have hM := HK hle [82, 32]
    have hG := litN_ge b (a + 1) [82, 32]
    have e : (B3 b (a + 1) [82, 32] [97]).2 = G2 b (a + 1) [82, 32] := rfl
    generalize B3 b (a + 1) [82, 32] [97] = M at e
    obtain ⟨er, c⟩ := M
    dsimp only at e
    subst e
    cases er with
    | some e => exact ⟨hM, fun h => (by cases h), by dsimp only; omega, by dsimp only; omega⟩
    | none =>
     dsimp only
     have := rulS_le (rest := []) hM
     generalize O4 b (G2 b (a + 1) [82, 32]) [] = M at this
     obtain ⟨er, d⟩ := M
     dsimp only at this
     cases er with
     | some e => exact ⟨this.2, fun h => (by cases h), by dsimp only; omega, by dsimp only; omega⟩
     | none => exact ⟨this.2, fun _ => by dsimp only; omega, by dsimp only; omega, by dsimp only; omega⟩
   ·exact ⟨hle, fun h => (by cases h), by dsimp only; omega, by dsimp only; omega⟩
theorem leafS_ok {b : List UInt8} {a : Nat} (ha : a < b.length) (st : MSt) (hs : A8 b a [46, 42, 36] = true) : Q3 b a st (PQ b a st) := by
 unfold PQ
 have hle := GQ b (b.length + 1 - a) a 0 0 (List.replicate 64 false) (by omega)
 have hgo : (DX b (b.length + 1 - a) a 0 0 (List.replicate 64 false)).1 = none → a < (DX b (b.length + 1 - a) a 0 0 (List.replicate 64 false)).2.1 := by
  rw [show b.length + 1 - a = (b.length - a) + 1 by omega]
  unfold DX
  rw [hs]
  simp only [if_true]
  split
  ·intro h; cases h
  ·split
   ·have := GQ b (b.length - a) (a + 1) 0 (0 + 1) (List.replicate 64 false) (by omega); intro _; omega
   ·have := GQ b (b.length - a) (a + 1) (0 + 1) 0 ((List.replicate 64 false).set (0 * 8 + 0) (A8 b a [42])) (by omega); intro _; omega
 generalize DX b (b.length + 1 - a) a 0 0 (List.replicate 64 false) = R at hle hgo
 obtain ⟨er, c, on⟩ := R
 cases er with
 | some e => exact ⟨hle.2.1, fun h => (by cases h), by dsimp only; omega, by dsimp only; omega⟩
 | none =>
  have := OH (onQ on) 3 0 0 st.nodes
  rw [show sqM 3 = 21 from rfl] at this
  exact ⟨hle.2.1, fun _ => hgo rfl, this, by simp⟩
theorem nodeS_ok {b : List UInt8} {a : Nat} (ha : a < b.length) (st : MSt) : Q3 b a st (Mp b a st) := by
 unfold Mp
 have hle : (Cd b a).2.1 ≤ b.length := by
  unfold Cd
  split
  ·exact Nat.le_of_lt ha
  ·exact (OL b _ a 0 (by omega)).2
 have hgo : (Cd b a).1 = none → a < (Cd b a).2.1 := by
  unfold Cd
  split
  ·intro e; cases e
  ·rw [show b.length + 1 - a = (b.length - a) + 1 by omega]
   unfold Ge
   cases hs : A8 b a BM with
   | true =>
    simp only [if_true]
    split
    ·intro e; cases e
    ·have := OL b (b.length - a) (a + 1) (10 * 0 + Dy b a) (by omega); intro _; omega
   | false => simp only [Bool.false_eq_true, if_false, if_true]; intro e; cases e
 generalize Cd b a = M at hle hgo
 obtain ⟨er, c, lv⟩ := M
 dsimp only at hle hgo ⊢
 cases er with
 | some e => exact ⟨hle, fun h => (by cases h), by dsimp only; omega, by dsimp only; omega⟩
 | none =>
  have := hgo rfl
  have hkl := PU b st.lines (lv : Int) 4 0 c ⟨(lv : Int), 0, 0, 0, 0⟩ [32, 48, 32, 48, 32, 48] hle
  dsimp only
  generalize Ei b st.lines (lv : Int) 4 0 c ⟨(lv : Int), 0, 0, 0, 0⟩ [32, 48, 32, 48, 32, 48] = M at hkl
  obtain ⟨er, c', x⟩ := M
  dsimp only at hkl ⊢
  cases er with
  | some e => exact ⟨hkl.2.1, fun h => (by cases h), by dsimp only; omega, by dsimp only; omega⟩
  | none => exact ⟨hkl.2.1, fun _ => by dsimp only; omega, by simp, by simp⟩
theorem lineS_ok {b : List UInt8} {a : Nat} (ha : a < b.length) (N : Int) (st : MSt) : Q3 b a st (rlS b N a st) := by
 unfold rlS
 split
 ·exact markS_ok ha st
 ·split
  ·exact ⟨Nat.le_of_lt ha, fun h => (by cases h), by dsimp only; omega, by dsimp only; omega⟩
  ·split
   ·rename_i h; exact leafS_ok ha st h
   ·exact nodeS_ok ha st
theorem endS_le {b : List UInt8} {a : Nat} (ha : a ≤ b.length) (rest : List UInt8) : a ≤ (G4 b a rest).2 ∧ (G4 b a rest).2 ≤ b.length := by
 refine ⟨?_, eolN_le ha⟩
 show a ≤ eolN b a
 unfold eolN crN
 split
 ·exact Nat.le_refl _
 ·split <;> split <;> omega
theorem oneS_ok {b : List UInt8} {a : Nat} (ha : a < b.length) (N : Int) (st : MSt) : Q3 b a st (IX b N a st) := by
 unfold IX
 have h := lineS_ok ha N st
 generalize rlS b N a st = M at h
 obtain ⟨⟨er, c⟩, st'⟩ := M
 obtain ⟨h1, h2, h3, h4⟩ := h
 cases er with
 | some e => exact ⟨h1, h2, h3, h4⟩
 | none =>
  have := endS_le h1 []
  have := h2 rfl
  exact ⟨by dsimp only at *; omega, fun _ => by dsimp only at *; omega, h3, h4⟩
def endE (b : List UInt8) (s : (Er × Nat) × MSt) : (Er × Nat) × MSt := match s with
 | ((some e, c), st') => ((some e, c), st')
 | ((none, c), st') => (G4 b c [], st')
section
variable {b0 p a : Nat} {b : List UInt8} {bx N : Int} {st : MSt} {H : Ab}
theorem one_end (hb : b.length < 1152921504606846976) {H0 : Ab} {x : Out} {s : (Er × Nat) × MSt} (he : NN b0 p b bx N H x (.tup []) s) (hs : s.1.2 ≤ b.length) :
  NN b0 p b bx N H (bK H0 x fun _ H' => Sh.f36 H0 (.ptr p 0 0) H') (.tup []) (endE b s) := by
 unfold endE
 obtain ⟨⟨er, c⟩, st'⟩ := s
 obtain ⟨H1, rfl, e1, h1⟩ := he
 dsimp only at hs e1 h1 ⊢
 cases er with
 | some e => exact ⟨H1, rfl, e1, h1⟩
 | none =>
  obtain ⟨v, w, h1⟩ := h1
  obtain ⟨h2, e2⟩ := h1.go0 (G4 b c []).2
  have hx := lx_endS h1.lx hs hb [] (by decide)
  refine ⟨_, ?_, e1.trans e2, _, _, h2⟩
  unfold Sh.f36
  simp only [Bv, GMb, GMc, HPa, HPc, HPd, HPe, HPz, Nat.reduceAdd, Nat.reduceLT, hx]
  cases (G4 b c []).1 <;> simp only [Bv, Bj, GMb, GMc, HPa, HPc, HPd, HPe, HPz, Nat.reduceAdd, Nat.reduceLT]
theorem rd_one (h : RD b0 p b a bx N st H) (ha : a < b.length) (hb : b.length < 1152921504606846976) (hn : st.nodes.length + 100 < 3000000000000) (hll : st.lines.length < 3000000000000) : NN b0 p b bx N H (Sh.f1r (.ptr p 0 0) H) (.tup []) (IX b N a st) := by
 have hok := lineS_ok ha N st
 have key : ∀ x, NN b0 p b bx N H x (.tup []) (rlS b N a st) → NN b0 p b bx N H (bK H x fun _ H' => Sh.f36 H (.ptr p 0 0) H') (.tup []) (IX b N a st) := fun x hx => one_end hb hx hok.le
 have hh := h
 obtain ⟨v, w, h⟩ := h
 have hle : a ≤ b.length := Nat.le_of_lt ha
 have hld6 := Bw (o := 6) (sz := 1) h.lx
 have hld3 := Bw (o := 3) (sz := 1) h.lx
 unfold Sh.f1r
 unfold rlS at key
 simp only [GMb, GMc, HPa, HPc, HPd, HPe, HPz, Nat.reduceAdd, Nat.reduceLT, BW h.lx hle]
 cases h1 : A8 b a [35] with
 | true =>
  rw [h1] at key
  simp only [GMb, GMc, HPa, HPc, HPd, HPe, HPz, Nat.reduceAdd, Nat.reduceLT]
  exact key _ (rd_mark hh ha hb)
 | false =>
  rw [h1] at key
  simp only [GMb, GMc, HPa, HPc, HPd, HPe, HPz, Nat.reduceAdd, Nat.reduceLT, BW h.lx hle, Bool.false_eq_true, if_false] at key ⊢
  cases h2 : A8 b a [46, 42, 36, 49, 50, 51, 52, 53, 54, 55, 56, 57] with
  | true =>
   rw [h2] at key
   by_cases h3 : (st.lines.length : Int) ≥ N
   ·simp only [GMb, GMc, HPa, HPc, HPd, HPe, HPz, Nat.reduceAdd, Nat.reduceLT, hld6, hld3, rdR, h.lines.len, h3, if_true] at key ⊢
    exact key (Sh.f6 (.ptr p 0 0) H) ⟨H, rfl, Ext.refl _ _ _, hh⟩
   ·simp only [GMb, GMc, HPa, HPc, HPd, HPe, HPz, Nat.reduceAdd, Nat.reduceLT, hld6, hld3, rdR, h.lines.len, h3, BW h.lx hle, Bool.false_eq_true, if_false] at key ⊢
    cases h4 : A8 b a [46, 42, 36] with
    | true =>
     rw [h4] at key
     simp only [GMb, GMc, HPa, HPc, HPd, HPe, HPz, Nat.reduceAdd, Nat.reduceLT]
     exact key _ (rd_leaf hh hle hb hn hll)
    | false =>
     rw [h4] at key
     simp only [GMb, GMc, HPa, HPc, HPd, HPe, HPz, Nat.reduceAdd, Nat.reduceLT]
     exact key _ (rd_node hh hle hb (by omega) hll)
  | false =>
   rw [h2] at key
   simp only [GMb, GMc, HPa, HPc, HPd, HPe, HPz, Nat.reduceAdd, Nat.reduceLT, BW h.lx hle, Bool.false_eq_true, if_false] at key ⊢
   cases h4 : A8 b a [46, 42, 36] with
   | true =>
    rw [h4] at key
    simp only [GMb, GMc, HPa, HPc, HPd, HPe, HPz, Nat.reduceAdd, Nat.reduceLT]
    exact key _ (rd_leaf hh hle hb hn hll)
   | false =>
    rw [h4] at key
    simp only [GMb, GMc, HPa, HPc, HPd, HPe, HPz, Nat.reduceAdd, Nat.reduceLT]
    exact key _ (rd_node hh hle hb (by omega) hll)
theorem all_loop (hb : b.length < 1152921504606846976) (H0 : Ab) : ∀ (m a : Nat) (st : MSt) (H : Ab), a ≤ b.length → b.length - a < m → ∀ n, m ≤ n → st.nodes.length + 21 * (b.length - a) + 200 < 3000000000000 → st.lines.length + (b.length - a) + 200 < 3000000000000 → RD b0 p b a bx N st H →
  NN b0 p b bx N H (Ao (fun rec1 vs H => Sh.f37 H0 rec1 (ag vs 0) H) n [.ptr p 0 0] H) (.tup []) (BI b N m a st) := by
 intro m
 induction m with
 | zero => intro a st H _ h; omega
 | succ m ih =>
  intro a st H ha hm n hn h1 h2 h
  obtain ⟨n, rfl⟩ : ∃ k, n = k + 1 := ⟨n - 1, by omega⟩
  rw [DV]
  generalize hg : Ao (fun rec1 vs H => Sh.f37 H0 rec1 (ag vs 0) H) n = rec
  have hh := h
  obtain ⟨v, w, h⟩ := h
  unfold Sh.f37 BI
  simp only [GMb, GMc, HPa, HPc, HPd, HPe, HPz, Nat.reduceAdd, Nat.reduceLT, GO h.lx]
  by_cases he : a = b.length
  ·simp only [he, GMb, GMc, HPa, HPc, HPd, HPe, HPz, Nat.reduceAdd, Nat.reduceLT, if_true]
   rw [he] at hh
   exact ⟨H, rfl, Ext.refl _ _ _, hh⟩
  ·have hlt : a < b.length := by omega
   obtain ⟨H1, r1, r2, r3⟩ := rd_one hh hlt hb (by omega) (by omega)
   have hok := oneS_ok hlt N st
   simp only [he, GMb, GMc, HPa, HPc, HPd, HPe, HPz, Nat.reduceAdd, Nat.reduceLT, r1, if_false]
   generalize IX b N a st = M at r2 r3 hok
   obtain ⟨⟨er, c⟩, st'⟩ := M
   obtain ⟨k1, k2, k3, k4⟩ := hok
   dsimp only at r2 r3 k1 k2 k3 k4 ⊢
   cases er with
   | some e =>
    simp only [Bj, GMb, GMc, HPa, HPc, HPd, HPe, HPz, Nat.reduceAdd, Nat.reduceLT]
    exact ⟨H1, rfl, r2, r3⟩
   | none =>
    have := k2 rfl
    obtain ⟨H2, s1, s2, s3⟩ := ih c st' H1 k1 (by omega) n (by omega) (by omega) (by omega) r3
    rw [hg] at s1
    simp only [Bv, GMb, GMc, HPa, HPc, HPd, HPe, HPz, Nat.reduceAdd, Nat.reduceLT, s1]
    exact ⟨H2, rfl, r2.trans s2, s3⟩
theorem rd_all (h : RD b0 p b 0 bx N st H) (hb : b.length < 100000000000) (hn : st.nodes.length = 0) (hl : st.lines.length = 0) : NN b0 p b bx N H (Sh.f10 (.ptr p 0 0) H) (.tup []) (Gf b N st) := by
 have hb' : b.length < 1152921504606846976 := by omega
 obtain ⟨v, w, h⟩ := h
 have hM := HK (Nat.zero_le b.length) C2
 have e : (B3 b 0 C2 []).2 = G2 b 0 C2 := rfl
 have hx := Mx h.lx (Nat.zero_le _) hb' C2 [] (by decide) (by decide)
 unfold Sh.f10 Gf
 unfold C2 at hx
 rw [show B3 b 0 [91, 77, 50, 93] [] = B3 b 0 C2 [] from rfl] at hx
 simp only [GMb, GMc, HPa, HPc, HPd, HPe, HPz, Nat.reduceAdd, Nat.reduceLT, hx]
 generalize B3 b 0 C2 [] = M at e
 obtain ⟨er, c⟩ := M
 dsimp only at e ⊢
 subst e
 obtain ⟨h1, e1⟩ := h.go0 (G2 b 0 C2)
 cases er with
 | some e =>
  simp only [Bj, GMb, GMc, HPa, HPc, HPd, HPe, HPz, Nat.reduceAdd, Nat.reduceLT]
  exact ⟨_, rfl, e1, _, _, h1⟩
 | none =>
  have hany := anyN_le hM
  obtain ⟨h2, e2⟩ := h1.go0 (Ff b (G2 b 0 C2))
  have hx2 := lx_endS h2.lx hany hb' [] (by decide)
  simp only [Bv, GMb, GMc, HPa, HPc, HPd, HPe, HPz, Nat.reduceAdd, Nat.reduceLT, lx_any h1.lx hM hb', hx2]
  have hle := endS_le hany []
  generalize G4 b (Ff b (G2 b 0 C2)) [] = M at hle
  obtain ⟨er, d⟩ := M
  dsimp only at hle ⊢
  obtain ⟨h3, e3⟩ := h2.go0 d
  cases er with
  | some e =>
   simp only [Bj, GMb, GMc, HPa, HPc, HPd, HPe, HPz, Nat.reduceAdd, Nat.reduceLT]
   exact ⟨_, rfl, (e1.trans e2).trans e3, _, _, h3⟩
  | none =>
   simp only [Bv, GMb, GMc, HPa, HPc, HPd, HPe, HPz, Nat.reduceAdd, Nat.reduceLT]
   obtain ⟨H4, r1, r2, r3⟩ := all_loop (b0 := b0) (p := p) (bx := bx) (N := N) hb' H (b.length + 1) d st _ hle.2 (by omega) AI (by rw [Dj]; omega) (by omega) (by omega) ⟨_, _, h3⟩
   rw [r1]
   exact ⟨H4, rfl, ((e1.trans e2).trans e3).trans r2, r3⟩
def R0 (er : Er) : Aa := match er with
 | none => .agg [.int .i64 0, .str []]
 | some e => .agg [.int .i64 e.1, .str e.2]
theorem Rk (h : RD b0 p b 0 bx N st H) (hb : b.length < 100000000000) (hn : st.nodes.length = 0) (hl : st.lines.length = 0) : ∃ H', Sh.f11 (.bfn 21 [.ptr p 0 0]) H = some (.ret (R0 (Gf b N st).1.1), H') ∧ Ext b0 p H H' ∧ RD b0 p b (Gf b N st).1.2 bx N (Gf b N st).2 H' := by
 obtain ⟨H1, r1, r2, r3⟩ := rd_all h hb hn hl
 refine ⟨H1, ?_, r2, r3⟩
 have ho : ent 21 (ap1 Sh.f10) noO 21 [.ptr p 0 0] H = Sh.f10 (.ptr p 0 0) H := by
  unfold ent; rw [if_pos rfl]; rfl
 unfold Sh.f11 OS
 simp only [ho, r1, GMb, GMc]
 cases (Gf b N st).1.1 with
 | none => rfl
 | some e => rfl

end
end Go.Gm
namespace Go.Gm
theorem c05_kid {L : List Nd} {tk : Tok} {i : Nat} (hi : i < L.length) (h1 : 1 ≤ L[i].lv) (h2 : L[i].lv ≤ 1329) (c : Int) (H : Ab) (hL : L.length < 1152921504606846976) : Sh.f1s (.sl (enL cNd L) tk) (.int .i64 (i : Int)) (.int .i64 c) H = some (.ret (.bool (BS L i L[i] c)), H) := by
 unfold Sh.f1s
 simp only [GMb, GMc, HPa, HPc, HPd, HPe, HPz, Nat.reduceAdd, Nat.reduceLT, Aw hi, Fw, Bd, CN, Ci, CL]
 generalize L[i] = x at h1 h2
 by_cases hc : c = 0
 ·have : BS L i x c = true := by
   unfold BS
   simp only [Bool.and_eq_true, decide_eq_true_eq]; exact ⟨⟨by omega, fun _ => by omega⟩, fun _ h => by omega⟩
  rw [this]
  simp only [hc, GMb, GMc, HPa, HPc, HPd, HPe, HPz, Nat.reduceAdd, Nat.reduceLT]
 ·simp only [hc, GMb, GMc, HPa, HPc, HPd, HPe, HPz, Nat.reduceAdd, Nat.reduceLT, Bd]
  by_cases hl : x.lv = 1
  ·have : BS L i x c = (decide (c > 0) && decide (c ≤ 255)) := by
    unfold BS
    rw [Bool.eq_iff_iff]; simp only [Bool.and_eq_true, decide_eq_true_eq]
    exact ⟨fun h => ⟨by omega, h.1.2 hl⟩, fun h => ⟨⟨by omega, fun _ => h.2⟩, fun h' => by omega⟩⟩
   rw [this]
   by_cases h0 : c > 0
   ·simp only [hl, h0, GMb, GMc, HPa, HPc, HPd, HPe, HPz, Nat.reduceAdd, Nat.reduceLT]
   ·simp only [hl, h0, GMb, GMc, HPa, HPc, HPd, HPe, HPz, Nat.reduceAdd, Nat.reduceLT]
  ·simp only [hl, GMb, GMc, HPa, HPc, HPd, HPe, HPz, Nat.reduceAdd, Nat.reduceLT]
   by_cases h0 : c > 0
   ·by_cases hci : c ≤ (i : Int)
    ·obtain ⟨m, rfl⟩ : ∃ m : Nat, c = ((m + 1 : Nat) : Int) := ⟨(c - 1).toNat, by omega⟩
     have hm : m < L.length := by omega
     have hw : IntKind.i64.wrap (((m + 1 : Nat) : Int) - 1) = (m : Int) := by rw [A0] <;> omega
     have hw2 : IntKind.i64.wrap (x.lv - 1) = x.lv - 1 := A0 (by omega) (by omega)
     have : BS L i x ((m + 1 : Nat) : Int) = decide (L[m].lv = x.lv - 1) := by
      unfold BS
      rw [Bool.eq_iff_iff]; simp only [Bool.and_eq_true, decide_eq_true_eq, show (((m + 1 : Nat) : Int) - 1).toNat = m by omega, List.getElem?_eq_getElem hm, Option.some.injEq]
      exact ⟨fun h => (h.2 (by omega) h0).2 _ rfl, fun h => ⟨⟨by omega, fun h' => absurd h' hl⟩, fun _ _ => ⟨hci, fun y e => by rw [← e]; exact h⟩⟩⟩
     rw [this]
     simp only [h0, hci, GMb, GMc, HPa, HPc, HPd, HPe, HPz, Nat.reduceAdd, Nat.reduceLT, hw, hw2, Aw hm, Ai, Au, Bd]
    ·have : BS L i x c = false := by
      unfold BS
      rw [Bool.and_eq_false_iff]; right
      rw [decide_eq_false_iff_not]; intro h; exact hci (h (by omega) h0).1
     rw [this]
     simp only [h0, hci, GMb, GMc, HPa, HPc, HPd, HPe, HPz, Nat.reduceAdd, Nat.reduceLT]
   ·have : BS L i x c = false := by
     unfold BS
     rw [Bool.and_eq_false_iff, Bool.and_eq_false_iff]; left; left
     rw [decide_eq_false_iff_not]; omega
    rw [this]
    simp only [h0, GMb, GMc, HPa, HPc, HPd, HPe, HPz, Nat.reduceAdd, Nat.reduceLT]
theorem c05_loose (L : List Nd) (tk : Tok) (H : Ab) (hL : L.length < 1152921504606846976) : Sh.f1t (.sl (enL cNd L) tk) H = some (.ret (.bool (Ar L)), H) := by
 unfold Sh.f1t
 rw [show Ar L = (List.range L.length).all (D9 L) from rfl]
 simp only [GMb, GMc, HPa, HPc, HPd, HPe, HPz, Nat.reduceAdd, Nat.reduceLT, A2]
 have key : ∀ (d i : Nat) (G : Ab), i + d = L.length → (∀ j, j < i → D9 L j = true) → ∀ n, d < n → Ao (fun rec1 vs H1 => Sh.f12 H rec1 (ag vs 0) (ag vs 1) (ag vs 2) (ag vs 3) H1) n [.sl (enL cNd L) tk, .sl (enL cNd L) tk, .int .i64 (L.length : Int), .int .i64 (i : Int)] (H ++ G) = some (.ret (.bool ((List.range L.length).all (D9 L))), H) := by
  intro d
  induction d with
  | zero =>
   intro i G hi hall n hn
   obtain ⟨n, rfl⟩ : ∃ k, n = k + 1 := ⟨n - 1, by omega⟩
   have : (List.range L.length).all (D9 L) = true := by
    rw [List.all_eq_true]; intro j hj; exact hall j (by have := List.mem_range.1 hj; omega)
   rw [DV, this]
   generalize Ao (fun rec1 vs H1 => Sh.f12 H rec1 (ag vs 0) (ag vs 1) (ag vs 2) (ag vs 3) H1) n = rec
   unfold Sh.f12
   have hi' : ¬ (i : Int) < (L.length : Int) := by omega
   simp only [GMb, GMc, HPa, HPc, HPd, HPe, HPz, Nat.reduceAdd, Nat.reduceLT, hi']
  | succ d ih =>
   intro i G hi hall n hn
   obtain ⟨n, rfl⟩ : ∃ k, n = k + 1 := ⟨n - 1, by omega⟩
   have hlt : i < L.length := by omega
   have hi' : (i : Int) < (L.length : Int) := by omega
   rw [DV]
   have hno : D9 L i = false → (List.range L.length).all (D9 L) = false := fun h => by rw [List.all_eq_false]; exact ⟨i, by simpa using hlt, by simp [h]⟩
   have hyes : D9 L i = true → ∀ G', Ao (fun rec1 vs H1 => Sh.f12 H rec1 (ag vs 0) (ag vs 1) (ag vs 2) (ag vs 3) H1) n [.sl (enL cNd L) tk, .sl (enL cNd L) tk, .int .i64 (L.length : Int), .int .i64 ((i + 1 : Nat) : Int)] (H ++ G') = some (.ret (.bool ((List.range L.length).all (D9 L))), H) := fun h G' => ih (i + 1) G' (by omega) (fun j hj => by
    by_cases e : j = i
    ·rw [e]; exact h
    ·exact hall j (by omega)) n (by omega)
   generalize Ao (fun rec1 vs H1 => Sh.f12 H rec1 (ag vs 0) (ag vs 1) (ag vs 2) (ag vs 3) H1) n = rec at hyes
   unfold Sh.f12
   have hg : L[i]? = some L[i] := List.getElem?_eq_getElem hlt
   simp only [GMb, GMc, HPa, HPc, HPd, HPe, HPz, Nat.reduceAdd, Nat.reduceLT, Ay, hi', Aw hlt, Fw, Bd, CN, Ci, CL]
   by_cases h1 : L[i].lv < 1
   ·have : D9 L i = false := by simp only [D9, hg]; simp; intro; omega
    rw [hno this]
    simp only [h1, GMb, GMc, HPa, HPc, HPd, HPe, HPz, Nat.reduceAdd, Nat.reduceLT]
   ·by_cases h2 : L[i].lv > 1329
    ·have : D9 L i = false := by simp only [D9, hg]; simp; intro; omega
     rw [hno this]
     simp only [h1, h2, GMb, GMc, HPa, HPc, HPd, HPe, HPz, Nat.reduceAdd, Nat.reduceLT, Bd, CN, Ci, CL]
    ·have hd : D9 L i = (List.range 4).all fun k => BS L i L[i] (L[i].kid k) := by
      simp only [D9, hg]; rw [decide_eq_true (by omega)]; rfl
     simp only [h1, h2, GMb, GMc, HPa, HPc, HPd, HPe, HPz, Nat.reduceAdd, Nat.reduceLT, Bd, CN, Ci, CL]
     have := DB 4 (fun k => BS L i L[i] (L[i].kid k)) (fun k => [.sl (enL cNd L) tk, .int .i64 (i : Int), .sl (enL cNd L) tk, .int .i64 (L.length : Int), .int .i64 (i : Int), .agg (Gl L[i]), .int .i64 (k : Int)]) (H ++ (G ++ [.cel 0 (cNd L[i])])) (rec [.sl (enL cNd L) tk, .sl (enL cNd L) tk, .int .i64 (L.length : Int), .int .i64 ((i + 1 : Nat) : Int)] (H ++ (G ++ [.cel 0 (cNd L[i])]))) (some (.ret (.bool false), H)) (by decide) (fun rec2 k hk => ?_) (fun rec2 => ?_)
      (G := fun rec2 vs H1 => Sh.f38 H rec rec2 (ag vs 0) (ag vs 1) (ag vs 2) (ag vs 3) (ag vs 4) (ag vs 5) (ag vs 6) H1)
     ·refine this.trans ?_
      rw [← hd]
      cases hb : D9 L i with
      | true => simp only [if_true]; exact hyes hb _
      | false => simp only [Bool.false_eq_true, if_false]; rw [hno hb]
     ·have hk' : (k : Int) < 4 := by omega
      unfold Sh.f38
      simp only [GMb, GMc, HPa, HPc, HPd, HPe, HPz, Nat.reduceAdd, Nat.reduceLT, Ay, hk', ag_kid _ hk, c05_kid hlt (by omega) (by omega) (L[i].kid k) _ hL]
      cases BS L i L[i] (L[i].kid k) with
      | true => simp only [GMb, GMc, HPa, HPc, HPd, HPe, HPz, Nat.reduceAdd, Nat.reduceLT, Av (show k < 9223372036854775807 by omega), if_true]
      | false => simp only [GMb, GMc, HPa, HPc, HPd, HPe, HPz, Nat.reduceAdd, Nat.reduceLT, Bool.false_eq_true, if_false]
     ·unfold Sh.f38
      simp only [GMb, GMc, HPa, HPc, HPd, HPe, HPz, Nat.reduceAdd, Nat.reduceLT, Ay, show ¬ (((4 : Nat) : Int) < 4) from by decide, Av (show i < 9223372036854775807 by omega)]
 have := key L.length 0 [] (by omega) (fun j hj => by omega) AI (by rw [Dj]; exact hL)
 rw [List.append_nil] at this
 exact this
end Go.Gm
namespace Go.Gm
def N7 (F : List Bool) (x : Nd) (k : Nat) : Bool := !decide (x.kid k = 0) && (decide (x.lv = 1) || F.getD (x.kid k).toNat false)
def fulS (F : List Bool) (x : Nd) : Bool := (List.range 4).any (N7 F x)
theorem ful_emp {E : List Bool} {x : Nd} (h1 : 1 ≤ x.lv) (hE : ∀ k, k < 4 → 1 < x.lv → (x.kid k).toNat < E.length) : fulS (E.map (!·)) x = !K3 E x := by
 unfold fulS K3
 have each : ∀ k, k < 4 → N7 (E.map (!·)) x k = !(decide (x.kid k = 0) || (decide (1 < x.lv) && E.getD (x.kid k).toNat true)) := by
  intro k hk
  unfold N7
  by_cases hl : x.lv = 1
  ·have : ¬ 1 < x.lv := by omega
   simp [hl]
  ·have hl1 : 1 < x.lv := by omega
   have := hE k hk hl1
   simp [hl, hl1, List.getD_eq_getElem?_getD, List.getElem?_eq_getElem this]
 show ((N7 _ x 0 || (N7 _ x 1 || (N7 _ x 2 || (N7 _ x 3 || false))))) = !(_ && (_ && (_ && (_ && true))))
 rw [each 0 (by omega), each 1 (by omega), each 2 (by omega), each 3 (by omega)]
 simp only [Bool.not_and, Bool.not_true]
theorem c05_full1 {H : Ab} {pn po q m : Nat} {x : Nd} {F : List Bool} (hn : H[pn]? = some (.cel 0 (cNd x))) (ho : H[po]? = some (.cel 0 [.ms q 0 0 m m 1 true])) (hq : H[q]? = some (.cel 0 (flat cB F))) (hm : F.length = m) {k : Nat} (hk : k < 4) (h0 : 0 ≤ x.kid k) (hb : x.lv ≠ 1 → x.kid k ≠ 0 → (x.kid k).toNat < m) :
  Sh.f2j (.int .i64 (x.kid k)) (.ptr pn 0 0) (.ptr po 0 0) H = some (.ret (.bool (N7 F x k)), H) := by
 have l1 := DC hn
 have l2 := Bw (o := 0) (sz := 1) ho
 unfold Sh.f2j N7
 by_cases hc : x.kid k = 0
 ·simp only [hc, GMb, GMc, HPa, HPc, HPd, HPe, HPz, Nat.reduceAdd, Nat.reduceLT]
 ·by_cases hl : x.lv = 1
  ·simp only [hc, hl, l1, GMb, GMc, HPa, HPc, HPd, HPe, HPz, Nat.reduceAdd, Nat.reduceLT]
  ·have hlt := hb hl hc
   obtain ⟨c, hcc⟩ : ∃ c : Nat, x.kid k = (c : Int) := ⟨(x.kid k).toNat, by omega⟩
   rw [hcc, Int.toNat_natCast] at hlt
   have hi := Ek (sz := 1) (id := q) (g := 0) (off := 0) (n := m) (cap := m) (ex := true) (K := .i64) hlt
   have hld := HJ (f := cB) (l := F) (Ba hq) (show c < F.length by omega)
   simp only [Nat.zero_add, Nat.mul_one] at hi
   rw [hcc] at hc ⊢
   simp only [hc, hl, l1, l2, GMb, GMc, HPa, HPc, HPd, HPe, HPz, Nat.reduceAdd, Nat.reduceLT, hi, hld, Int.toNat_natCast, List.getD_eq_getElem?_getD, List.getElem?_eq_getElem (show c < F.length by omega), Option.getD_some, List.getElem?_cons_zero]
theorem c05_any {H : Ab} {pn po q m : Nat} {x : Nd} {F : List Bool} (hn : H[pn]? = some (.cel 0 (cNd x))) (ho : H[po]? = some (.cel 0 [.ms q 0 0 m m 1 true])) (hq : H[q]? = some (.cel 0 (flat cB F))) (hm : F.length = m) (h0 : ∀ k, k < 4 → 0 ≤ x.kid k) (hb : ∀ k, k < 4 → x.lv ≠ 1 → x.kid k ≠ 0 → (x.kid k).toNat < m) :
  Sh.f1v (.ms pn 0 1 4 4 1 true) (.fn 110 [.ptr pn 0 0, .ptr po 0 0]) H = some (.ret (.bool (fulS F x)), H) := by
 unfold Sh.f1v Sh.f2k
 simp only [GMb, GMc, len_ms, show ((4 : Nat) : Int) = 4 from rfl]
 have key := HH (G := fun rec1 vs H1 => Sh.f39 H rec1 (ag vs 0) (ag vs 1) (ag vs 2) (ag vs 3) H1) 4 (N7 F x) (fun k => [.ms pn 0 1 4 4 1 true, .fn 110 [.ptr pn 0 0, .ptr po 0 0], .int .i64 4, .int .i64 (k : Int)]) H (some (.ret (.int .i64 (-1)), H)) (fun k => some (.ret (.int .i64 (k : Int)), H)) (by decide) (fun rec k hk => ?_) (fun rec => ?_)
 ·rw [show (((0 : Nat) : Int)) = 0 from rfl] at key
  rw [key]
  cases hf : (List.range 4).find? (N7 F x) with
  | none =>
   have : fulS F x = false := by
    unfold fulS
    rw [List.any_eq_false]
    intro k hk
    exact List.find?_eq_none.1 hf k hk
   simp only [GMb, GMc, this, show decide ((-1 : Int) ≥ 0) = false from by decide]
  | some k =>
   have : fulS F x = true := by
    unfold fulS
    rw [List.any_eq_true]
    exact ⟨k, List.mem_of_find?_eq_some hf, List.find?_some hf⟩
   simp only [GMb, GMc, this, show decide ((k : Int) ≥ 0) = true from by simp]
 ·have hk' : (k : Int) < 4 := by omega
  have hi := Ek (sz := 1) (id := pn) (g := 0) (off := 1) (n := 4) (cap := 4) (ex := true) (K := .i64) hk
  have hld := KN hn hk
  have hfull := c05_full1 hn ho hq hm hk (h0 k hk) (hb k hk)
  simp only [Nat.mul_one] at hi
  unfold Sh.f39 B4
  simp only [GMb, GMc, Ay, hk', hi, hld, RM, ent, if_true, List.cons_append, List.nil_append, ap3, hfull]
  cases N7 F x k with
  | true => simp only [GMb, GMc, if_true]
  | false => simp only [GMb, GMc, Bool.false_eq_true, if_false, Av (show k < 9223372036854775807 by omega)]
 ·unfold Sh.f39
  simp only [GMb, GMc, Ay, show ¬ (((4 : Nat) : Int) < 4) from by decide]
theorem map_take_not (L : List Nd) (i : Nat) (hi : i < L.length) : ((Ap (L.take i)).map (!·) ++ List.replicate (L.length - i) false).set (i + 1) (!K3 (Ap (L.take i)) L[i]) = (Ap (L.take (i + 1))).map (!·) ++ List.replicate (L.length - (i + 1)) false := by
 have hl : ((Ap (L.take i)).map (!·)).length = i + 1 := by rw [List.length_map, BK, List.length_take]; omega
 rw [List.set_append_right _ _ (by omega), hl, Nat.sub_self, RB L hi, List.map_append, show L.length - i = (L.length - (i + 1)) + 1 by omega, List.replicate_succ, List.set_cons_zero, List.append_assoc]
 rfl
theorem c05_full (L : List Nd) (tk : Tok) (H : Ab) (hL : L.length < 140737488355327) (hl : Ar L = true) : Sh.fr (.sl (enL cNd L) tk) H = some (.ret (.sl (enL cB ((Ap L).map (!·))) .no), H) := by
 have hmk := F6 (f := cB) (a := false) (n := L.length + 1) (bytes := 1) (H := H) (by omega) (by omega)
 unfold Sh.fr
 simp only [A2, GMb, GMc, HPa, HPc, HPd, HPe, HPz, Nat.reduceAdd, Nat.reduceLT, Av (show L.length < 9223372036854775807 by omega), hmk]
 have key := Br (G := fun rec1 vs H1 => Sh.f4f H rec1 (ag vs 0) (ag vs 1) (ag vs 2) (ag vs 3) H1) (σ := Nat × Ab) (fun s => s.1 ≤ L.length)
  (fun s => [.ptr (H.length + 1) 0 0, .sl (enL cNd L) tk, .int .i64 (L.length : Int), .int .i64 (s.1 : Int)]) (fun s => H ++ (.cel 0 (flat cB ((Ap (L.take s.1)).map (!·) ++ List.replicate (L.length - s.1) false)) :: .cel 0 [.ms H.length 0 0 (L.length + 1) (L.length + 1) 1 true] :: s.2)) (fun s => L.length - s.1)
  (fun _ => some (.ret (.sl (enL cB ((Ap L).map (!·))) .no), H)) (fun s rec hs hrec => ?_) (0, []) (Nat.zero_le _) (by dsimp only; omega)
 ·rw [List.take_zero] at key
  have e : (Ap []).map (!·) ++ List.replicate (L.length - 0) false = List.replicate (L.length + 1) false := by simp [Ap, List.replicate_succ]
  rw [e] at key
  exact key
 ·obtain ⟨i, G⟩ := s
  dsimp only at hs hrec ⊢
  unfold Sh.f4f
  by_cases hi : i < L.length
  ·have hi' : (i : Int) < (L.length : Int) := by omega
   obtain ⟨l1, l2, l3⟩ := Ax hl hi
   have hElen : (Ap (L.take i)).length = i + 1 := by rw [BK, List.length_take]; omega
   have hFlen : ((Ap (L.take i)).map (!·) ++ List.replicate (L.length - i) false).length = L.length + 1 := by rw [List.length_append, List.length_map, hElen, List.length_replicate]; omega
   have hfs : fulS ((Ap (L.take i)).map (!·) ++ List.replicate (L.length - i) false) L[i] = !K3 (Ap (L.take i)) L[i] := by
    rw [← ful_emp l1 (fun k hk h1 => by
     obtain ⟨q1, q2, q3⟩ := l3 k hk
     rw [hElen]
     by_cases h0 : 0 < L[i].kid k
     ·have := (q3 h1 h0).1; omega
     ·omega)]
    unfold fulS N7
    congr 1
    funext k
    by_cases hlv : L[i].lv = 1
    ·simp [hlv]
    ·by_cases hk : k < 4
     ·obtain ⟨q1, q2, q3⟩ := l3 k hk
      have : (L[i].kid k).toNat < ((Ap (L.take i)).map (!·)).length := by
       rw [List.length_map, hElen]
       by_cases h0 : 0 < L[i].kid k
       ·have := (q3 (by omega) h0).1; omega
       ·omega
      rw [List.getD_eq_getElem?_getD, List.getElem?_append_left this, List.getD_eq_getElem?_getD]
     ·have e3 : L[i].kid k = L[i].kid 3 := by
       match k, hk with
       | 0, h => exact absurd (by decide) h
       | 1, h => exact absurd (by decide) h
       | 2, h => exact absurd (by decide) h
       | n + 3, _ => rfl
      obtain ⟨q1, q2, q3⟩ := l3 3 (by decide)
      rw [e3]
      have : (L[i].kid 3).toNat < ((Ap (L.take i)).map (!·)).length := by
       rw [List.length_map, hElen]
       by_cases h0 : 0 < L[i].kid 3
       ·have := (q3 (by omega) h0).1; omega
       ·omega
      rw [List.getD_eq_getElem?_getD, List.getElem?_append_left this, List.getD_eq_getElem?_getD]
   have hmt := map_take_not L i hi
   generalize hF : (Ap (L.take i)).map (!·) ++ List.replicate (L.length - i) false = F at *
   have any := c05_any (H := H ++ (.cel 0 (flat cB F) :: .cel 0 [.ms H.length 0 0 (L.length + 1) (L.length + 1) 1 true] :: (G ++ [.cel 0 (cNd L[i])]))) (pn := H.length + (G.length + 1 + 1)) (po := H.length + 1) (q := H.length) (m := L.length + 1) (x := L[i]) (F := F) (by simp) (by simp) (by simp) hFlen (fun k hk => (l3 k hk).1) (fun k hk h1 h0 => by
    obtain ⟨q1, q2, q3⟩ := l3 k hk
    have := (q3 (by omega) (by omega)).1; omega)
   have hsl : GG 4 1 (.ptr (H.length + (G.length + 1 + 1)) 0 1) none none = some (.ms (H.length + (G.length + 1 + 1)) 0 1 4 4 1 true) := by simp [GG, Bc]
   have hix := Ek (sz := 1) (id := H.length) (g := 0) (off := 0) (n := L.length + 1) (cap := L.length + 1) (ex := true) (K := .i64) (i := i + 1) (by omega)
   simp only [Nat.zero_add, Nat.mul_one] at hix
   have hst : ∀ G' t, Al 1 (.ptr H.length 0 (i + 1)) (.bool t) (H ++ (.cel 0 (flat cB F) :: G')) = some (H ++ (.cel 0 (flat cB (F.set (i + 1) t)) :: G')) := fun G' t => by
    rw [FD, KG rfl (by rw [show flat cB F = F.map Aa.bool from by
     clear hfs hmt any hF hFlen
     induction F with
     | nil => rfl
     | cons c l ih => rw [Cp, ih]; rfl]; simp; omega)]
    simp only [Option.map_some]
    congr 3
    have e : ∀ l : List Bool, flat cB l = l.map Aa.bool := fun l => by
     induction l with
     | nil => rfl
     | cons c l ih => rw [Cp, ih]; rfl
    rw [e, e, List.map_set]
   have next := hrec (i + 1, G ++ [.cel 0 (cNd L[i])]) hi (by dsimp only; omega)
   dsimp only at next
   rw [← hmt] at next
   simp only [GMb, GMc, HPa, HPc, HPd, HPe, HPz, Nat.reduceAdd, Nat.reduceLT, Bd, CN, Ci, CL, Ay, hi', Aw hi, Fw, hsl, any, Av (show i < 9223372036854775807 by omega), hix, hst, hfs]
   exact next
  ·have hi' : ¬ (i : Int) < (L.length : Int) := by omega
   have : i = L.length := by omega
   subst this
   rw [List.take_length, Nat.sub_self, List.replicate_zero, List.append_nil]
   have hfall := fall_ms (f := cB) (l := (Ap L).map (!·)) (H := H ++ (.cel 0 (flat cB ((Ap L).map (!·))) :: .cel 0 [.ms H.length 0 0 (L.length + 1) (L.length + 1) 1 true] :: G)) (id := H.length) (b := H.length) (d := 5) (cap := L.length + 1) (ex := true) (by simp) (Nat.le_refl _)
   rw [List.length_map, BK] at hfall
   simp only [GMb, GMc, HPa, HPc, HPd, HPe, HPz, Nat.reduceAdd, Nat.reduceLT, Ay, hi', hfall]
end Go.Gm
namespace Go.Gm
theorem ful_get (L : List Nd) {n : Nat} (hn : n < L.length + 1) : ((Ap L).map (!·)).getD n false = !(Ap L).getD n true := by
 have h : n < (Ap L).length := by rw [BK]; exact hn
 rw [List.getD_eq_getElem?_getD, List.getD_eq_getElem?_getD, List.getElem?_map, List.getElem?_eq_getElem h]; rfl
theorem ful_idx (L : List Nd) {n : Nat} (hn : n < L.length + 1) (H : Ab) (K : IntKind) : ∃ e, A4 1 (.sl (enL cB ((Ap L).map (!·))) .no) (.int K (n : Int)) = some e ∧ Ad false 1 e H = some (.bool (!(Ap L).getD n true)) := by
 have h : n < ((Ap L).map (!·)).length := by rw [List.length_map, BK]; exact hn
 refine ⟨_, Aw h, ?_⟩
 have e := ful_get L hn
 rw [List.getD_eq_getElem?_getD, List.getElem?_eq_getElem h] at e
 simp only [Au, List.getElem?_cons_zero]
 rw [← e]; rfl
theorem RN (L : List Nd) (tk : Tok) (n : Nat) (H : Ab) (hL : L.length < 140737488355327) (hl : Ar L = true) (hn : n ≤ L.length) : Sh.f1w (.sl (enL cNd L) tk) (.int .i64 (n : Int)) H = some (.ret (.bool ((Ap L).getD n true)), H) := by
 obtain ⟨e, h1, h2⟩ := ful_idx L (n := n) (by omega) H .i64
 unfold Sh.f1w
 simp only [GMb, GMc, HPa, HPc, HPd, HPe, HPz, Nat.reduceAdd, Nat.reduceLT, c05_full L tk H hL hl, h1, h2, Bool.not_not]
theorem c05_hollow (L : List Nd) (tk : Tok) (n : Nat) (H : Ab) (hL : L.length < 140737488355327) (hl : Ar L = true) (hn : n ≤ L.length) : Sh.f1x (.sl (enL cNd L) tk) (.int .i64 (n : Int)) H = some (.ret (.bool (Ck L n)), H) := by
 unfold Sh.f1x Ck
 cases n with
 | zero => simp only [GMb, GMc, HPa, HPc, HPd, HPe, HPz, Nat.reduceAdd, Nat.reduceLT, show ((0 : Nat) : Int) = 0 from rfl, ne_eq, not_true_eq_false]
 | succ n =>
  have hi : n < L.length := hn
  have e0 : ¬ ((n + 1 : Nat) : Int) = 0 := by omega
  obtain ⟨l1, l2, l3⟩ := Ax hl hi
  rw [BP rfl hi]
  generalize hx : L[n] = x at l1 l2 l3
  have hw : IntKind.i64.wrap (((n + 1 : Nat) : Int) - 1) = (n : Int) := by rw [A0] <;> omega
  simp only [GMb, GMc, HPa, HPc, HPd, HPe, HPz, Nat.reduceAdd, Nat.reduceLT, Bd, CN, Ci, CL, e0, hw, Aw hi, hx, Ai, Au]
  by_cases h2 : x.lv = 1
  ·have : ¬ 2 ≤ x.lv := by omega
   simp only [h2, GMb, GMc, HPa, HPc, HPd, HPe, HPz, Nat.reduceAdd, Nat.reduceLT, show ¬ (2 : Int) ≤ 1 from by decide]
  ·have h2' : 2 ≤ x.lv := by omega
   simp only [h2, h2', GMb, GMc, HPa, HPc, HPd, HPe, HPz, Nat.reduceAdd, Nat.reduceLT, c05_full L tk H hL hl, hw, Aw hi, hx, Ai, ld_kids, ne_eq, Nat.succ_ne_zero, not_false_eq_true]
   have key := DB (G := fun rec1 vs H1 => Sh.f3b H rec1 (ag vs 0) (ag vs 1) (ag vs 2) (ag vs 3) H1) 4 (fun k => decide (x.kid k = 0) || (List.range 4).all (M2 L (Ap L) x k))
    (fun k => [.sl (enL cNd L) tk, .sl (enL cB ((Ap L).map (!·))) .no, .agg (Gl x), .int .i64 (k : Int)]) H (some (.ret (.bool true), H)) (some (.ret (.bool false), H)) (by decide) (fun rec k hk => ?_) (fun rec => ?_)
   ·refine key.trans ?_
    rw [show hol L (Ap L) x = (List.range 4).all fun k => decide (x.kid k = 0) || (List.range 4).all (M2 L (Ap L) x k) from rfl]
    cases (List.range 4).all fun k => decide (x.kid k = 0) || (List.range 4).all (M2 L (Ap L) x k) <;> rfl
   ·have hk' : (k : Int) < 4 := by omega
    obtain ⟨q1, q2, q3⟩ := l3 k hk
    have hws : IntKind.i64.wrap ((k : Int) + 1) = ((k + 1 : Nat) : Int) := Av (by omega)
    unfold Sh.f3b
    simp only [GMb, GMc, Ay, hk', ag_kid _ hk]
    by_cases hc : x.kid k = 0
    ·simp only [hc, GMb, GMc, hws, if_true]
    ·obtain ⟨m, hm⟩ : ∃ m : Nat, x.kid k = ((m + 1 : Nat) : Int) := ⟨(x.kid k - 1).toNat, by omega⟩
     have h1 : 1 < x.lv := by omega
     obtain ⟨r1, r2⟩ := q3 h1 (by omega)
     have hml : m < L.length := by omega
     have hy := r2 L[m] (by rw [show (x.kid k - 1).toNat = m from by omega]; exact List.getElem?_eq_getElem hml)
     obtain ⟨y1, y2, y3⟩ := Ax hl hml
     have hp : M2 L (Ap L) x k = fun j => decide (j = 3 - k) || (if x.lv = 2 then decide (L[m].kid j = 0) else (Ap L).getD (L[m].kid j).toNat true) := by
      funext j; unfold M2; rw [BP hm hml]
     have hwm : IntKind.i64.wrap (((m + 1 : Nat) : Int) - 1) = (m : Int) := by rw [A0] <;> omega
     have hc' : ¬ ((m + 1 : Nat) : Int) = 0 := by omega
     rw [hm]
     simp only [hp, hc', GMb, GMc, hwm, Aw hml, Ai, Nat.zero_add, ld_kids]
     refine DB (G := fun rec2 vs H1 => Sh.f3a H rec rec2 (ag vs 0) (ag vs 1) (ag vs 2) (ag vs 3) (ag vs 4) (ag vs 5) (ag vs 6) (ag vs 7) H1) 4 _
      (fun j => [.sl (enL cNd L) tk, .sl (enL cB ((Ap L).map (!·))) .no, .int .i64 (k : Int), .int .i64 ((m + 1 : Nat) : Int), .agg (Gl x), .int .i64 (k : Int), .agg (Gl L[m]), .int .i64 (j : Int)]) H _ _ (by decide) (fun rec2 j hj => ?_) (fun rec2 => ?_)
     ·have hj' : (j : Int) < 4 := by omega
      have hw3 : IntKind.i64.wrap (3 - (k : Int)) = 3 - (k : Int) := A0 (by omega) (by omega)
      have hjs : IntKind.i64.wrap ((j : Int) + 1) = ((j + 1 : Nat) : Int) := Av (by omega)
      have hj3 : decide ((j : Int) = 3 - (k : Int)) = decide (j = 3 - k) := by rw [Bool.eq_iff_iff]; simp only [decide_eq_true_eq]; omega
      unfold Sh.f3a
      simp only [GMb, GMc, Ay, hj', ag_kid _ hj, hw3, hj3]
      by_cases hjk : j = 3 - k
      ·simp only [hjk, GMb, GMc, if_true]
       simp only [← hjk, hjs]
      ·by_cases hg : L[m].kid j = 0
       ·have : (if x.lv = 2 then decide (L[m].kid j = 0) else (Ap L).getD (L[m].kid j).toNat true) = true := by
         split
         ·simp [hg]
         ·rw [hg]; exact Cu L
        simp only [hjk, this, GMb, GMc, if_true]
        simp only [hg, hjs, GMb, GMc]
       ·by_cases hl1 : L[m].lv = 1
        ·have h22 : x.lv = 2 := by omega
         simp only [hjk, h22, GMb, GMc, hg, hwm, Aw hml, Ai, Au, Nat.zero_add, Bd, hl1, Bool.false_eq_true, if_true, if_false]
        ·have h22 : ¬ x.lv = 2 := by omega
         obtain ⟨s1, s2, s3⟩ := y3 j hj
         have hlt := (s3 (by omega) (by omega)).1
         obtain ⟨g, hgg⟩ : ∃ g : Nat, L[m].kid j = (g : Int) := ⟨(L[m].kid j).toNat, by omega⟩
         obtain ⟨e, f1, f2⟩ := ful_idx L (n := g) (by omega) H .i64
         rw [hgg] at hg
         simp only [hjk, h22, GMb, GMc, hgg, hg, hwm, Aw hml, Ai, Au, Nat.zero_add, Bd, hl1, if_false, f1, f2, Int.toNat_natCast]
         cases (Ap L).getD g true with
         | true => simp only [GMb, GMc, if_true, hjs]
         | false => simp only [GMb, GMc, Bool.false_eq_true, if_false]
     ·unfold Sh.f3a
      simp only [GMb, GMc, Ay, show ¬ (((4 : Nat) : Int) < 4) from by decide, hws]
   ·unfold Sh.f3b
    simp only [GMb, GMc, Ay, show ¬ (((4 : Nat) : Int) < 4) from by decide]
theorem c06_inner (L : List Nd) (tk : Tok) (n k : Nat) (H : Ab) (hL : L.length < 140737488355327) (hl : Ar L = true) (hn : n < L.length) (h2 : 2 ≤ L[n].lv) (hk : k < 4) :
  Sh.f1y (.sl (enL cNd L) tk) (.int .i64 ((n + 1 : Nat) : Int)) (.int .i64 (k : Int)) H = some (.ret (.int .i64 (Fy L L[n] k)), H) := by
 obtain ⟨l1, l2, l3⟩ := Ax hl hn
 obtain ⟨q1, q2, q3⟩ := l3 k hk
 have hw : IntKind.i64.wrap (((n + 1 : Nat) : Int) - 1) = (n : Int) := by rw [A0] <;> omega
 unfold Sh.f1y Fy
 simp only [GMb, GMc, hw, Aw hn, Ai, CB hk, Au, Nat.zero_add, Nat.mul_one, Cy hk]
 by_cases hc : L[n].kid k = 0
 ·simp only [hc, GMb, GMc, show ¬ ((0 : Int) > 0) from by decide, if_true]
 ·obtain ⟨m, hm⟩ : ∃ m : Nat, L[n].kid k = ((m + 1 : Nat) : Int) := ⟨(L[n].kid k - 1).toNat, by omega⟩
  obtain ⟨r1, r2⟩ := q3 (by omega) (by omega)
  have hml : m < L.length := by omega
  have hwm : IntKind.i64.wrap (((m + 1 : Nat) : Int) - 1) = (m : Int) := by rw [A0] <;> omega
  have hw3 : IntKind.i64.wrap (3 - (k : Int)) = ((3 - k : Nat) : Int) := by rw [A0] <;> omega
  have hgt : ((m + 1 : Nat) : Int) > 0 := by omega
  have hc' : ¬ ((m + 1 : Nat) : Int) = 0 := by omega
  simp only [BP (c := ((m + 1 : Nat) : Int)) rfl hml, hm, hgt, hc', GMb, GMc, hwm, hw3, Aw hml, Ai, Nat.zero_add, CB (show 3 - k < 4 by omega), Au, Nat.mul_one, Cy (show 3 - k < 4 by omega), if_false]
theorem c_clone (L : List Nd) (tk : Tok) (H : Ab) (hL : L.length < 3518437208883) : Sh.f1u (.sl (enL cNd L) tk) H = some (if L = [] then (.ret (.sl [] .tight), H) else (.ret (.sl (enL cNd L) (.own H.length)), H ++ [.tok L.length As 5])) := by
 have hb : AF 5 [] = some (.sl (enL cNd []) .tight) := rfl
 unfold Sh.f1u
 cases L with
 | nil =>
  have ha : AG As 5 40 (.sl (enL cNd []) .tight) (.sl (enL cNd []) tk) H = some (.sl (enL cNd []) .tight, H) := FT (by simp [BE, enL])
  have hn : nilA .eql (.sl (enL cNd []) tk) = some .ubool := rfl
  have hu : ∀ x : Out, Am .ubool x x = x := fun x => if_pos rfl
  simp only [hn, GMb, GMc, hb, ha]
  exact hu _
 | cons x l =>
  have ha : AG As 5 40 (.sl (enL cNd []) .tight) (.sl (enL cNd (x :: l)) tk) H = some (.sl (enL cNd (x :: l)) (.own H.length), H ++ [.tok (x :: l).length As 5]) := by
   have := Cv (f := cNd) (l := []) (m := x :: l) (ty := As) (bytes := 40) (tk := tk) (H := H) (by simp) (by simp only [List.length_nil]; omega) (by simp only [List.length_nil]; omega)
   simpa using this
  have hn : nilA .eql (.sl (enL cNd (x :: l)) tk) = some (.bool false) := rfl
  simp only [hn, GMb, GMc, hb, ha, reduceCtorEq, if_false]
end Go.Gm
namespace Go.Gm
theorem c06_shrink (L : List Nd) (tk : Tok) (n : Nat) (H : Ab) (hL : L.length < 3518437200000) (hl : Ar L = true) (hn : n ≤ L.length) :
  Sh.f1z (.sl (enL cNd L) tk) (.int .i64 (n : Int)) H = some (.ret (.tup [.sl (enL cNd (BT L n).1) .no, .int .i64 ((BT L n).2 : Int)]), H) := by
 unfold Sh.f1z
 rw [c_clone L tk H (by omega)]
 by_cases h0 : L = []
 ·subst h0
  have hn0 : n = 0 := by simpa using hn
  subst hn0
  have he := RN [] .tight 0 H (by simp) hl (Nat.le_refl _)
  have he0 : (Ap ([] : List Nd)).getD 0 true = true := rfl
  have hs : BT [] 0 = ([], 0) := rfl
  rw [show Aa.sl (enL cNd []) .tight = Aa.sl [] .tight from rfl, he0] at he
  rw [hs]
  have := rPN_self (H0 := H) (v := .tup [.sl [] .tight, .int .i64 0])
  simp only [GMb, GMc, HPa, HPc, HPd, HPe, HPz, Nat.reduceAdd, Nat.reduceLT, if_true, he, this]
  rfl
 ·simp only [GMb, GMc, h0, if_false, RN L _ n _ (show L.length < 140737488355327 by omega) hl hn]
  unfold BT
  cases hem : (Ap L).getD n true with
  | true => simp only [GMb, GMc, HPa, HPc, HPd, HPe, HPz, Nat.reduceAdd, Nat.reduceLT, if_true]; rfl
  | false =>
   simp only [GMb, GMc, HPa, HPc, HPd, HPe, HPz, Nat.reduceAdd, Nat.reduceLT, Bool.false_eq_true, if_false]
   have hlv : (Ak L n).lv ≤ 1329 := by
    cases n with
    | zero => exfalso; rw [Cu] at hem; cases hem
    | succ m => rw [A6 hn]; exact (Ax hl hn).2.1
   have key := Br (G := fun rec1 vs H1 => Sh.f4g H rec1 (ag vs 0) (ag vs 1) H1) (σ := List Nd × Nat × Ab) (fun s => Ar s.1 = true ∧ s.2.1 ≤ s.1.length ∧ s.1.length + (Ak s.1 s.2.1).lv.toNat < 3518437208883 ∧ s.1.length + (Ak s.1 s.2.1).lv.toNat < 3518437208883)
    (fun s => [.sl (enL cNd s.1) (.own H.length), .int .i64 (s.2.1 : Int)]) (fun s => H ++ .tok s.1.length As 5 :: s.2.2) (fun s => (Ak s.1 s.2.1).lv.toNat)
    (fun s => some (.ret (.tup [.sl (enL cNd (AU (Ak s.1 s.2.1).lv.toNat s.1 s.2.1).1) .no, .int .i64 ((AU (Ak s.1 s.2.1).lv.toNat s.1 s.2.1).2 : Int)]), H)) (fun s rec hs hrec => ?_) (L, n, []) ⟨hl, hn, by dsimp only; omega, by dsimp only; omega⟩ (by dsimp only; omega)
   ·exact key
   ·obtain ⟨M, i, G⟩ := s
    obtain ⟨hs1, hs2, hs3, hs4⟩ := hs
    simp only at hs1 hs2 hs3 hs4 hrec ⊢
    unfold Sh.f4g
    simp only [GMb, GMc, Ay, c05_hollow M _ i _ (show M.length < 140737488355327 by omega) hs1 hs2]
    cases hh : Ck M i with
    | false =>
     have : AU (Ak M i).lv.toNat M i = (M, i) := by
      cases (Ak M i).lv.toNat with
      | zero => rfl
      | succ f => simp [AU, hh]
     simp only [GMb, GMc, HPa, HPc, HPd, HPe, HPz, Nat.reduceAdd, Nat.reduceLT, this]
    | true =>
     obtain ⟨hi0, hlv2⟩ := GU hh
     obtain ⟨m, rfl⟩ : ∃ m, i = m + 1 := ⟨i - 1, by omega⟩
     have hm : m < M.length := hs2
     obtain ⟨l1, l2, l3⟩ := Ax hs1 hm
     have hx : Ak M ((m + 1 : Nat) : Int) = M[m] := A6 hm
     rw [hx] at hlv2 hs3 hrec ⊢
     have hwm : IntKind.i64.wrap (((m + 1 : Nat) : Int) - 1) = (m : Int) := by rw [A0] <;> omega
     have hwl : IntKind.i64.wrap (M[m].lv - 1) = M[m].lv - 1 := A0 (by omega) (by omega)
     have hsf : AU M[m].lv.toNat M (m + 1) = AU (M[m].lv - 1).toNat (M ++ [Bn M (m + 1)]) (M.length + 1) := by
      rw [show M[m].lv.toNat = (M[m].lv - 1).toNat + 1 from by omega]
      simp only [AU, hh, if_true]
     generalize hB : H ++ .tok M.length As 5 :: G = B
     simp only [GMb, GMc, Ai, Ah, Au, Nat.zero_add, Nat.add_zero, Nat.mul_one, Bd, hwm, Aw hm, hwl, build_lv, Fg, DT (A9 (B := B) (cs := cNd nd0)) rfl, BJ]
     refine BQ (G := fun rec2 vs H1 => Sh.f3c H rec rec2 (ag vs 0) (ag vs 1) (ag vs 2) (ag vs 3) H1) 4 (fun k => [.sl (enL cNd M) (.own H.length), .int .i64 ((m + 1 : Nat) : Int), .ptr B.length 0 0, .int .i64 (k : Int)]) (fun k => B ++ [.cel 0 (cNd (Rd (Fy M M[m]) ⟨M[m].lv - 1, 0, 0, 0, 0⟩ k))]) _ (by decide) (fun rec2 k hk => ?_) (fun rec2 => ?_)
     ·have hk' : (k : Int) < 4 := by omega
      unfold Sh.f3c
      have hinn := c06_inner M (.own H.length) m k (B ++ [.cel 0 (cNd (Rd (Fy M M[m]) ⟨M[m].lv - 1, 0, 0, 0, 0⟩ k))]) (by omega) hs1 hm hlv2 hk
      simp only [GMb, GMc, Ay, hk', hinn, Ah, Nat.zero_add, CM hk, Cw (A9 (B := B)) hk, BJ, Av (show k < 9223372036854775807 by omega)]
      rfl
     ·have hf : ¬ (((4 : Nat) : Int) < 4) := by decide
      have hel : (⟨M[m].lv - 1, Fy M M[m] 0, Fy M M[m] 1, Fy M M[m] 2, Fy M M[m] 3⟩ : Nd) = Bn M (m + 1) := by unfold Bn; rw [hx]
      unfold Sh.f3c
      rw [Rc]
      simp only [GMb, GMc, Ay, hf, CK (A9 (B := B)), FS]
      rw [← hB, List.append_assoc, List.cons_append, RR (by omega)]
      simp only [GMb, GMc, A2, List.length_append, List.length_singleton, hel]
      have hlv' : (Ak (M ++ [Bn M (m + 1)]) ((M.length + 1 : Nat) : Int)).lv = M[m].lv - 1 := by
       rw [A6 (by simp), show (M ++ [Bn M (m + 1)])[M.length]'(by simp) = Bn M (m + 1) from by simp]
       show (Ak M ((m + 1 : Nat) : Int)).lv - 1 = _
       rw [hx]
      have := hrec (M ++ [Bn M (m + 1)], M.length + 1, G ++ [.cel 0 (cNd (Bn M (m + 1)))]) ⟨GT hs1 hm hlv2, by simp, by dsimp only; rw [hlv']; simp; omega, by dsimp only; rw [hlv']; simp; omega⟩ (by dsimp only; rw [hlv']; omega)
      simp only [List.length_append, List.length_singleton] at this
      rw [this, hlv', hsf]
end Go.Gm
