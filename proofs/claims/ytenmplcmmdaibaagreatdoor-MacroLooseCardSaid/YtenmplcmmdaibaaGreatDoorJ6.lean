/- Texts of this proof, joined. -/
import Derived.Test.YtenmplcmmdaibaaGreatDoorJ4
import Derived.Test.YtenmplcmmdaibaaGreatDoorJ5
set_option linter.unusedVariables false
set_option linter.unusedSimpArgs false
namespace Go.Gm
theorem p_fine (bx N : Int) (H : Ab) : Sh.f1c (.agg [.int .i64 bx, .int .i64 N]) H = some (.ret (.bool (LX bx N)), H) := by
 unfold Sh.f1c Sh.f1b LX
 by_cases h1 : bx ≥ 0
 ·by_cases h2 : bx ≤ 1000
  ·by_cases h3 : N ≥ 0
   ·simp only [GMb, GMc, HPa, HPc, HPd, HPe, HPz, Nat.reduceAdd, Nat.reduceLT, h1, h2, h3]
   ·simp only [GMb, GMc, HPa, HPc, HPd, HPe, HPz, Nat.reduceAdd, Nat.reduceLT, h1, h2, h3]
  ·simp only [GMb, GMc, HPa, HPc, HPd, HPe, HPz, Nat.reduceAdd, Nat.reduceLT, h1, h2]
 ·simp only [GMb, GMc, HPa, HPc, HPd, HPe, HPz, Nat.reduceAdd, Nat.reduceLT, h1]
theorem OF (H : Ab) : Sh.fe H = some (.ret (.agg [.int .i64 1000, .int .i64 100000]), H) := by
 have hb : A5 (some [(.int .i64 0), (.int .i64 0)]) [(0, 1, (.int .i64 1000)), (1, 1, (.int .i64 100000))] = some (.agg [.int .i64 1000, .int .i64 100000]) := rfl
 unfold Sh.fe
 simp only [GMb, GMc, HPa, HPc, HPd, HPe, HPz, Nat.reduceAdd, Nat.reduceLT, hb]
def DR (lines : List (Nat × Int)) : Nat := match lines.getLast? with
 | some q => q.1
 | none => 0
def M5 : MSt := ⟨DM, [], []⟩
def Jz (b : List UInt8) (bx N : Int) : (List UInt8 × List Nd) × Int × Int :=
 if LX bx N then
  match GJ b N M5 with
  | ((some e, c), _) => (([], []), (c : Int), e.1)
  | ((none, _), st) =>
   if NT st.nodes (DR st.lines : Int) && decide ((CE st.nodes (DR st.lines)).length ≤ N) then ((st.law, CE st.nodes (DR st.lines)), 0, 0)
   else (([], []), (b.length : Int), 4)
 else (([], []), 0, 1)
def KR (r : (List UInt8 × List Nd) × Int × Int) : Aa := .tup [pat r.1.1 r.1.2, .int .i64 r.2.1, .int .i64 r.2.2]
theorem Li (rule : List UInt8) (L : List Nd) : pat rule L = .agg [.str rule, .sl (enL cNd L) .no] := rfl
theorem Pm (b : List UInt8) (N : Int) : ∀ k a st, a ≤ b.length → (Dl b N k a st).2.nodes.length ≤ st.nodes.length + 21 * (b.length - a) ∧ (Dl b N k a st).2.lines.length ≤ st.lines.length + (b.length - a)
 | 0, a, st, _ => ⟨Nat.le_add_right _ _, Nat.le_add_right _ _⟩
 | k + 1, a, st, h => by
  unfold Dl
  by_cases he : a = b.length
  ·rw [if_pos he]; exact ⟨Nat.le_add_right _ _, Nat.le_add_right _ _⟩
  ·rw [if_neg he]
   have hok := oneS_ok (show a < b.length by omega) N st
   generalize M4 b N a st = M at hok
   obtain ⟨⟨er, c⟩, st'⟩ := M
   obtain ⟨k1, k2, k3, k4⟩ := hok
   dsimp only at k1 k2 k3 k4 ⊢
   cases er with
   | some e => exact ⟨by dsimp only; omega, by dsimp only; omega⟩
   | none =>
    have := Pm b N k c st' k1
    have := k2 rfl
    dsimp only
    omega
theorem allS_cnt (b : List UInt8) (N : Int) (st : MSt) : (GJ b N st).2.nodes.length ≤ st.nodes.length + 21 * b.length ∧ (GJ b N st).2.lines.length ≤ st.lines.length + b.length := by
 unfold GJ
 have hM := Hn (Nat.zero_le b.length) Cs
 have e : (BA b 0 Cs []).2 = Ho b 0 Cs := rfl
 generalize BA b 0 Cs [] = M at e
 obtain ⟨er, c⟩ := M
 dsimp only at e
 subst e
 cases er with
 | some e => exact ⟨Nat.le_add_right _ _, Nat.le_add_right _ _⟩
 | none =>
  have hle := endS_le (anyN_le hM) []
  dsimp only
  generalize Hw b (FL b (Ho b 0 Cs)) [] = M at hle
  obtain ⟨er, d⟩ := M
  cases er with
  | some e => exact ⟨Nat.le_add_right _ _, Nat.le_add_right _ _⟩
  | none =>
   have := Pm b N (b.length + 1) d st hle.2
   dsimp only
   omega
theorem j1 {H K : Ab} {b : List UInt8} {c : Nat} {bx N : Int} {st : MSt} {v w : Aa} (hlim : K[H.length]? = some (.cel 0 [.int .i64 bx, .int .i64 N])) (hres : K[H.length + 1]? = some (.cel 0 [.str [], .sl [] .tight])) (hlx : K[H.length + 2]? = some (.cel 0 (.str b :: .int .i64 (c : Int) :: rdR bx N st.law v w)))
  (hrow : RS cNd Aq 5 H.length st.nodes v K) (hold : ∀ i, i < H.length → K[i]? = H[i]?) (hnd : st.nodes.length < 100000000000) :
  Sh.f4g H (.str b) (.ptr H.length 0 0) (.ptr (H.length + 1) 0 0) (.ptr (H.length + 2) 0 0) (.int .i64 (DR st.lines : Int)) K = some (.ret (KR (if NT st.nodes (DR st.lines : Int) && decide ((CE st.nodes (DR st.lines)).length ≤ N) then ((st.law, CE st.nodes (DR st.lines)), 0, 0) else (([], []), (b.length : Int), 4))), H) := by
 have b1 : A5 (some [(.str []), (.sl [] .tight)]) [] = some (.agg [.str [], .sl [] .tight]) := rfl
 have hl5 := Bv (o := 5) (sz := 1) hlx
 obtain ⟨tk, rfl⟩ := hrow.sl
 have hof := fun H => c06_of st.nodes tk (DR st.lines : Int) H (by omega)
 have hKl : H.length + 2 < K.length := (List.getElem?_eq_some_iff.1 hlx).1
 rw [Int.toNat_natCast] at hof
 have bad : ∀ L : List Nd, ((A5 (some [(.str []), (.sl [] .tight)]) []).bind fun x64 =>
 (Bx (.str b)).bind fun x65 =>
 bP H (AJ (Ak 2 (.ptr (H.length + 1) 0 0) x64 (K ++ [.cel 0 [.sl (enL cNd L) .no]]))) fun _ H67 =>
 (KG [Ad true 2 (.ptr (H.length + 1) 0 0) H67, some x65, some (.int .i64 4)]).bind fun x68 => rPN H x68 H67) = some (.ret (KR (([], []), (b.length : Int), 4)), H) := by
  intro L
  have hr' := By (G := [Blk.cel 0 [.sl (enL cNd L) .no]]) hres
  have hst := st_agg (sz := 2) (ws := [.str [], .sl [] .tight]) hr' rfl rfl rfl
  have hld := ld_agg (sz := 2) (H := (K ++ [Blk.cel 0 [.sl (enL cNd L) .no]]).set (H.length + 1) (.cel 0 [.str [], .sl [] .tight])) (p := H.length + 1) (cs := [.str [], .sl [] .tight]) (by rw [List.getElem?_set_self (by simp; omega)]) rfl
  have htk : ((K ++ [Blk.cel 0 [.sl (enL cNd L) .no]]).set (H.length + 1) (.cel 0 [.str [], .sl [] .tight])).take H.length = H := BN fun i hi => by rw [List.getElem?_set_ne (by omega), List.getElem?_append_left (by omega)]; exact hold i hi
  simp only [b1, GMb, GMc, HPa, HPc, HPd, HPe, HPz, Nat.reduceAdd, Nat.reduceLT, hst, hld, Fw htk, KR, Li]
  rfl
 unfold Sh.f4g
 simp only [GMb, GMc, HPa, HPc, HPd, HPe, HPz, Nat.reduceAdd, Nat.reduceLT, hl5, rdR, Cb, DI, hof]
 cases hok : NT st.nodes (DR st.lines : Int) with
 | false =>
  have := bad []
  simp only [GMb, GMc, HPa, HPc, HPd, HPe, HPz, Nat.reduceAdd, Nat.reduceLT, quad_eq, Bool.false_eq_true, if_false, show decide ((1 : Int) = 0) = false from by decide] at this ⊢
  exact this
 | true =>
  generalize CE st.nodes (DR st.lines) = Q
  have hlim' := Bv (o := 1) (sz := 1) (By (G := [Blk.cel 0 [.sl (enL cNd Q) .no]]) hlim)
  simp only [GMb, GMc, HPa, HPc, HPd, HPe, HPz, Nat.reduceAdd, Nat.reduceLT, quad_eq, if_true, A2, hlim', Cb, DI]
  by_cases hlen : (Q.length : Int) ≤ N
  ·have hgt : ¬ (Q.length : Int) > N := by omega
   have hr' := By (G := [Blk.cel 0 [.sl (enL cNd Q) .no]]) hres
   have hst := st_agg (sz := 2) (ws := [.str st.law, .sl (enL cNd Q) .no]) hr' rfl rfl rfl
   have hld := ld_agg (sz := 2) (H := (K ++ [Blk.cel 0 [.sl (enL cNd Q) .no]]).set (H.length + 1) (.cel 0 [.str st.law, .sl (enL cNd Q) .no])) (p := H.length + 1) (cs := [.str st.law, .sl (enL cNd Q) .no]) (by rw [List.getElem?_set_self (by simp; omega)]) rfl
   have htk : ((K ++ [Blk.cel 0 [.sl (enL cNd Q) .no]]).set (H.length + 1) (.cel 0 [.str st.law, .sl (enL cNd Q) .no])).take H.length = H := BN fun i hi => by rw [List.getElem?_set_ne (by omega), List.getElem?_append_left (by omega)]; exact hold i hi
   have hl4 := Bv (o := 4) (sz := 1) (By (G := [Blk.cel 0 [.sl (enL cNd Q) .no]]) hlx)
   have hbd : A5 (some [(.str []), (.sl [] .tight)]) [(0, 1, .str st.law), (1, 1, .agg [.sl (enL cNd Q) .no])] = some (.agg [.str st.law, .sl (enL cNd Q) .no]) := rfl
   simp only [hgt, hlen, GMb, GMc, HPa, HPc, HPd, HPe, HPz, Nat.reduceAdd, Nat.reduceLT, hl4, rdR, Cb, DI, hbd, hst, hld, Fw htk, KR, Li, if_true]
  ·have hgt : (Q.length : Int) > N := by omega
   have := bad Q
   simp only [hgt, hlen, GMb, GMc, HPa, HPc, HPd, HPe, HPz, Nat.reduceAdd, Nat.reduceLT, Bool.false_eq_true, if_false] at this ⊢
   exact this
theorem Cg (b : List UInt8) (bx N : Int) (H : Ab) (hb : b.length < 100000000) : Sh.fh (.str b) (.agg [.int .i64 bx, .int .i64 N]) H = some (.ret (KR (Jz b bx N)), H) := by
 have b1 : A5 (some [(.str []), (.sl [] .tight)]) [] = some (.agg [.str [], .sl [] .tight]) := rfl
 have b2 : ∀ s, A5 (some [(.str []), (.int .i64 0)]) [(0, 1, .str s)] = some (.agg [.str s, .int .i64 0]) := fun _ => rfl
 have b3 : ∀ s, A5 (some [(.str []), (.int .i64 0), (.int .i64 0), (.int .i64 0), (.str []), (.sl [] .tight), (.sl [] .tight)]) [(0, 2, .agg [.str s, .int .i64 0]), (2, 2, .agg [.int .i64 bx, .int .i64 N]), (4, 1, (.str [66, 51, 47, 83, 50, 51]))] = some (.agg [.str s, .int .i64 0, .int .i64 bx, .int .i64 N, .str DM, .sl [] .tight, .sl [] .tight]) := fun _ => rfl
 unfold Sh.fh Jz
 simp only [GMb, GMc, HPa, HPc, HPd, HPe, HPz, Nat.reduceAdd, Nat.reduceLT, p_fine]
 cases hf : LX bx N with
 | false =>
  simp only [GMb, GMc, HPa, HPc, HPd, HPe, HPz, Nat.reduceAdd, Nat.reduceLT, b1, Bool.false_eq_true, if_false, KR, Li]
  rfl
 | true =>
  simp only [GMb, GMc, HPa, HPc, HPd, HPe, HPz, Nat.reduceAdd, Nat.reduceLT, b2, b3, if_true]
  obtain ⟨F, hF⟩ : ∃ F : Ab, F = H ++ [.cel 0 [.int .i64 bx, .int .i64 N], .cel 0 [.str [], .sl [] .tight], .cel 0 [.str b, .int .i64 0, .int .i64 bx, .int .i64 N, .str DM, .sl [] .tight, .sl [] .tight]] := ⟨_, rfl⟩
  have hR : RD H.length (H.length + 2) b 0 bx N M5 F := ⟨.sl [] .tight, .sl [] .tight, by omega, by unfold Lx; rw [hF]; simp [rdR, M5], .inl ⟨rfl, rfl⟩, .inl ⟨rfl, rfl⟩⟩
  obtain ⟨H1, c1, c2, c3⟩ := Q2 hR (by omega) rfl rfl
  rw [hF] at c1
  have hlim : H1[H.length]? = some (.cel 0 [.int .i64 bx, .int .i64 N]) := c2.cel _ _ (by omega) (by rw [hF]; simp)
  have hres : H1[H.length + 1]? = some (.cel 0 [.str [], .sl [] .tight]) := c2.cel _ _ (by omega) (by rw [hF]; simp)
  have hold : ∀ i, i < H.length → H1[i]? = H[i]? := fun i hi => by rw [c2.old i hi, hF, List.getElem?_append_left hi]
  simp only [c1, GMb, GMc]
  have hpos := allS_er b N M5
  have hcnt := allS_cnt b N M5
  generalize GJ b N M5 = A at c3 hpos hcnt
  obtain ⟨⟨er, c⟩, st⟩ := A
  dsimp only at c3 ⊢
  obtain ⟨v, w, c3⟩ := c3
  have hl1 := (List.getElem?_eq_some_iff.1 hres).1
  cases er with
  | some e =>
   have hpe := hpos e rfl
   have hres' := By (G := [Blk.cel 0 [.int .i64 e.1, .str e.2]]) hres
   have hst := st_agg (sz := 2) (ws := [.str [], .sl [] .tight]) hres' rfl rfl rfl
   have hset : (H1 ++ [Blk.cel 0 [.int .i64 e.1, .str e.2]]).set (H.length + 1) (.cel 0 [.str [], .sl [] .tight]) = H1 ++ [Blk.cel 0 [.int .i64 e.1, .str e.2]] := by
    apply List.ext_getElem?
    intro i
    by_cases hi : H.length + 1 = i
    ·subst hi
     rw [List.getElem?_set_self (by simp; omega), hres']
    ·rw [List.getElem?_set_ne hi]
   rw [hset] at hst
   have hld := ld_agg (sz := 2) hres' rfl
   have hat := Bv (o := 1) (sz := 1) (By (G := [Blk.cel 0 [.int .i64 e.1, .str e.2]]) c3.lx)
   have htk : (H1 ++ [Blk.cel 0 [.int .i64 e.1, .str e.2]]).take H.length = H := BN fun i hi => by rw [List.getElem?_append_left (by omega)]; exact hold i hi
   by_cases he : e.1 = 0
   ·exact absurd he (by omega)
   ·have hne : (!decide (e.1 = 0)) = true := by simp [he]
    simp only [QH, GMb, GMc, HPa, HPc, HPd, HPe, HPz, Nat.reduceAdd, Nat.reduceLT, hne, b1, hst, hat, Cb, DI, hld, Fw htk, KR, Li]
    rfl
  | none =>
   have hnd : st.nodes.length < 100000000000 := by have := hcnt.1; dsimp only [M5] at this; simp only [List.length_nil] at this; omega
   have hln : st.lines.length < 100000000000 := by have := hcnt.2; dsimp only [M5] at this; simp only [List.length_nil] at this; omega
   have hlines := c3.lines
   have hld6 := Bv (o := 6) (sz := 1) (By (G := [Blk.cel 0 [.int .i64 0, .str []]]) c3.lx)
   have hroot := j1 (H := H) (b := b) (c := c) (bx := bx) (N := N) (st := st) (v := v) (w := w) (K := H1 ++ [Blk.cel 0 [.int .i64 0, .str []]]) (By hlim) (By hres) (By c3.lx) (c3.nodes.left _) (fun i hi => by rw [List.getElem?_append_left (by omega)]; exact hold i hi) hnd
   simp only [QH, GMb, GMc, HPa, HPc, HPd, HPe, HPz, Nat.reduceAdd, Nat.reduceLT, hld6, rdR, Cb, DI, hlines.len]
   by_cases hl0 : 0 < st.lines.length
   ·have hl0' : (st.lines.length : Int) > 0 := by omega
    have hlt : st.lines.length - 1 < st.lines.length := by omega
    have hw : IntKind.i64.wrap ((st.lines.length : Int) - 1) = ((st.lines.length - 1 : Nat) : Int) := Db (by omega) (by have := hln; omega)
    have hr : DR st.lines = st.lines[st.lines.length - 1].1 := by
     unfold DR
     rw [List.getLast?_eq_getElem?, List.getElem?_eq_getElem hlt]
    simp only [hl0', GMb, GMc, HPa, HPc, HPd, HPe, HPz, Nat.reduceAdd, Nat.reduceLT, hld6, rdR, Cb, DI, hlines.len, hw, hlines.idx hlt, Ah, As, lnC]
    rw [← hr]
    exact hroot
   ·have hl0' : ¬ (st.lines.length : Int) > 0 := by omega
    have hr : DR st.lines = 0 := by
     unfold DR
     rw [List.getLast?_eq_getElem?, List.getElem?_eq_none (by omega)]
    simp only [hl0', GMb, GMc]
    rw [hr] at hroot ⊢
    exact hroot
def hintR (b : List UInt8) : List UInt8 × Bool := match (GJ b 100000 ⟨[], [], []⟩).1.1 with
 | none => ([], true)
 | some e => (e.2, decide (e.1 = 0) || decide (e.1 = 3))
theorem LG (b : List UInt8) (H : Ab) (hb : b.length < 100000000) : Sh.fl (.str b) H = some (.ret (.tup [.str (hintR b).1, .bool (hintR b).2]), H) := by
 have b2 : ∀ s, A5 (some [(.str []), (.int .i64 0)]) [(0, 1, .str s)] = some (.agg [.str s, .int .i64 0]) := fun _ => rfl
 have b4 : A5 (some [(.int .i64 0), (.int .i64 0)]) [(0, 1, (.int .i64 1000)), (1, 1, (.int .i64 100000))] = some (.agg [.int .i64 1000, .int .i64 100000]) := rfl
 have b3 : ∀ s, A5 (some [(.str []), (.int .i64 0), (.int .i64 0), (.int .i64 0), (.str []), (.sl [] .tight), (.sl [] .tight)]) [(0, 2, .agg [.str s, .int .i64 0]), (2, 2, .agg [.int .i64 1000, .int .i64 100000])] = some (.agg [.str s, .int .i64 0, .int .i64 1000, .int .i64 100000, .str [], .sl [] .tight, .sl [] .tight]) := fun _ => rfl
 unfold Sh.fl hintR
 simp only [GMb, GMc, HPa, HPc, HPd, HPe, HPz, Nat.reduceAdd, Nat.reduceLT, b2, b3, b4]
 obtain ⟨F, hF⟩ : ∃ F : Ab, F = H ++ [.cel 0 [.str b, .int .i64 0, .int .i64 1000, .int .i64 100000, .str [], .sl [] .tight, .sl [] .tight]] := ⟨_, rfl⟩
 have hR : RD H.length H.length b 0 1000 100000 ⟨[], [], []⟩ F := ⟨.sl [] .tight, .sl [] .tight, Nat.le_refl _, by unfold Lx; rw [hF]; simp [rdR], .inl ⟨rfl, rfl⟩, .inl ⟨rfl, rfl⟩⟩
 obtain ⟨H1, c1, c2, c3⟩ := Q2 hR (by omega) rfl rfl
 rw [hF] at c1
 have hlen : H.length ≤ H1.length := by have := c2.len; rw [hF] at this; simp at this; omega
 have hold : ∀ i, i < H.length → H1[i]? = H[i]? := fun i hi => by rw [c2.old i hi, hF, List.getElem?_append_left hi]
 have htk : ∀ G, (H1 ++ G).take H.length = H := fun G => BN fun i hi => by rw [List.getElem?_append_left (by omega)]; exact hold i hi
 simp only [c1, GMb, GMc]
 cases (GJ b 100000 ⟨[], [], []⟩).1.1 with
 | none =>
  simp only [QH, GMb, GMc, HPa, HPc, HPd, HPe, HPz, Nat.reduceAdd, Nat.reduceLT]
  exact Fl rfl (htk _)
 | some e =>
  by_cases h0 : e.1 = 0
  ·simp only [QH, GMb, GMc, HPa, HPc, HPd, HPe, HPz, Nat.reduceAdd, Nat.reduceLT, h0]
   exact Fl rfl (htk _)
  ·simp only [QH, GMb, GMc, HPa, HPc, HPd, HPe, HPz, Nat.reduceAdd, Nat.reduceLT, h0]
   exact Fl rfl (htk _)
end Go.Gm
namespace Go.Gm
def finR (b : List UInt8) (N : Int) (A : (Er × Nat) × MSt) : (List UInt8 × List Nd) × Int × Int :=
 match A with
 | ((some e, c), _) => (([], []), (c : Int), e.1)
 | ((none, _), st) =>
  if NT st.nodes (DR st.lines : Int) && decide ((CE st.nodes (DR st.lines)).length ≤ N) then ((st.law, CE st.nodes (DR st.lines)), 0, 0)
  else (([], []), (b.length : Int), 4)
theorem readR_eq (b : List UInt8) (bx N : Int) : Jz b bx N = if LX bx N then finR b N (GJ b N M5) else (([], []), 0, 1) := rfl
structure RI (H : Ab) (b : List UInt8) (bx N : Int) (er : Er) (c : Nat) (st : MSt) (v1 v2 v3 : Aa) (K : Ab) : Prop where
 lim : K[H.length]? = some (.cel 0 [.int .i64 bx, .int .i64 N])
 res : K[H.length + 1]? = some (.cel 0 [.str [], .sl [] .tight])
 cur : K[H.length + 2]? = some (.cel 0 [.str b, .int .i64 (c : Int), .int .i64 (codeR er)])
 stt : K[H.length + 3]? = some (.cel 0 (sttC st.law v1 v2 v3))
 old : ∀ i, i < H.length → K[i]? = H[i]?
 sr : SR H.length st v1 v2 v3 K
section
variable {H : Ab} {b : List UInt8} {bx N : Int} {er : Er} {c : Nat} {st : MSt} {v1 v2 v3 : Aa} {K : Ab}
theorem RI.len (h : RI H b bx N er c st v1 v2 v3 K) : H.length + 3 < K.length := (List.getElem?_eq_some_iff.1 h.stt).1
theorem RI.ble (h : RI H b bx N er c st v1 v2 v3 K) : H.length ≤ K.length := by have := h.len; omega
theorem RI.go (h : RI H b bx N er c st v1 v2 v3 K) {K' : Ab} (hk : Kp H.length K K') {er' : Er} {c' : Nat} {st' : MSt} {w1 w2 w3 : Aa} (hs : SR H.length st' w1 w2 w3 K') :
  RI H b bx N er' c' st' w1 w2 w3 ((K'.set (H.length + 2) (.cel 0 [.str b, .int .i64 (c' : Int), .int .i64 (codeR er')])).set (H.length + 3) (.cel 0 (sttC st'.law w1 w2 w3))) := by
 have hl := h.len
 have := hk.len
 have k2 := hk.cel _ _ h.cur
 have k3 := hk.cel _ _ h.stt
 have k3' : (K'.set (H.length + 2) (.cel 0 [.str b, .int .i64 (c' : Int), .int .i64 (codeR er')]))[H.length + 3]? = some (.cel 0 (sttC st.law v1 v2 v3)) := by rw [List.getElem?_set_ne (by omega)]; exact k3
 refine ⟨?_, ?_, ?_, ?_, fun i hi => ?_, (hs.put k2).put k3'⟩
 ·rw [List.getElem?_set_ne (by omega), List.getElem?_set_ne (by omega)]; exact hk.cel _ _ h.lim
 ·rw [List.getElem?_set_ne (by omega), List.getElem?_set_ne (by omega)]; exact hk.cel _ _ h.res
 ·rw [List.getElem?_set_ne (by omega), List.getElem?_set_self (by omega)]
 ·rw [List.getElem?_set_self (by rw [List.length_set]; omega)]
 ·rw [List.getElem?_set_ne (by omega), List.getElem?_set_ne (by omega), hk.old i hi]; exact h.old i hi
end
end Go.Gm
namespace Go.Gm
def hdS (b : List UInt8) : Er × Nat := match BA b 0 Cs [] with
 | (some e, c) => (some e, c)
 | (none, c) => Hw b (FL b c) []
theorem Rh (b : List UInt8) (N : Int) (st : MSt) : GJ b N st = match hdS b with
 | (some e, c) => ((some e, c), st)
 | (none, d) => Dl b N (b.length + 1) d st := by
 unfold GJ hdS
 generalize BA b 0 Cs [] = M
 obtain ⟨er, c⟩ := M
 cases er with
 | some e => rfl
 | none =>
  dsimp only
  generalize Hw b (FL b c) [] = E
  obtain ⟨er, d⟩ := E
  cases er <;> rfl
end Go.Gm
namespace Go.Gm
end Go.Gm
namespace Go.Gm
end Go.Gm
namespace Go.Gm
end Go.Gm
namespace Go.Gm
theorem qright_loose {L : List Nd} (h : DT L = true) : Az L = true := by
 simp only [DT, Bool.or_eq_true, decide_eq_true_eq, Bool.and_eq_true] at h
 rcases h with h | h
 ·subst h; rfl
 ·exact h.1.1.1
end Go.Gm
namespace Go.Gm
end Go.Gm
namespace Go.Gm
end Go.Gm
namespace Go.Gm
end Go.Gm
namespace Go.Gm
end Go.Gm
namespace Go.Gm
theorem sb_lt10 {z : Int} {k m : Nat} (h : SB k z) (hk : 10 * k ≤ m) : z.natAbs < 10 ^ m := Nat.lt_of_lt_of_le h (pow10_le hk)
theorem Mw {z : Int} (h : SB 44 z) : z.natAbs < 10 ^ 4096 ∧ (Gh z).length ≤ 5000 := by
 have h1 : z.natAbs < 10 ^ 4096 := sb_lt10 (m := 4096) h (by decide)
 refine ⟨h1, ?_⟩
 have := Na 4096 z.natAbs h1
 simp only [show ¬ ((4096 : Nat) = 0) by decide, if_false] at this
 unfold Gh
 split
 ·simp; omega
 ·omega
end Go.Gm
namespace Go.Gm
end Go.Gm
namespace Go.Gm
end Go.Gm
namespace Go.Gm
end Go.Gm
namespace Go.Gm
end Go.Gm
namespace Go.Gm
theorem Nz {ι : Type} {G : ι → LK → LK} {σ : Type} (I : σ → List Aa → Ab → Prop) (μ : σ → Nat) (done : σ → Prop)
  (turn : ∀ (s : σ) (vs : List Aa) (H : Ab), I s vs H → ¬ done s → ∃ s' vs' H', μ s' < μ s ∧ I s' vs' H' ∧ ∀ (i : ι) (rec : LK), G i rec vs H = rec vs' H')
  {s : σ} {vs : List Aa} {H : Ab} (h0 : I s vs H) (hm : μ s < 1152921504606846976) : ∃ s' vs' H', done s' ∧ I s' vs' H' ∧ ∀ i, ∃ rec, Ao (G i) AI vs H = G i rec vs' H' := by
 have key : ∀ (n : Nat) (s : σ) (vs : List Aa) (H : Ab), μ s < n → I s vs H → ∃ s' vs' H', done s' ∧ I s' vs' H' ∧ ∀ i, ∃ rec, Ao (G i) n vs H = G i rec vs' H' := by
  intro n
  induction n with
  | zero => intro s vs H hn _; omega
  | succ n ih =>
   intro s vs H hn hI
   by_cases hd : done s
   ·exact ⟨s, vs, H, hd, hI, fun i => ⟨Ao (G i) n, DF n vs H⟩⟩
   ·obtain ⟨s1, vs1, H1, h1, h2, h3⟩ := turn s vs H hI hd
    obtain ⟨s2, vs2, H2, h4, h5, h6⟩ := ih s1 vs1 H1 (by omega) h2
    exact ⟨s2, vs2, H2, h4, h5, fun i => (h6 i).imp fun rec h7 => by rw [DF, h3, h7]⟩
 exact key AI s vs H (by rw [CT]; exact hm) h0
theorem loop_while {G : LK → LK} {σ : Type} (I : σ → List Aa → Ab → Prop) (μ : σ → Nat) (done : σ → Prop)
  (turn : ∀ (s : σ) (vs : List Aa) (H : Ab), I s vs H → ¬ done s → ∃ s' vs' H', μ s' < μ s ∧ I s' vs' H' ∧ ∀ rec : LK, G rec vs H = rec vs' H')
  {s : σ} {vs : List Aa} {H : Ab} (h0 : I s vs H) (hm : μ s < 1152921504606846976) : ∃ s' vs' H', done s' ∧ I s' vs' H' ∧ ∃ rec, Ao G AI vs H = G rec vs' H' := by
 obtain ⟨s', vs', H', h1, h2, h3⟩ := Nz (G := fun (_ : Unit) => G) I μ done (fun s vs H hI hd => by
  obtain ⟨s1, vs1, H1, h1, h2, h3⟩ := turn s vs H hI hd
  exact ⟨s1, vs1, H1, h1, h2, fun _ => h3⟩) h0 hm
 exact ⟨s', vs', H', h1, h2, h3 ()⟩
theorem Kp.get {b p : Nat} {H H' : Ab} {cs : List Aa} (h : Kp b H H') (hp : H[p]? = some (.cel 0 cs)) : H'[p]? = some (.cel 0 cs) := h.cel p cs hp
end Go.Gm
namespace Go.Gm
end Go.Gm
namespace Go.Gm
end Go.Gm
namespace Go.Gm
end Go.Gm
namespace Go.Gm
theorem RS.app {α : Type} {f : α → List Aa} {ty : TypeId} {sz : Nat} [hf : Sz f sz] {bytes b : Nat} {out : List α} {v : Aa} {H : Ab} (h : RS f ty sz b out v H) (hb : b ≤ H.length) (m : List α) (tk : Tok) (hl : (out.length + m.length) * bytes ≤ 140737488355328) (hl2 : out.length + m.length ≤ 140737488355328) :
  ∃ v' H', AE ty sz bytes v (.sl (enL f m) tk) H = some (v', H') ∧ RS f ty sz b (out ++ m) v' H' ∧ Kp b H H' := by
 by_cases hm : m = []
 ·subst hm
  have hx : (B9 sz v H).isSome = true := by
   obtain ⟨tk', rfl⟩ := h.sl
   rw [elems_sl]; rfl
  refine ⟨v, H, FA hx, by rw [List.append_nil]; exact h, Kp.refl _ _⟩
 ·rcases h with ⟨rfl, rfl⟩ | ⟨t, h1, rfl, h3⟩
  ·have := Cj (f := f) (l := []) (m := m) (ty := ty) (bytes := bytes) (tk := tk) (H := H) hm (by simpa using hl) (by simpa using hl2)
   exact ⟨_, _, this, .inr ⟨H.length, hb, rfl, by simp⟩, Kp.app hb _⟩
  ·have := DA (f := f) (l := out) (m := m) (ty := ty) (bytes := bytes) (tk := tk) (H := H) (t := t) hm h3 hl hl2
   have htl := (List.getElem?_eq_some_iff.1 h3).1
   refine ⟨_, _, this, .inr ⟨t, h1, rfl, by simp [htl]⟩, ⟨by simp, fun i cs hc => ?_, fun i hi => ?_⟩⟩
   ·have : t ≠ i := fun e => by rw [← e, h3] at hc; cases hc
    rw [List.getElem?_set_ne this]; exact hc
   ·rw [List.getElem?_set_ne (by omega)]
end Go.Gm
namespace Go.Gm
end Go.Gm
namespace Go.Gm
end Go.Gm
namespace Go.Gm
def ndL (v : Int) : Nd := ⟨v, 0, 0, 0, 0⟩
def EH (o : Nd) (l : List Nd) : Nat → List Nd × Nd
 | 0 => (l, ndL (o.lv + 1))
 | k + 1 => if o.kid k = 0 then EH o l k else ((EH o l k).1 ++ [(ndL o.lv).setKid (3 - k) (o.kid k)], (EH o l k).2.setKid k (((EH o l k).1.length + 1 : Nat) : Int))
def BV (l : List Nd) : List Nd := (EH (At l l.length) l 4).1 ++ [(EH (At l l.length) l 4).2]
def F2 (level : Int) : Nat → List Nd → List Nd
 | 0, l => l
 | d + 1, l => if (At l l.length).lv < level then F2 level d (BV l) else l
def EW (L : List Nd) (level : Int) : List Nd := if level > 1329 ∨ L = [] then L else F2 level 1400 L
theorem ndL_kid (v : Int) {k : Nat} (hk : k < 4) : (ndL v).kid k = 0 := by
 match k, hk with
 | 0, _ => rfl
 | 1, _ => rfl
 | 2, _ => rfl
 | 3, _ => rfl
theorem ndOk_mk {L : List Nd} {x : Nd} (h1 : 1 ≤ x.lv) (h2 : x.lv ≤ 1329) (h : ∀ k, k < 4 → 0 ≤ x.kid k ∧ (x.lv = 1 → x.kid k ≤ 255) ∧ (1 < x.lv → 0 < x.kid k → x.kid k ≤ L.length ∧ ∀ y, L[(x.kid k - 1).toNat]? = some y → y.lv = x.lv - 1)) : Dp (L ++ [x]) L.length = true := by
 have e : (L ++ [x])[L.length]? = some x := by simp
 unfold Dp
 rw [e]
 simp only [Bool.and_eq_true, decide_eq_true_eq, List.all_eq_true, List.mem_range]
 refine ⟨⟨h1, h2⟩, fun k hk => ?_⟩
 obtain ⟨q1, q2, q3⟩ := h k hk
 simp only [BH, Bool.and_eq_true, decide_eq_true_eq]
 refine ⟨⟨q1, q2⟩, fun a b => ⟨(q3 a b).1, fun y hy => (q3 a b).2 y ?_⟩⟩
 rw [List.getElem?_append_left (by have := (q3 a b).1; omega)] at hy
 exact hy
structure GrowI (o : Nd) (l : List Nd) (k : Nat) (r : List Nd × Nd) : Prop where
 pre : ∃ e, r.1 = l ++ e ∧ e.length ≤ k
 loose : Az r.1 = true
 lv : r.2.lv = o.lv + 1
 kids : ∀ j, j < 4 → r.2.kid j = 0 ∨ (0 < r.2.kid j ∧ r.2.kid j ≤ r.1.length ∧ ∀ y, r.1[(r.2.kid j - 1).toNat]? = some y → y.lv = o.lv)
theorem P0 {l : List Nd} (hl : Az l = true) (h0 : 0 < l.length) : ∀ k, k ≤ 4 → GrowI (At l l.length) l k (EH (At l l.length) l k)
 | 0, _ => ⟨⟨[], by simp [EH], by simp⟩, hl, rfl, fun j hj => .inl (ndL_kid _ hj)⟩
 | k + 1, hk => by
  have ih := P0 hl h0 k (by omega)
  have hnd : At l (l.length : Int) = l[l.length - 1] := BE (by omega) (by omega)
  obtain ⟨l1, l2, l3⟩ := A0 hl (show l.length - 1 < l.length by omega)
  rw [← hnd] at l1 l2 l3
  unfold EH
  generalize At l (l.length : Int) = o at *
  by_cases hc : o.kid k = 0
  ·rw [if_pos hc]
   obtain ⟨⟨e, e1, e2⟩, h2, h3, h4⟩ := ih
   exact ⟨⟨e, e1, by omega⟩, h2, h3, h4⟩
  ·rw [if_neg hc]
   obtain ⟨⟨e, e1, e2⟩, h2, h3, h4⟩ := ih
   generalize EH o l k = r at *
   have hlen : r.1.length = l.length + e.length := by rw [e1]; simp
   have hlo : Az (r.1 ++ [(ndL o.lv).setKid (3 - k) (o.kid k)]) = true := by
    refine Lr h2 (ndOk_mk (by rw [DD]; exact l1) (by rw [DD]; exact l2) fun j hj => ?_)
    rw [DD]
    show 0 ≤ _ ∧ (o.lv = 1 → _) ∧ (1 < o.lv → _)
    by_cases hj2 : j = 3 - k
    ·rw [hj2, Jv _ _ (by omega)]
     obtain ⟨q1, q2, q3⟩ := l3 k (by omega)
     refine ⟨q1, q2, fun a b => ?_⟩
     obtain ⟨q4, q5⟩ := q3 a b
     refine ⟨by omega, fun y hy => q5 y ?_⟩
     rw [e1, List.getElem?_append_left (by omega)] at hy
     exact hy
    ·rw [DQ _ _ (by omega) hj hj2, ndL_kid _ hj]
     exact ⟨Int.le_refl _, fun _ => by omega, fun _ b => absurd b (by omega)⟩
   refine ⟨⟨e ++ [(ndL o.lv).setKid (3 - k) (o.kid k)], by rw [e1, List.append_assoc], by simp; omega⟩, hlo, by rw [DD]; exact h3, fun j hj => ?_⟩
   by_cases hj2 : j = k
   ·subst hj2
    rw [Jv _ _ hj]
    refine .inr ⟨by omega, by simp, fun y hy => ?_⟩
    have : (((r.1.length + 1 : Nat) : Int) - 1).toNat = r.1.length := by omega
    rw [this] at hy
    simp at hy
    rw [← hy, DD]; rfl
   ·rw [DQ _ _ (by omega) hj hj2]
    rcases h4 j hj with h5 | ⟨h5, h6, h7⟩
    ·exact .inl h5
    ·refine .inr ⟨h5, by simp; omega, fun y hy => h7 y ?_⟩
     rw [List.getElem?_append_left (by omega)] at hy
     exact hy
theorem N3 {l : List Nd} (hl : Az l = true) (h0 : 0 < l.length) (hv : (At l l.length).lv < 1329) : Az (BV l) = true ∧ (∃ e, BV l = l ++ e ∧ e.length ≤ 5) ∧ 0 < (BV l).length ∧ (At (BV l) (BV l).length).lv = (At l l.length).lv + 1 := by
 have hI := P0 hl h0 4 (Nat.le_refl _)
 have hnd : At l (l.length : Int) = l[l.length - 1] := BE (by omega) (by omega)
 obtain ⟨l1, l2, l3⟩ := A0 hl (show l.length - 1 < l.length by omega)
 rw [← hnd] at l1 l2 l3
 unfold BV
 generalize At l (l.length : Int) = o at *
 obtain ⟨⟨e, e1, e2⟩, h2, h3, h4⟩ := hI
 generalize EH o l 4 = r at *
 refine ⟨Lr h2 (ndOk_mk (by rw [h3]; omega) (by rw [h3]; omega) fun j hj => ?_), ⟨e ++ [r.2], by rw [e1, List.append_assoc], by simp; omega⟩, by simp, ?_⟩
 ·rw [h3]
  rcases h4 j hj with h5 | ⟨h5, h6, h7⟩
  ·rw [h5]; exact ⟨Int.le_refl _, fun _ => by omega, fun _ b => absurd b (by omega)⟩
  ·exact ⟨by omega, fun a => by omega, fun _ _ => ⟨h6, fun y hy => by rw [h7 y hy]; omega⟩⟩
 ·have : At (r.1 ++ [r.2]) ((r.1 ++ [r.2]).length : Int) = r.2 := by
   rw [BE (n := r.1.length) (by simp) (by simp)]; simp
  rw [this, h3]
theorem Rd (v : Int) : A5 (some [(.int .i64 0), (.int .i64 0), (.int .i64 0), (.int .i64 0), (.int .i64 0)]) [(0, 1, .int .i64 v)] = some (.agg (cNd (ndL v))) := by
 simp [A5, G7, D4, ndL, cNd]
theorem grow_turn {l : List Nd} {o : Nd} {H Hd : Ab} {vo : Aa} {k p : Nat} {lev : Aa} {r : List Nd × Nd} (hk : k < 4) (hL : l.length < 549755813888) (h0 : 0 < l.length) (ho : l[l.length - 1] = o) (hpre : ∃ e, r.1 = l ++ e ∧ e.length ≤ k)
  (hp : H.length ≤ p) (fp : Hd[p]? = some (.cel 0 (cNd r.2))) (hR : RS cNd Aq 5 H.length r.1 vo Hd) (hlen : H.length ≤ Hd.length) :
  ∃ v' H', RS cNd Aq 5 H.length (if o.kid k = 0 then r else (r.1 ++ [(ndL o.lv).setKid (3 - k) (o.kid k)], r.2.setKid k ((r.1.length + 1 : Nat) : Int))).1 v' H' ∧
   H'[p]? = some (.cel 0 (cNd (if o.kid k = 0 then r else (r.1 ++ [(ndL o.lv).setKid (3 - k) (o.kid k)], r.2.setKid k ((r.1.length + 1 : Nat) : Int))).2)) ∧ (∀ i, i < H.length → H'[i]? = Hd[i]?) ∧ H.length ≤ H'.length ∧
   ∀ rec1 rec2 : LK, Sh.f25 H rec1 rec2 lev vo (.int .i64 (l.length : Int)) (.ptr p 0 0) (.int .i64 (k : Int)) Hd = rec2 [lev, v', .int .i64 (l.length : Int), .ptr p 0 0, .int .i64 ((k + 1 : Nat) : Int)] H' := by
 obtain ⟨e, e1, e2⟩ := hpre
 have hk' : (k : Int) < 4 := by omega
 have hwk := Au (show k < 9223372036854775807 by omega)
 have hwn := Db h0 (show l.length < 9223372036854775807 by omega)
 have hrl : r.1.length = l.length + e.length := by rw [e1]; simp
 have hni : l.length - 1 < r.1.length := by omega
 have hro : r.1[l.length - 1] = o := by
  have : r.1[l.length - 1]? = some o := by rw [e1, List.getElem?_append_left (by omega), List.getElem?_eq_getElem (by omega), ho]
  rw [List.getElem?_eq_getElem hni] at this
  exact Option.some.inj this
 obtain ⟨tk, rfl⟩ := hR.sl
 by_cases hc : o.kid k = 0
 ·rw [if_pos hc]
  refine ⟨_, Hd, hR, fp, fun i hi => rfl, hlen, fun rec1 rec2 => ?_⟩
  unfold Sh.f25
  simp only [GMb, GMc, hk', hwn, Av hni, hro, Ah, C0 hk, As, Nat.zero_add, Nat.mul_one, Cm hk, hc, Aw, Sh.f4i, hwk]
 ·rw [if_neg hc]
  have hR' := hR.left [Blk.cel 0 (cNd ((ndL o.lv).setKid (3 - k) (o.kid k)))]
  obtain ⟨v', H', a1, a2, a3⟩ := hR'.snoc (bytes := 40) (by simp; omega) ((ndL o.lv).setKid (3 - k) (o.kid k)) .tight (by omega) (by omega)
  obtain ⟨tk', rfl⟩ := a2.sl
  have fp2 := a3.cel p _ (By fp)
  have hpl := (List.getElem?_eq_some_iff.1 fp2).1
  have hlen2 : H.length ≤ H'.length := by have := a3.len; simp at this; omega
  refine ⟨_, H'.set p (.cel 0 (cNd (r.2.setKid k ((r.1.length + 1 : Nat) : Int)))), a2.put fp2, by rw [List.getElem?_set_self hpl], fun i hi => ?_, by simpa using hlen2, fun rec1 rec2 => ?_⟩
  ·rw [List.getElem?_set_ne (by omega), a3.old i hi, List.getElem?_append_left (by omega)]
  ·have s1 : Ak 5 (.ptr Hd.length 0 0) (.agg (cNd (ndL o.lv))) (Hd ++ [.cel 0 (cNd nd0)]) = some (Hd ++ [.cel 0 (cNd (ndL o.lv))]) := by rw [Ev AA rfl, BU]
   have s2 : Ak 1 (.ptr Hd.length 0 (1 + (3 - k))) (.int .i64 (o.kid k)) (Hd ++ [.cel 0 (cNd (ndL o.lv))]) = some (Hd ++ [.cel 0 (cNd ((ndL o.lv).setKid (3 - k) (o.kid k)))]) := by rw [Cv AA (by omega), BU]
   have s3 : Ad true 5 (.ptr Hd.length 0 0) (Hd ++ [.cel 0 (cNd ((ndL o.lv).setKid (3 - k) (o.kid k)))]) = some (.agg (cNd ((ndL o.lv).setKid (3 - k) (o.kid k)))) := Ds AA
   have s4 := Cv (c := ((r.1.length + 1 : Nat) : Int)) fp2 hk
   have hw3 : IntKind.i64.wrap (3 - (k : Int)) = ((3 - k : Nat) : Int) := by rw [Ay] <;> omega
   have hi3 : ∀ (id g o : Nat), AZ 4 1 (.ptr id g o) (.int .i64 ((3 - k : Nat) : Int)) = some (.ptr id g (o + (3 - k))) := fun id g o => Du (show 3 - k < 4 by omega)
   unfold Sh.f25
   simp only [GMb, GMc, hk', hwn, Av hni, hro, Ah, Aj, C0 hk, As, Nat.zero_add, Nat.mul_one, Cm hk, Bc, hc, Rd, FB, s1, hw3, hi3, s2, s3, F9, a1, A2, List.length_append, List.length_singleton, Du hk, s4, Aw, Sh.f4i, hwk]
theorem q06_grow (L : List Nd) (level : Int) (H : Ab) (hL : L.length < 274877906944) (hl : Az L = true) (h0 : -9223372036854775808 ≤ level) (h1 : level ≤ 9223372036854775807) :
  Sh.f26 (J1 L) (.int .i64 level) H = some (.ret (.tup [.sl (enL cNd (EW L level)) .no, .int .i64 ((EW L level).length : Int)]), H) := by
 unfold Sh.f26 EW
 have e3 : (H ++ [Blk.cel 0 (CP L)])[H.length]? = some (.cel 0 (CP L)) := AA
 have hb0 : AD 5 [] = some (.sl [] .tight) := rfl
 have hR0 : RS cNd Aq 5 H.length [] (.sl [] .tight) (H ++ [Blk.cel 0 (CP L)]) := .inl ⟨rfl, rfl⟩
 obtain ⟨v, Hc, a1, a2, a3⟩ := hR0.app (bytes := 40) (by simp) L .no (by simp; omega) (by simp; omega)
 rw [List.nil_append] at a2
 have hold : ∀ i, i < H.length → Hc[i]? = H[i]? := fun i hi => by rw [a3.old i hi, List.getElem?_append_left hi]
 have hlc : H.length ≤ Hc.length := by have := a3.len; simp at this; omega
 obtain ⟨tk, rfl⟩ := a2.sl
 simp only [GMb, GMc, boxQ, hb0, Aj, Nat.zero_add, DG e3, a1, A2]
 by_cases hbig : level > 1329
 ·rw [if_pos (.inl hbig)]
  simp only [hbig, GMb, GMc, Fw (BN hold)]
  simp
 ·by_cases hn : L = []
  ·rw [if_pos (.inr hn)]
   have : (L.length : Int) = 0 := by rw [hn]; rfl
   simp only [hbig, this, GMb, GMc, Fw (BN hold)]
   simp
  ·rw [if_neg (by intro h; rcases h with h | h; exact hbig h; exact hn h)]
   have hlen : 0 < L.length := List.length_pos_iff.2 hn
   have hne : ¬ (L.length : Int) = 0 := by omega
   simp only [hbig, hne, GMb, GMc]
   have loop := loop_while (G := fun rec1 vs H1 => Sh.f3o H rec1 (ag vs 0) (ag vs 1) (ag vs 2) H1) (σ := List Nd × Nat)
    (fun s vs Hd => ∃ v, vs = [.int .i64 level, v, .int .i64 (s.1.length : Int)] ∧ RS cNd Aq 5 H.length s.1 v Hd ∧ (∀ i, i < H.length → Hd[i]? = H[i]?) ∧ H.length ≤ Hd.length ∧ Az s.1 = true ∧ 0 < s.1.length ∧ F2 level s.2 s.1 = F2 level 1400 L ∧ level ≤ (At s.1 s.1.length).lv + s.2 ∧ s.1.length + 5 * s.2 ≤ L.length + 7000)
    (fun s => s.2) (fun s => ¬ (At s.1 s.1.length).lv < level) (fun s vs Hd hI hd => ?_) (s := (L, 1400)) (vs := [.int .i64 level, .sl (enL cNd L) tk, .int .i64 (L.length : Int)]) (H := Hc)
    ⟨_, rfl, a2, hold, hlc, hl, hlen, rfl, by
     have hnd : At L (L.length : Int) = L[L.length - 1] := BE (by omega) (by omega)
     have := (A0 hl (show L.length - 1 < L.length by omega)).1
     show level ≤ (At L (L.length : Int)).lv + (1400 : Nat)
     rw [hnd]; omega, by simp⟩ (by simp)
   ·obtain ⟨s, vs', Hd, hdone, ⟨v, rfl, gR, go, gl, glo, g0, ge, gv, gn⟩, rec, hloop⟩ := loop
    rw [hloop]
    obtain ⟨l, d⟩ := s
    dsimp only at *
    obtain ⟨tk2, rfl⟩ := gR.sl
    have hge : F2 level d l = l := by
     cases d with
     | zero => rfl
     | succ d => show (if _ then _ else _) = _; rw [if_neg hdone]
    rw [← ge, hge]
    have hnd : At l (l.length : Int) = l[l.length - 1] := BE (by omega) (by omega)
    have hwn := Db g0 (show l.length < 9223372036854775807 by omega)
    rw [hnd] at hdone
    unfold Sh.f3o
    simp only [GMb, GMc, hwn, Av (show l.length - 1 < l.length by omega), Ah, As, Nat.zero_add, Bc, hdone, Fw (BN go)]
    simp
   ·obtain ⟨v, rfl, gR, go, gl, glo, g0, ge, gv, gn⟩ := hI
    obtain ⟨l, d⟩ := s
    dsimp only at *
    rw [Decidable.not_not] at hd
    have hnd : At l (l.length : Int) = l[l.length - 1] := BE (by omega) (by omega)
    obtain ⟨d', rfl⟩ : ∃ d', d = d' + 1 := ⟨d - 1, by omega⟩
    obtain ⟨k1, ⟨e, k2, k3⟩, k4, k5⟩ := N3 glo g0 (by omega)
    have hgf : F2 level (d' + 1) l = F2 level d' (BV l) := by show (if _ then _ else _) = _; rw [if_pos hd]
    have hwn := Db g0 (show l.length < 9223372036854775807 by omega)
    have l12 := (A0 glo (show l.length - 1 < l.length by omega))
    have hwl : IntKind.i64.wrap (l[l.length - 1].lv + 1) = l[l.length - 1].lv + 1 := by rw [Ay] <;> omega
    obtain ⟨tk1, rfl⟩ := gR.sl
    have s1 : Ak 5 (.ptr Hd.length 0 0) (.agg (cNd (ndL (l[l.length - 1].lv + 1)))) (Hd ++ [.cel 0 (cNd nd0)]) = some (Hd ++ [.cel 0 (cNd (ndL (l[l.length - 1].lv + 1)))]) := by rw [Ev AA rfl, BU]
    have hi2 : l[l.length - 1].lv < level := by rw [← hnd]; exact hd
    have inner := Nz (ι := LK) (G := fun rec1 rec2 vs H1 => Sh.f25 H rec1 rec2 (ag vs 0) (ag vs 1) (ag vs 2) (ag vs 3) (ag vs 4) H1) (σ := Nat)
     (fun k vs H1 => ∃ v, k ≤ 4 ∧ vs = [.int .i64 level, v, .int .i64 (l.length : Int), .ptr Hd.length 0 0, .int .i64 (k : Int)] ∧ RS cNd Aq 5 H.length (EH l[l.length - 1] l k).1 v H1 ∧ H1[Hd.length]? = some (.cel 0 (cNd (EH l[l.length - 1] l k).2)) ∧ (∀ i, i < H.length → H1[i]? = H[i]?) ∧ H.length ≤ H1.length)
     (fun k => 4 - k) (fun k => k = 4) (fun k vs H1 hI hdk => ?_) (s := 0) (vs := [.int .i64 level, .sl (enL cNd l) tk1, .int .i64 (l.length : Int), .ptr Hd.length 0 0, .int .i64 0]) (H := Hd ++ [.cel 0 (cNd (ndL (l[l.length - 1].lv + 1)))])
     ⟨_, by omega, rfl, gR.left _, AA, fun i hi => by rw [List.getElem?_append_left (by omega)]; exact go i hi, by simp; omega⟩ (by omega)
    ·obtain ⟨k, vs', H1, rfl, ⟨v, _, rfl, fR, fp, fo, fl⟩, hrec⟩ := inner
     have hgS : BV l = (EH l[l.length - 1] l 4).1 ++ [(EH l[l.length - 1] l 4).2] := by unfold BV; rw [hnd]
     have hl4 : (EH l[l.length - 1] l 4).1.length ≤ l.length + 5 := by
      have := congrArg List.length (hgS.symm.trans k2)
      simp at this; omega
     obtain ⟨v2, H2, b1, b2, b3⟩ := fR.snoc (bytes := 40) fl (EH l[l.length - 1] l 4).2 .tight (by omega) (by omega)
     rw [← hgS] at b2
     obtain ⟨tk2, rfl⟩ := b2.sl
     refine ⟨(BV l, d'), [.int .i64 level, .sl (enL cNd (BV l)) tk2, .int .i64 ((BV l).length : Int)], H2, by simp, ⟨_, rfl, b2, fun i hi => by rw [b3.old i hi]; exact fo i hi, by have := b3.len; omega, k1, k4, by rw [← hgf]; exact ge, by show level ≤ _ + (d' : Int); rw [k5]; omega, ?_⟩, fun rec => ?_⟩
     ·have := congrArg List.length k2
      simp at this ⊢; omega
     ·obtain ⟨rec2, h9⟩ := hrec rec
      unfold Sh.f3o
      simp only [GMb, GMc, hwn, Av (show l.length - 1 < l.length by omega), Ah, As, Nat.zero_add, Bc, hi2, hwl, Rd, FB, s1]
      refine h9.trans ?_
      have hf : ¬ (((4 : Nat) : Int) < 4) := by decide
      unfold Sh.f25
      simp only [GMb, GMc, Aw, hf, Ds fp, F9, b1, A2]
    ·obtain ⟨v, hk4, rfl, fR, fp, fo, fl⟩ := hI
     have hk : k < 4 := by omega
     have hpre := (P0 glo g0 k hk4).pre
     rw [hnd] at hpre
     obtain ⟨v', H', c1, c2, c3, c4, c5⟩ := grow_turn (lev := .int .i64 level) hk (by omega) g0 rfl hpre gl fp fR fl
     refine ⟨k + 1, _, H', by omega, ⟨v', by omega, rfl, c1, c2, fun i hi => by rw [c3 i hi]; exact fo i hi, c4⟩, fun rec1 rec2 => c5 rec1 rec2⟩
end Go.Gm
namespace Go.Gm
def onF (L : List Nd) : Nat → Int → Nat → Nat → Bool
 | 0, _, _, _ => false
 | v + 1, n, x, y => if n = 0 then false else if v = 0 then decide (0 < (At L n).kid (2 * (y / 2 ^ v) + x / 2 ^ v)) else onF L v ((At L n).kid (2 * (y / 2 ^ v) + x / 2 ^ v)) (x % 2 ^ v) (y % 2 ^ v)
theorem div_lt2 {x u : Nat} (h : x < 2 ^ (u + 1)) : x / 2 ^ u < 2 := by
 rw [Nat.div_lt_iff_lt_mul (Nat.pow_pos (by omega))]
 rw [Nat.pow_succ] at h; omega
theorem q14_on {L : List Nd} {tk : Tok} (hL : L.length < 549755813888) (hl : Az L = true) : ∀ (v n x y d : Nat) (H : Ab), Lv L v n → v ≤ d → v ≤ 60 → x < 2 ^ v → y < 2 ^ v →
  Sh.f9 (d + 1) (.sl (enL cNd L) tk) (.int .i64 (n : Int)) (.int .i64 (x : Int)) (.int .i64 (y : Int)) H = some (.ret (.bool (onF L v n x y)), H) := by
 intro v
 induction v with
 | zero =>
  intro n x y d H hLv _ _ _ _
  have hn : n = 0 := by
   rcases Nat.eq_zero_or_pos n with h | h
   ·exact h
   ·have := (hLv.num h hl).2; omega
  subst hn
  show Sh.f2p (Sh.f9 d) _ _ _ _ H = _
  unfold Sh.f2p
  simp only [GMb, GMc, Int.natCast_zero, onF]
 | succ u ih =>
  intro n x y d H hLv hd hv hx hy
  show Sh.f2p (Sh.f9 d) _ _ _ _ H = _
  unfold Sh.f2p
  by_cases hn : n = 0
  ·subst hn
   simp only [GMb, GMc, Int.natCast_zero, onF, if_true]
  ·have hn0 : 0 < n := by omega
   have hn' : ¬ (n : Int) = 0 := by omega
   have hnL := hLv.1
   have hni : n - 1 < L.length := by omega
   have hnd : At L (n : Int) = L[n - 1] := BE (by omega) hni
   obtain ⟨hlv, _⟩ := hLv.num hn0 hl
   have hwn := Db hn0 (show n < 9223372036854775807 by omega)
   have hlv2 : L[n - 1].lv = ((u + 1 : Nat) : Int) := by rw [← hnd]; exact hlv
   obtain ⟨q, hq⟩ : ∃ q, q = 2 * (y / 2 ^ u) + x / 2 ^ u := ⟨_, rfl⟩
   have hqx := div_lt2 hx
   have hqy := div_lt2 hy
   have hq4 : q < 4 := by omega
   obtain ⟨d', rfl⟩ : ∃ d', d = d' + 1 := ⟨d - 1, by omega⟩
   have hon : onF L (u + 1) n x y = if u = 0 then decide (0 < L[n - 1].kid q) else onF L u (L[n - 1].kid q) (x % 2 ^ u) (y % 2 ^ u) := by
    show (if (n : Int) = 0 then _ else _) = _
    rw [if_neg hn', hnd, ← hq]
   rw [hon]
   simp only [hn', GMb, GMc]
   refine BM (G := fun rec1 vs H1 => Sh.f3p H (Sh.f9 (d' + 1)) rec1 (ag vs 0) (ag vs 1) (ag vs 2) (ag vs 3) (ag vs 4) (ag vs 5) H1) u
    (fun i => [.sl (enL cNd L) tk, .int .i64 (n : Int), .int .i64 (x : Int), .int .i64 (y : Int), .int .i64 ((2 ^ i : Nat) : Int), .int .i64 ((i + 1 : Nat) : Int)]) (fun _ => H) _ (by omega) (fun rec i hi => ?_) (fun rec => ?_)
   ·have hi' : ((i + 1 : Nat) : Int) < ((u + 1 : Nat) : Int) := by omega
    have hpw : 2 ^ i ≤ 2 ^ 60 := Nat.pow_le_pow_right (by omega) (by omega)
    have hw1 : IntKind.i64.wrap (((2 ^ i : Nat) : Int) * 2) = ((2 ^ (i + 1) : Nat) : Int) := by
     rw [Nat.pow_succ]
     generalize 2 ^ i = p at *
     rw [Ay] <;> omega
    have hw2 := Au (show i + 1 < 9223372036854775807 by omega)
    unfold Sh.f3p
    simp only [GMb, GMc, Aw, hwn, Av hni, Ah, As, Nat.zero_add, Bc, hlv2, hi', hw1, hw2]
   ·have hp0 : ((2 ^ u : Nat) : Int) ≠ 0 := by have : 0 < 2 ^ u := Nat.pow_pos (by omega); omega
    have hd1 : ∀ a : Nat, ((a : Int).tdiv ((2 ^ u : Nat) : Int)) = ((a / 2 ^ u : Nat) : Int) := fun a => rfl
    have hd2 : ∀ a : Nat, ((a : Int).tmod ((2 ^ u : Nat) : Int)) = ((a % 2 ^ u : Nat) : Int) := fun a => rfl
    have hwy : IntKind.i64.wrap ((y / 2 ^ u : Nat) : Int) = ((y / 2 ^ u : Nat) : Int) := C7 (by omega)
    have hwx : IntKind.i64.wrap ((x / 2 ^ u : Nat) : Int) = ((x / 2 ^ u : Nat) : Int) := C7 (by omega)
    have hwm : IntKind.i64.wrap (2 * ((y / 2 ^ u : Nat) : Int)) = 2 * ((y / 2 ^ u : Nat) : Int) := by rw [Ay] <;> omega
    have hwq : IntKind.i64.wrap (2 * ((y / 2 ^ u : Nat) : Int) + ((x / 2 ^ u : Nat) : Int)) = (q : Int) := by rw [Ay] <;> omega
    obtain ⟨l1, l2, l3⟩ := A0 hl hni
    obtain ⟨q1, q2, q3⟩ := l3 q hq4
    unfold Sh.f3p
    simp only [GMb, GMc, Aw, hwn, Av hni, Ah, As, Nat.zero_add, Bc, hlv2, Int.lt_irrefl, K7 hp0, HR hp0, hd1, hd2, hwy, hwx, hwm, hwq, C0 hq4, Nat.mul_one, Cm hq4]
    by_cases hu : u = 0
    ·have : ((u + 1 : Nat) : Int) = 1 := by omega
     rw [if_pos hu]
     simp only [this, GMb, GMc, gt_iff_lt]
    ·have : ¬ ((u + 1 : Nat) : Int) = 1 := by omega
     rw [if_neg hu]
     have h1 : 1 < (At L n).lv := by rw [hlv]; omega
     obtain ⟨e1, e2, e3⟩ := hLv.kid hl hn0 h1 hq4
     rw [hnd] at e1 e3
     obtain ⟨m, hm⟩ := Int.eq_ofNat_of_zero_le e3
     rw [hm] at e1 ⊢
     rw [Int.toNat_natCast] at e1
     have hrec := fun H => ih m (x % 2 ^ u) (y % 2 ^ u) d' H e1 (by omega) (by omega) (Nat.mod_lt _ (Nat.pow_pos (by omega))) (Nat.mod_lt _ (Nat.pow_pos (by omega)))
     simp only [this, GMb, GMc, hrec]
def EB (on : Nat → Nat → Bool) (y : Nat) (k : Nat) : List UInt8 := (List.range k).map fun x => if on x y then 42 else 46
def Co (on : Nat → Nat → Bool) (y : Nat) : Nat → Nat
 | 0 => 0
 | k + 1 => if on k y then k + 1 else Co on y k
def Ch (on : Nat → Nat → Bool) : Nat → List UInt8 × Nat
 | 0 => ([], 0)
 | y + 1 => ((Ch on y).1 ++ (EB on y 8).take (Co on y 8) ++ [36], if 0 < Co on y 8 then ((Ch on y).1 ++ (EB on y 8).take (Co on y 8) ++ [36]).length else (Ch on y).2)
def N2 (L : List Nd) (n : Nat) : List UInt8 := (Ch (onF L 3 n) 8).1.take (Ch (onF L 3 n) 8).2
theorem JW (on : Nat → Nat → Bool) (y k : Nat) : (EB on y k).length = k := by simp [EB]
theorem leafRow_succ (on : Nat → Nat → Bool) (y k : Nat) : EB on y (k + 1) = EB on y k ++ [if on k y then 42 else 46] := by simp [EB, List.range_succ]
theorem Qb (on : Nat → Nat → Bool) (y k : Nat) : Co on y (k + 1) = if on k y then k + 1 else Co on y k := rfl
theorem JV (on : Nat → Nat → Bool) (y : Nat) : ∀ k, Co on y k ≤ k
 | 0 => Nat.le_refl _
 | k + 1 => by
  have := JV on y k
  unfold Co
  split <;> omega
theorem FQ (on : Nat → Nat → Bool) : ∀ y, (Ch on y).1.length ≤ y * 9 ∧ (Ch on y).2 ≤ (Ch on y).1.length
 | 0 => ⟨by simp [Ch], by simp [Ch]⟩
 | y + 1 => by
  have ih := FQ on y
  have h1 := JV on y 8
  have h2 := JW on y 8
  simp only [Ch, List.length_append, List.length_singleton, List.length_take]
  refine ⟨by omega, ?_⟩
  split <;> omega
theorem QD (L : List Nd) (n : Nat) : (N2 L n).length ≤ 72 := by
 have := FQ (onF L 3 n) 8
 unfold N2
 rw [List.length_take]; omega
theorem q14_leaf {L : List Nd} (tk : Tok) (n : Nat) (H : Ab) (hL : L.length < 549755813888) (hl : Az L = true) (hn : Lv L 3 n) :
  Sh.f14 (.sl (enL cNd L) tk) (.int .i64 (n : Int)) H = some (.ret (.str (N2 L n)), H) := by
 unfold Sh.f14 N2
 obtain ⟨F, hF⟩ := fuel_succ 100 (by omega)
 have hon : ∀ (x y : Nat) (H : Ab), x < 8 → y < 8 → Sh.f9 AI (.sl (enL cNd L) tk) (.int .i64 (n : Int)) (.int .i64 (x : Int)) (.int .i64 (y : Int)) H = some (.ret (.bool (onF L 3 n x y)), H) := by
  intro x y H hx hy
  rw [hF, show F + 100 = (F + 99) + 1 from rfl]
  exact q14_on hL hl 3 n x y (F + 99) H hn (by omega) (by omega) hx hy
 generalize onF L 3 n = on at *
 refine BM (G := fun rec1 vs H1 => Sh.f3s H rec1 (ag vs 0) (ag vs 1) (ag vs 2) (ag vs 3) (ag vs 4) H1) 8
  (fun y => [.sl (enL cNd L) tk, .int .i64 (n : Int), .str (Ch on y).1, .int .i64 ((Ch on y).2 : Int), .int .i64 (y : Int)]) (fun _ => H) _ (by decide) (fun rec y hy => ?_) (fun rec => ?_)
 ·have hy' : (y : Int) < 8 := by omega
  have hwy := Au (show y < 9223372036854775807 by omega)
  have hacc := FQ on y
  have hul := JV on y 8
  have hrl := JW on y 8
  unfold Sh.f3s
  simp only [A9, Aw, CG, Da, FC, Gk, Bk, AM, hy', decide_true, AL, AN]
  refine BM (G := fun rec3 vs H1 => Sh.f3r H (fun vs H => Sh.f3q H rec (ag vs 0) (ag vs 1) (ag vs 2) (ag vs 3) (ag vs 4) H) rec3 (ag vs 0) (ag vs 1) (ag vs 2) (ag vs 3) (ag vs 4) (ag vs 5) (ag vs 6) (ag vs 7) H1) 8
   (fun x => [.sl (enL cNd L) tk, .int .i64 (n : Int), .str (Ch on y).1, .int .i64 ((Ch on y).2 : Int), .int .i64 (y : Int), .str (EB on y x), .int .i64 (Co on y x : Int), .int .i64 (x : Int)]) (fun _ => H) _ (by decide) (fun rec3 x hx => ?_) (fun rec3 => ?_)
  ·have hx' : (x : Int) < 8 := by omega
   have hwx := Au (show x < 9223372036854775807 by omega)
   have hrx := JW on y x
   have hon1 := fun H => hon x y H hx hy
   rw [leafRow_succ, Qb]
   unfold Sh.f3r
   cases ho : on x y with
   | true =>
    rw [ho] at hon1
    simp only [GMb, GMc, Aw, hx', hon1, if_true]
    rw [Bm (by rw [hrx]; simp; omega)]
    simp only [GMb, GMc, EA, List.length_append, List.length_singleton, hrx, Aw, Sh.f4j, hwx]
   | false =>
    rw [ho] at hon1
    simp only [GMb, GMc, Aw, hx', hon1]
    rw [Bm (by rw [hrx]; simp; omega)]
    simp only [GMb, GMc, Aw, Sh.f4j, hwx]
  ·have hf : ¬ (((8 : Nat) : Int) < 8) := by decide
   have htk : (EB on y 8).length = 8 := hrl
   unfold Sh.f3r
   simp only [A9, Aw, CG, Da, FC, Gk, KO, Bk, AM, hf, decide_false, AH, GT (show Co on y 8 ≤ (EB on y 8).length by omega)]
   rw [Bm (by simp; omega)]
   simp only [Bk]
   rw [Bm (by simp; omega)]
   simp only [Bk, CJ]
   by_cases h0 : 0 < Co on y 8
   ·have h0' : (Co on y 8 : Int) > 0 := by omega
    simp only [h0', GMb, GMc, EA, Aw, Sh.f3q, hwy, Ch, h0]
   ·have h0' : ¬ (Co on y 8 : Int) > 0 := by omega
    simp only [h0', GMb, GMc, EA, Aw, Sh.f3q, hwy, Ch, h0]
 ·have hf : ¬ (((8 : Nat) : Int) < 8) := by decide
  have hacc := FQ on 8
  unfold Sh.f3s
  simp only [GMb, GMc, Aw, hf, GT hacc.2]
theorem ME {n : Int} (h0 : -9223372036854775808 ≤ n) (h1 : n ≤ 9223372036854775807) : SB 44 n := by
 unfold SB
 have : (4294967296 : Nat) ^ 2 ≤ 4294967296 ^ 44 := pow_le32 (by omega)
 have h2 : n.natAbs < 18446744073709551616 := by omega
 rw [show (4294967296 : Nat) ^ 2 = 18446744073709551616 from rfl] at this
 omega
theorem q14_number (n : Int) (H : Ab) (h0 : -9223372036854775808 ≤ n) (h1 : n ≤ 9223372036854775807) : Sh.fx (.int .i64 n) H = some (.ret (.str (Gh n)), H) := by
 unfold Sh.fx
 have hof := fun H => q02_of n H h0 h1
 have htx := fun H => OH n H (Mw (ME h0 h1)).1
 simp only [GMb, GMc, hof, htx]
end Go.Gm
namespace Go.Gm
def JT (at' : List Nat) (x : Nd) : Nat → List UInt8
 | 0 => Gh x.lv
 | k + 1 => JT at' x k ++ [32] ++ Gh (if 1 < x.lv then ((at'.getD (x.kid k).toNat 0 : Nat) : Int) else x.kid k)
def EG (L : List Nd) (two : Bool) (at' : List Nat) (i : Nat) (x : Nd) : List UInt8 := if two && decide (x.lv = 3) then N2 L (i + 1) else JT at' x 4
def BC (L : List Nd) (two : Bool) : Nat → List (List UInt8) × List Nat
 | 0 => ([], [0])
 | i + 1 =>
  let r := BC L two i
  let x := L.getD i nd0
  if two && decide (x.lv < 3) then (r.1, r.2 ++ [0]) else (r.1 ++ [EG L two r.2 i x], r.2 ++ [r.1.length + 1])
def twoQ (L : List Nd) : Bool := decide (JQ L ≤ 1)
def Ex (L : List Nd) : List (List UInt8) :=
 if twoQ L && decide (L ≠ []) && decide (DO L < 3) then [N2 (EW L 3) (EW L 3).length] else (BC L (twoQ L) L.length).1
theorem Hp (L : List Nd) (two : Bool) : ∀ i, (BC L two i).2.length = i + 1 ∧ (BC L two i).1.length ≤ i ∧ ∀ a ∈ (BC L two i).2, a ≤ i
 | 0 => by simp [BC]
 | i + 1 => by
  obtain ⟨h1, h2, h3⟩ := Hp L two i
  simp only [BC]
  split
  ·refine ⟨by simp; omega, by simp only; omega, fun a ha => ?_⟩
   rcases List.mem_append.1 ha with h | h
   ·have := h3 a h; omega
   ·rw [List.mem_singleton] at h; omega
  ·refine ⟨by simp; omega, by simp; omega, fun a ha => ?_⟩
   rcases List.mem_append.1 ha with h | h
   ·have := h3 a h; omega
   ·rw [List.mem_singleton] at h; omega
theorem MA {L : List Nd} {at' : List Nat} {x : Nd} (h1 : 1 ≤ x.lv) (h2 : x.lv ≤ 1329) (hk : ∀ k, k < 4 → 0 ≤ x.kid k ∧ (x.lv = 1 → x.kid k ≤ 255)) (ha : ∀ a ∈ at', a ≤ 549755813888) : ∀ k, k ≤ 4 → (JT at' x k).length ≤ 5000 + k * 5001
 | 0, _ => by have := (Mw (ME (n := x.lv) (by omega) (by omega))).2; simp [JT]; omega
 | k + 1, hk4 => by
  have ih := MA (L := L) h1 h2 hk ha k (by omega)
  have hv : ∀ n : Int, 0 ≤ n → n ≤ 549755813888 → (Gh n).length ≤ 5000 := fun n a b => (Mw (ME (n := n) (by omega) (by omega))).2
  have hd : (Gh (if 1 < x.lv then ((at'.getD (x.kid k).toNat 0 : Nat) : Int) else x.kid k)).length ≤ 5000 := by
   obtain ⟨q1, q2⟩ := hk k (by omega)
   split
   ·refine hv _ (by omega) ?_
    rw [List.getD_eq_getElem?_getD]
    cases hq : at'[(x.kid k).toNat]? with
    | none => simp
    | some a => have := ha a (List.mem_of_getElem? hq); simp; omega
   ·exact hv _ q1 (by have := q2 (by omega); omega)
  simp only [JT, List.length_append, List.length_singleton]
  omega
theorem line_ok {L : List Nd} (hL : L.length < 274877906944) (hl : Az L = true) (two : Bool) {i : Nat} (hi : i < L.length) : (EG L two (BC L two i).2 i L[i]).length ≤ 30000 := by
 obtain ⟨l1, l2, l3⟩ := A0 hl hi
 obtain ⟨h1, h2, h3⟩ := Hp L two i
 unfold EG
 split
 ·have := QD L (i + 1); omega
 ·have := MA (L := L) (at' := (BC L two i).2) l1 l2 (fun k hk => ⟨(l3 k hk).1, (l3 k hk).2.1⟩) (fun a ha => by have := h3 a ha; omega) 4 (Nat.le_refl _)
  omega
theorem N1 {L : List Nd} (hL : L.length < 274877906944) (hl : Az L = true) (two : Bool) : ∀ i, i ≤ L.length → ∀ s ∈ (BC L two i).1, s.length ≤ 30000
 | 0, _, s, hs => by cases hs
 | i + 1, hi, s, hs => by
  have ih := N1 hL hl two i (by omega)
  have hx : L.getD i nd0 = L[i] := by rw [List.getD_eq_getElem?_getD, List.getElem?_eq_getElem (show i < L.length by omega)]; rfl
  have hk := line_ok hL hl two (show i < L.length by omega)
  simp only [BC, hx] at hs
  split at hs
  ·exact ih s hs
  ·rcases List.mem_append.1 hs with h | h
   ·exact ih s h
   ·rw [List.mem_singleton] at h; rw [h]; exact hk
theorem linesL_ok {L : List Nd} (hL : L.length < 274877906944) (hl : Az L = true) : (Ex L).length ≤ L.length + 1 ∧ ∀ s ∈ Ex L, s.length ≤ 30000 := by
 unfold Ex
 split
 ·refine ⟨by simp, fun s hs => ?_⟩
  rw [List.mem_singleton] at hs
  rw [hs]
  have := QD (EW L 3) (EW L 3).length; omega
 ·exact ⟨by have := (Hp L (twoQ L) L.length).2.1; omega, N1 hL hl _ _ (Nat.le_refl _)⟩
theorem lines_turn {L : List Nd} {H : Ab} {two : Bool} {i : Nat} (hL : L.length < 274877906944) (hl : Az L = true) (hi : i < L.length) (p : Nat) (out : List (List UInt8)) (vo : Aa) (Hd : Ab) (tk : Tok) (A : List Nat) (hA : A.length = i + 1) (hAb : ∀ a ∈ A, a ≤ i) (hout : out.length ≤ i)
  (hp : H.length ≤ p) (fp : Hd[p]? = some (.cel 0 (flat cN (A ++ List.replicate (L.length - i) 0)))) (hR : RS cS Kn 1 H.length out vo Hd) (hlen : H.length ≤ Hd.length)
  (hs : (EG L two A i L[i]).length ≤ 30000) :
  ∃ v' H', RS cS Kn 1 H.length (if two && decide (L[i].lv < 3) then (out, A ++ [0]) else (out ++ [EG L two A i L[i]], A ++ [out.length + 1])).1 v' H' ∧
   H'[p]? = some (.cel 0 (flat cN ((if two && decide (L[i].lv < 3) then (out, A ++ [0]) else (out ++ [EG L two A i L[i]], A ++ [out.length + 1])).2 ++ List.replicate (L.length - (i + 1)) 0))) ∧ (∀ j, j < H.length → H'[j]? = Hd[j]?) ∧ H.length ≤ H'.length ∧
   ∀ rec : LK, Sh.f15 H rec (.sl (enL cNd L) tk) (.bool two) vo (.ms p 0 0 (L.length + 1) (L.length + 1) 1 true) (.int .i64 (i : Int)) Hd = rec [.sl (enL cNd L) tk, .bool two, v', .ms p 0 0 (L.length + 1) (L.length + 1) 1 true, .int .i64 ((i + 1 : Nat) : Int)] H' := by
 have hi' : (i : Int) < (L.length : Int) := by omega
 have hwi := Au (show i < 9223372036854775807 by omega)
 obtain ⟨l1, l2, l3⟩ := A0 hl hi
 obtain ⟨tk0, rfl⟩ := hR.sl
 have hj2 : ∀ (rec : LK) (v : Aa) (H1 : Ab), Sh.f2a H rec (.sl (enL cNd L) tk) (.bool two) v (.ms p 0 0 (L.length + 1) (L.length + 1) 1 true) (.int .i64 (i : Int)) H1 = rec [.sl (enL cNd L) tk, .bool two, v, .ms p 0 0 (L.length + 1) (L.length + 1) 1 true, .int .i64 ((i + 1 : Nat) : Int)] H1 := by
  intro rec v H1
  unfold Sh.f2a
  simp only [GMb, GMc, hwi]
 have hrep : ∀ a : Nat, (A ++ List.replicate (L.length - i) 0).set (i + 1) a = A ++ [a] ++ List.replicate (L.length - (i + 1)) 0 := by
  intro a
  rw [List.set_append_right _ _ (by omega), hA, Nat.sub_self, show L.length - i = (L.length - (i + 1)) + 1 from by omega, List.replicate_succ, List.set_cons_zero]
  simp
 have hrep0 : A ++ [0] ++ List.replicate (L.length - (i + 1)) 0 = A ++ List.replicate (L.length - i) 0 := by
  rw [show L.length - i = (L.length - (i + 1)) + 1 from by omega, List.replicate_succ]; simp
 have hEl : (A ++ List.replicate (L.length - i) 0).length = L.length + 1 := by simp [hA]; omega
 have hgc : A4 Hd p 0 = some (flat cN (A ++ List.replicate (L.length - i) 0)) := AT fp
 have hline : ∀ j2 : LK, Sh.f2r H j2 (.sl (enL cNd L) tk) (.bool two) (.sl (enL cS out) tk0) (.ms p 0 0 (L.length + 1) (L.length + 1) 1 true) (.int .i64 (i : Int)) (.str (EG L two A i L[i])) Hd = Sh.f2r H j2 (.sl (enL cNd L) tk) (.bool two) (.sl (enL cS out) tk0) (.ms p 0 0 (L.length + 1) (L.length + 1) 1 true) (.int .i64 (i : Int)) (.str (EG L two A i L[i])) Hd := fun _ => rfl
 by_cases hsk : (two && decide (L[i].lv < 3)) = true
 ·rw [if_pos hsk]
  simp only [Bool.and_eq_true, decide_eq_true_eq] at hsk
  refine ⟨_, Hd, hR, by rw [hrep0]; exact fp, fun j hj => rfl, hlen, fun rec => ?_⟩
  obtain ⟨h2, h3⟩ := hsk
  subst h2
  unfold Sh.f15
  simp only [GMb, GMc, A2, hi', Av hi, Ah, As, Nat.zero_add, Bc, h3, Aw, hj2]
 ·rw [if_neg hsk]
  obtain ⟨v', H', a1, a2, a3⟩ := hR.snoc (bytes := 16) hlen (EG L two A i L[i]) .tight (by omega) (by omega)
  obtain ⟨tk', rfl⟩ := a2.sl
  have fp2 := a3.get fp
  have hpl := (List.getElem?_eq_some_iff.1 fp2).1
  have hlen2 : H.length ≤ H'.length := by have := a3.len; omega
  have hidx := DZ (sz := 1) (id := p) (n := L.length + 1) (K := .i64) (g := 0) (off := 0) (cap := L.length + 1) (ex := true) (i := i + 1) (by omega)
  simp only [Nat.zero_add, Nat.mul_one] at hidx
  have hst := Ft (f := cN) (sz := 1) (a := out.length + 1) (v := .int .i64 ((out.length + 1 : Nat) : Int)) (AT fp2) (i := i + 1) (by rw [hEl]; omega) rfl
  simp only [Nat.mul_one, hrep, C8 fp2] at hst
  have hj5 : ∀ (rec : LK), Sh.f2r H (fun vs H1 => Sh.f2a H rec (ag vs 0) (ag vs 1) (ag vs 2) (ag vs 3) (ag vs 4) H1) (.sl (enL cNd L) tk) (.bool two) (.sl (enL cS out) tk0) (.ms p 0 0 (L.length + 1) (L.length + 1) 1 true) (.int .i64 (i : Int)) (.str (EG L two A i L[i])) Hd
    = rec [.sl (enL cNd L) tk, .bool two, .sl (enL cS (out ++ [EG L two A i L[i]])) tk', .ms p 0 0 (L.length + 1) (L.length + 1) 1 true, .int .i64 ((i + 1 : Nat) : Int)] (H'.set p (.cel 0 (flat cN (A ++ [out.length + 1] ++ List.replicate (L.length - (i + 1)) 0)))) := by
   intro rec
   unfold Sh.f2r
   simp only [GMb, GMc, build_S, a1, hwi, A2, List.length_append, List.length_singleton, hidx, hst, Aw, hj2]
  refine ⟨_, H'.set p (.cel 0 (flat cN (A ++ [out.length + 1] ++ List.replicate (L.length - (i + 1)) 0))), a2.put fp2, by rw [List.getElem?_set_self hpl], fun j hj => by rw [List.getElem?_set_ne (by omega)]; exact a3.old j hj, by simpa using hlen2, fun rec => ?_⟩
  have hnum : ∀ (n : Int) (H : Ab), 0 ≤ n → n ≤ 549755813888 → Sh.fx (.int .i64 n) H = some (.ret (.str (Gh n)), H) := fun n H a b => q14_number n H (by omega) (by omega)
  have hnlv := fun H => hnum L[i].lv H (by omega) (by omega)
  have kids : Ao (fun rec3 vs H1 => Sh.f2s H (fun vs H1 => Sh.f2a H rec (ag vs 0) (ag vs 1) (ag vs 2) (ag vs 3) (ag vs 4) H1) rec3 (ag vs 0) (ag vs 1) (ag vs 2) (ag vs 3) (ag vs 4) (ag vs 5) (ag vs 6) H1) AI [.sl (enL cNd L) tk, .bool two, .sl (enL cS out) tk0, .ms p 0 0 (L.length + 1) (L.length + 1) 1 true, .int .i64 (i : Int), .str (Gh L[i].lv), .int .i64 0] Hd
    = rec [.sl (enL cNd L) tk, .bool two, .sl (enL cS (out ++ [EG L two A i L[i]])) tk', .ms p 0 0 (L.length + 1) (L.length + 1) 1 true, .int .i64 ((i + 1 : Nat) : Int)] (H'.set p (.cel 0 (flat cN (A ++ [out.length + 1] ++ List.replicate (L.length - (i + 1)) 0)))) := by
   refine BM (G := fun rec3 vs H1 => Sh.f2s H (fun vs H1 => Sh.f2a H rec (ag vs 0) (ag vs 1) (ag vs 2) (ag vs 3) (ag vs 4) H1) rec3 (ag vs 0) (ag vs 1) (ag vs 2) (ag vs 3) (ag vs 4) (ag vs 5) (ag vs 6) H1) 4
    (fun k => [.sl (enL cNd L) tk, .bool two, .sl (enL cS out) tk0, .ms p 0 0 (L.length + 1) (L.length + 1) 1 true, .int .i64 (i : Int), .str (JT A L[i] k), .int .i64 (k : Int)]) (fun _ => Hd) _ (by decide) (fun rec3 k hk => ?_) (fun rec3 => ?_)
   ·have hk' : (k : Int) < 4 := by omega
    have hwk := Au (show k < 9223372036854775807 by omega)
    obtain ⟨q1, q2, q3⟩ := l3 k hk
    have hll := MA (L := L) (at' := A) (x := L[i]) l1 l2 (fun k hk => ⟨(l3 k hk).1, (l3 k hk).2.1⟩) (fun a ha => by have := hAb a ha; omega) k (by omega)
    have hj4 : ∀ c : Int, 0 ≤ c → c ≤ 549755813888 → c = (if 1 < L[i].lv then ((A.getD (L[i].kid k).toNat 0 : Nat) : Int) else L[i].kid k) → Sh.f4q H rec3 (.sl (enL cNd L) tk) (.bool two) (.sl (enL cS out) tk0) (.ms p 0 0 (L.length + 1) (L.length + 1) 1 true) (.int .i64 (i : Int)) (.str (JT A L[i] k)) (.int .i64 (k : Int)) (.int .i64 c) Hd
      = rec3 [.sl (enL cNd L) tk, .bool two, .sl (enL cS out) tk0, .ms p 0 0 (L.length + 1) (L.length + 1) 1 true, .int .i64 (i : Int), .str (JT A L[i] (k + 1)), .int .i64 ((k + 1 : Nat) : Int)] Hd := by
     intro c hc0 hc1 hc
     have hn := fun H => hnum c H hc0 hc1
     have hdl := (Mw (ME (n := c) (by omega) (by omega))).2
     rw [show JT A L[i] (k + 1) = JT A L[i] k ++ [32] ++ Gh c by rw [hc]; rfl]
     unfold Sh.f4q
     rw [Bm (by simp; omega)]
     simp only [GMb, GMc, hn]
     rw [Bm (by simp; omega)]
     simp only [GMb, GMc, hwk]
    unfold Sh.f2s
    simp only [GMb, GMc, Aw, hk', Av hi, Ah, C0 hk, As, Nat.zero_add, Nat.mul_one, Cm hk, Bc]
    by_cases h1 : 1 < L[i].lv
    ·have hle : (L[i].kid k).toNat ≤ i := by
      by_cases h0 : 0 < L[i].kid k
      ·have := (q3 h1 h0).1; omega
      ·omega
     obtain ⟨c, hc⟩ := Int.eq_ofNat_of_zero_le q1
     rw [hc] at hle hj4 ⊢
     rw [Int.toNat_natCast] at hle hj4
     have hidc := DZ (sz := 1) (id := p) (n := L.length + 1) (K := .i64) (g := 0) (off := 0) (cap := L.length + 1) (ex := true) (i := c) (by omega)
     simp only [Nat.zero_add, Nat.mul_one] at hidc
     have hldc := Hm (f := cN) hgc (i := c) (by rw [hEl]; omega)
     have hgd : (A ++ List.replicate (L.length - i) 0)[c]'(by rw [hEl]; omega) = A.getD c 0 := by
      rw [List.getElem_append_left (by omega), List.getD_eq_getElem?_getD, List.getElem?_eq_getElem (by omega)]; rfl
     rw [hgd] at hldc
     have hab : A.getD c 0 ≤ i := by
      rw [List.getD_eq_getElem?_getD, List.getElem?_eq_getElem (by omega)]
      exact hAb _ (List.getElem_mem _)
     simp only [h1, GMb, GMc, gt_iff_lt, hidc, hldc, List.getElem?_cons_zero, Aw]
     exact hj4 _ (by omega) (by omega) (by rw [if_pos h1])
    ·simp only [h1, GMb, GMc, gt_iff_lt, Aw]
     exact hj4 _ q1 (by have := q2 (by omega); omega) (by rw [if_neg h1])
   ·have hf : ¬ (((4 : Nat) : Int) < 4) := by decide
    unfold Sh.f2s
    simp only [A9, Aw, CG, Da, FC, Gk, KO, Bk, AM, hf, decide_false, AH, AN]
    by_cases h3 : (two && decide (L[i].lv = 3)) = true
    ·have hlS : EG L two A i L[i] = N2 L (i + 1) := by unfold EG; rw [if_pos h3]
     simp only [Bool.and_eq_true, decide_eq_true_eq] at h3
     obtain ⟨h4, h5⟩ := h3
     have hLv : Lv L 3 (i + 1) := ⟨by omega, .inr (by rw [AK hi, h5]; rfl)⟩
     have hlf := fun H => q14_leaf (L := L) tk (i + 1) H (by omega) hl hLv
     rw [hlS] at hj5 ⊢
     rw [h4] at hj5 ⊢
     simp only [GMb, GMc, Av hi, Ah, As, Nat.zero_add, Bc, h5, hwi, hlf, Aw]
     have h9 := hj5 rec
     exact h9
    ·have hlS : EG L two A i L[i] = JT A L[i] 4 := by unfold EG; rw [if_neg h3]
     rw [hlS] at hj5 ⊢
     have h9 := hj5 rec
     cases two with
     | false =>
      simp only [GMb, GMc, Aw]
      exact h9
     | true =>
      have h5 : ¬ L[i].lv = 3 := by simpa using h3
      simp only [GMb, GMc, Av hi, Ah, As, Nat.zero_add, Bc, h5, Aw]
      exact h9
  unfold Sh.f15
  cases two with
  | false =>
   simp only [GMb, GMc, Aw, A2, hi', Av hi, Ah, As, Nat.zero_add, Bc, hnlv]
   exact kids
  | true =>
   have h5 : ¬ L[i].lv < 3 := by simpa using hsk
   simp only [GMb, GMc, Aw, A2, hi', Av hi, Ah, As, Nat.zero_add, Bc, h5, hnlv]
   exact kids
end Go.Gm
namespace Go.Gm
theorem growF_ok {level : Int} (hlev : level ≤ 1329) : ∀ (d : Nat) (l : List Nd), Az l = true → 0 < l.length → (At l l.length).lv ≤ level → level ≤ (At l l.length).lv + d →
  Az (F2 level d l) = true ∧ 0 < (F2 level d l).length ∧ (At (F2 level d l) (F2 level d l).length).lv = level ∧ (F2 level d l).length ≤ l.length + 5 * d
 | 0, l, hl, h0, h1, h2 => ⟨hl, h0, by show (At l l.length).lv = level; omega, Nat.le_refl _⟩
 | d + 1, l, hl, h0, h1, h2 => by
  show Az (if _ then _ else _) = true ∧ 0 < (if _ then _ else _ : List Nd).length ∧ _
  by_cases h : (At l l.length).lv < level
  ·have e : F2 level (d + 1) l = F2 level d (BV l) := by show (if _ then _ else _) = _; rw [if_pos h]
   obtain ⟨k1, ⟨x, k2, k3⟩, k4, k5⟩ := N3 hl h0 (by omega)
   have ih := growF_ok hlev d (BV l) k1 k4 (by omega) (by rw [k5]; omega)
   rw [e]
   rw [if_pos h]
   refine ⟨ih.1, ih.2.1, ih.2.2.1, ?_⟩
   have h4 := ih.2.2.2
   have h5 := congrArg List.length k2
   simp at h5; omega
  ·have e : F2 level (d + 1) l = l := by show (if _ then _ else _) = _; rw [if_neg h]
   rw [e]
   rw [if_neg h]
   exact ⟨hl, h0, by omega, by omega⟩
theorem grow_lv {L : List Nd} (hl : Az L = true) (hn : L ≠ []) {level : Int} (h1 : DO L ≤ level) (h2 : level ≤ 1329) : Az (EW L level) = true ∧ (EW L level).length ≤ L.length + 7000 ∧ Lv (EW L level) level.toNat (EW L level).length := by
 have hlen : 0 < L.length := List.length_pos_iff.2 hn
 have h3 := (A0 hl (show L.length - 1 < L.length by omega)).1
 have hnd : At L (L.length : Int) = L[L.length - 1] := BE (by omega) (by omega)
 unfold EW
 rw [if_neg (by intro h; rcases h with h | h; omega; exact hn h)]
 obtain ⟨k1, k2, k3, k4⟩ := growF_ok h2 1400 L hl hlen h1 (by rw [hnd]; omega)
 exact ⟨k1, by omega, Nat.le_refl _, .inr (by rw [k3])⟩
theorem q14_lines (L : List Nd) (H : Ab) (hL : L.length < 274877900000) (hl : Az L = true) : Sh.f2b (J1 L) H = some (.ret (.sl (enL cS (Ex L)) .no), H) := by
 unfold Sh.f2b
 have e3 : (H ++ [Blk.cel 0 (CP L)])[H.length]? = some (.cel 0 (CP L)) := AA
 have hmo := fun H => q08_mostZ (L := L) H (by omega) hl
 have hlv : ∀ H, Sh.fu (J1 L) H = some (.ret (.int .i64 (if L = [] then 0 else DO L)), H) := fun H => q05_level L .no H (by omega)
 have key : ∀ two, two = twoQ L → (Ex L = (BC L two L.length).1) → ((A8 (.sl (enL cNd L) .no)).bind fun x28 => (Af .none .add x28 (.int .i64 1)).bind fun x29 => A1 (EE 1 8 (some [(.int .i64 0)]) x29 x29 (H ++ [Blk.cel 0 (CP L)])) fun x30 H31 =>
   Ao (fun rec1 vs H1 => Sh.f15 H rec1 (ag vs 0) (ag vs 1) (ag vs 2) (ag vs 3) (ag vs 4) H1) AI [.sl (enL cNd L) .no, .bool two, (.sl [] .tight), x30, (.int .i64 0)] H31) = some (.ret (.sl (enL cS (Ex L)) .no), H) := by
  intro two htwo hlL
  have hmk := Fm (f := cN) (a := 0) (n := L.length + 1) (bytes := 8) (H := H ++ [Blk.cel 0 (CP L)]) (by omega) (by omega)
  rw [show cN 0 = [Aa.int .i64 0] from rfl] at hmk
  simp only [A2, Bk, B4, Au (show L.length < 9223372036854775807 by omega), hmk, BD]
  have hb : H.length ≤ (H ++ [Blk.cel 0 (CP L)]).length := by simp
  have fp : (H ++ [Blk.cel 0 (CP L)] ++ [Blk.cel 0 (flat cN (List.replicate (L.length + 1) 0))])[(H ++ [Blk.cel 0 (CP L)]).length]? = some (.cel 0 (flat cN ((BC L two 0).2 ++ List.replicate (L.length - 0) 0))) := by
   rw [AA]; simp [BC, List.replicate_succ]
  have hold : ∀ i, i < H.length → (H ++ [Blk.cel 0 (CP L)] ++ [Blk.cel 0 (flat cN (List.replicate (L.length + 1) 0))])[i]? = H[i]? := fun i hi => by rw [List.append_assoc, List.getElem?_append_left hi]
  have hlen : H.length ≤ (H ++ [Blk.cel 0 (CP L)] ++ [Blk.cel 0 (flat cN (List.replicate (L.length + 1) 0))]).length := by simp
  generalize (H ++ [Blk.cel 0 (CP L)]).length = p at *
  generalize H ++ [Blk.cel 0 (CP L)] ++ [Blk.cel 0 (flat cN (List.replicate (L.length + 1) 0))] = Hc at *
  have loop := LS (G := fun rec1 vs H1 => Sh.f15 H rec1 (ag vs 0) (ag vs 1) (ag vs 2) (ag vs 3) (ag vs 4) H1) L.length
   (fun i vs Hd => ∃ v, vs = [.sl (enL cNd L) .no, .bool two, v, .ms p 0 0 (L.length + 1) (L.length + 1) 1 true, .int .i64 (i : Int)] ∧ RS cS Kn 1 H.length (BC L two i).1 v Hd ∧ Hd[p]? = some (.cel 0 (flat cN ((BC L two i).2 ++ List.replicate (L.length - i) 0))) ∧ (∀ j, j < H.length → Hd[j]? = H[j]?) ∧ H.length ≤ Hd.length)
   (by omega) (fun i vs Hd hi hI => ?_) (vs := [.sl (enL cNd L) .no, .bool two, .sl [] .tight, .ms p 0 0 (L.length + 1) (L.length + 1) 1 true, .int .i64 0]) (H := Hc) ⟨_, rfl, .inl ⟨rfl, rfl⟩, fp, hold, hlen⟩
  ·obtain ⟨vs', Hd, ⟨v, rfl, gR, _, go, gl⟩, rec, hloop⟩ := loop
   rw [hloop]
   obtain ⟨tk2, rfl⟩ := gR.sl
   unfold Sh.f15
   simp only [GMb, GMc, Aw, A2, Int.lt_irrefl, Fw (BN go), K3, Option.map_some]
   rw [hlL]
  ·obtain ⟨v, rfl, gR, gp, go, gl⟩ := hI
   obtain ⟨n1, n2, n3⟩ := Hp L two i
   obtain ⟨v', H', a1, a2, a3, a4, a5⟩ := lines_turn (two := two) (by omega) hl hi p (BC L two i).1 v Hd .no (BC L two i).2 n1 n3 n2 hb gp gR gl (line_ok (by omega) hl two hi)
   have hx : L.getD i nd0 = L[i] := by rw [List.getD_eq_getElem?_getD, List.getElem?_eq_getElem hi]; rfl
   have hnext : BC L two (i + 1) = if two && decide (L[i].lv < 3) then ((BC L two i).1, (BC L two i).2 ++ [0]) else ((BC L two i).1 ++ [EG L two (BC L two i).2 i L[i]], (BC L two i).2 ++ [(BC L two i).1.length + 1]) := by
    simp only [BC, hx]
   refine ⟨_, H', ⟨v', rfl, by rw [hnext]; exact a1, by rw [hnext]; exact a2, fun j hj => by rw [a3 j hj]; exact go j hj, a4⟩, fun rec => a5 rec⟩
 have htw : decide (JQ L ≤ 1) = twoQ L := rfl
 simp only [GMb, GMc, boxQ, Aj, Nat.zero_add, DG e3, Oe e3, hmo, htw]
 cases htq : twoQ L with
 | false =>
  simp only [GMb, GMc]
  exact key false htq.symm (by unfold Ex; rw [htq]; rfl)
 | true =>
  simp only [GMb, GMc, Oe e3, hlv]
  by_cases hn : L = []
  ·have hk := key true htq.symm (by unfold Ex; rw [htq, hn]; simp)
   rw [if_pos hn]
   have : ¬ ((0 : Int) > 0) := by decide
   simp only [this, GMb, GMc]
   exact hk
  ·rw [if_neg hn]
   have hlen : 0 < L.length := List.length_pos_iff.2 hn
   have h3 := (A0 hl (show L.length - 1 < L.length by omega)).1
   have hnd : At L (L.length : Int) = L[L.length - 1] := BE (by omega) (by omega)
   have hpos : DO L > 0 := by unfold DO; rw [hnd]; omega
   simp only [hpos, GMb, GMc, Oe e3, hlv, if_neg hn]
   by_cases h33 : DO L < 3
   ·obtain ⟨g1, g2, g3⟩ := grow_lv hl hn (level := 3) (by omega) (by omega)
    have hgr := fun H => q06_grow L 3 H (by omega) hl (by omega) (by omega)
    have hlf := fun H => q14_leaf (L := EW L 3) .no (EW L 3).length H (by omega) g1 g3
    have hlL : Ex L = [N2 (EW L 3) (EW L 3).length] := by unfold Ex; rw [htq]; simp [hn, h33]
    simp only [h33, GMb, GMc, Oe e3, hgr, Dg, Ez, hlf, build_S, D0, K3, Option.map_some]
    rw [hlL]
   ·have hk := key true htq.symm (by unfold Ex; rw [htq]; simp [h33])
    simp only [h33, GMb, GMc]
    exact hk
def Nq (s0 : List UInt8) (l : List (List UInt8)) : List UInt8 := l.foldl (fun s t => s ++ t ++ [10]) s0
def Gn (rule : List UInt8) : List UInt8 := [91, 77, 50, 93, 32, 40, 103, 108, 105, 100, 101, 114, 41, 10, 35, 82, 32] ++ rule ++ [10]
def treeTx (rule : List UInt8) (L : List Nd) : List UInt8 := Nq (Gn rule) (Ex L)
theorem Ow (s0 : List UInt8) (l : List (List UInt8)) {i : Nat} (hi : i < l.length) : Nq s0 (l.take (i + 1)) = Nq s0 (l.take i) ++ l[i] ++ [10] := by
 unfold Nq
 rw [List.take_succ_eq_append_getElem hi, List.foldl_append]; rfl
theorem Qp (s0 : List UInt8) (l : List (List UInt8)) (h : ∀ t ∈ l, t.length ≤ 30000) : ∀ i, i ≤ l.length → (Nq s0 (l.take i)).length ≤ s0.length + i * 30001
 | 0, _ => by simp [Nq]
 | i + 1, hi => by
  have ih := Qp s0 l h i (by omega)
  have h2 := h l[i] (List.getElem_mem hi)
  rw [Ow s0 l hi]
  simp only [List.length_append, List.length_singleton]
  omega
theorem q14_text (rule : List UInt8) (L : List Nd) (H : Ab) (hr : rule.length < 35184372088832) (hL : L.length < 274877900000) :
  Sh.fk (pat rule L) H = some (.ret (if Ia rule && DT L then .tup [.str (treeTx rule L), .int .i64 0] else .tup [.str [], .int .i64 1]), H) := by
 unfold Sh.fk
 have e3 : (H ++ [Blk.cel 0 (PW rule L)])[H.length]? = some (.cel 0 (PW rule L)) := AA
 have hck := fun H => q11_right rule L H (by omega) (by omega)
 simp only [GMb, GMc, boxPat, load_patP e3, hck]
 cases hrb : Ia rule && DT L with
 | false =>
  simp only [GMb, GMc]
  exact rP_plain (v := .tup [.str [], .int .i64 1]) rfl
 | true =>
  have hl : Az L = true := by
   rw [Bool.and_eq_true] at hrb
   exact qright_loose hrb.2
  have hli := fun H => q14_lines L H hL hl
  simp only [GMb, GMc, Aj, Nat.zero_add, Nat.add_zero, Ph e3]
  rw [Bm (by simp; omega)]
  simp only [GMb, GMc]
  rw [Bm (by simp; omega)]
  simp only [GMb, GMc, Pi e3, hli]
  obtain ⟨k1, k2⟩ := linesL_ok (by omega) hl
  unfold treeTx
  have hhl : (Gn rule).length ≤ 35184372088932 := by unfold Gn; simp; omega
  generalize Ex L = l at *
  refine BM (G := fun rec1 vs H1 => Sh.f3t H rec1 (ag vs 0) (ag vs 1) (ag vs 2) H1) l.length (fun i => [.str (Nq (Gn rule) (l.take i)), .sl (enL cS l) .no, .int .i64 (i : Int)]) (fun _ => H ++ [Blk.cel 0 (PW rule L)]) _ (by omega) (fun rec i hi => ?_) (fun rec => ?_)
  ·have hi' : (i : Int) < (l.length : Int) := by omega
   have hws := Au (show i < 9223372036854775807 by omega)
   have hb := Qp (Gn rule) l k2 i (by omega)
   have h2 := k2 l[i] (List.getElem_mem hi)
   rw [Ow _ l hi]
   unfold Sh.f3t
   simp only [GMb, GMc, A2, hi', Av hi, As, List.getElem?_cons_zero]
   rw [Bm (by omega)]
   simp only [GMb, GMc]
   rw [Bm (by simp; omega)]
   simp only [GMb, GMc, hws]
  ·unfold Sh.f3t
   rw [List.take_of_length_le (Nat.le_refl _)]
   simp only [GMb, GMc, A2, Int.lt_irrefl]
   exact rP_plain (v := .tup [.str (Nq (Gn rule) l), .int .i64 0]) rfl
end Go.Gm
namespace Go.Gm
set_option maxRecDepth 100000
def tA : List UInt8 := [91, 77, 50, 93, 10, 50, 32, 49]
def tB : List UInt8 := [91, 77, 50, 93, 32, 120, 13, 10, 35, 82, 32, 97, 98, 99, 10, 35, 67, 32, 121, 10, 35, 71, 32, 55, 10, 36, 36, 36, 36, 46, 46, 46, 46, 42, 36, 10, 52, 32, 49, 32, 48, 32, 48, 32, 48, 10, 53, 32, 48, 32, 48, 32, 48, 32, 50]
def tC : List UInt8 := [91, 77, 50, 93, 10, 49, 32, 48, 32, 48, 32, 48, 32, 50, 53, 53, 10, 50, 32, 49, 32, 48, 32, 49, 32, 48, 10]
def tD : List UInt8 := [91, 77, 50, 93, 10, 49, 32, 48, 32, 48, 32, 48, 32, 50, 53, 53, 10, 50, 32, 49]
def tE : List UInt8 := [91, 77, 50, 93, 10, 10]
def tF : List UInt8 := [91, 77, 50, 93, 10, 49, 32, 48, 32, 48, 32, 48, 32, 49, 10, 50, 32, 49, 32, 49, 32, 48, 32, 48]
def lB : List Nd := [⟨1, 1, 0, 0, 0⟩, ⟨2, 1, 0, 0, 0⟩, ⟨3, 0, 0, 0, 2⟩, ⟨4, 0, 0, 0, 3⟩]
def lC : List Nd := [⟨1, 0, 0, 0, 255⟩, ⟨2, 1, 0, 1, 0⟩]
def hD : List UInt8 := [32, 48, 32, 48, 32, 48]
def sB : List UInt8 := [91, 77, 50, 93, 32, 40, 103, 108, 105, 100, 101, 114, 41, 10, 35, 82, 32, 97, 98, 99, 10, 36, 36, 36, 36, 46, 46, 46, 46, 42, 36, 10, 52, 32, 48, 32, 48, 32, 48, 32, 49, 10]
def sC : List UInt8 := [91, 77, 50, 93, 32, 40, 103, 108, 105, 100, 101, 114, 41, 10, 35, 82, 32, 66, 51, 47, 83, 50, 51, 10, 49, 32, 48, 32, 48, 32, 48, 32, 50, 53, 53, 10, 50, 32, 49, 32, 48, 32, 49, 32, 48, 10]
theorem xA : Jz tA 1000 100000 = (([], []), 7, 2) := by decide +kernel
theorem xB : Jz tB 1000 100000 = (([97, 98, 99], lB), 0, 0) := by decide +kernel
theorem xC : Jz tC 1000 100000 = ((DM, lC), 0, 0) := by decide +kernel
theorem xD : hintR tD = (hD, true) := by decide +kernel
theorem xD2 : (Jz (tD ++ hD) 1000 100000).2.2 = 0 := by decide +kernel
theorem xE : hintR tE = ([], false) := by decide +kernel
theorem xF : Jz tF 0 1 = (([], []), 15, 4) := by decide +kernel
theorem rB : (Ia [97, 98, 99] && DT lB) = true := by decide +kernel
theorem rC : (Ia DM && DT lC) = true := by decide +kernel
theorem wB : treeTx [97, 98, 99] lB = sB := by decide +kernel
theorem wC : treeTx DM lC = sC := by decide +kernel
theorem q19_alive (H : Ab) : Sh.fm H = some (.ret (.bool true), H) := by
 have hA := fun K => Cg tA 1000 100000 K (by decide)
 have hB := fun K => Cg tB 1000 100000 K (by decide)
 have hC := fun K => Cg tC 1000 100000 K (by decide)
 have hD1 := fun K => LG tD K (by decide)
 have hD2 := fun K => Cg (tD ++ hD) 1000 100000 K (by decide)
 have hE := fun K => LG tE K (by decide)
 have hF := fun K => Cg tF 0 1 K (by decide)
 have hTB := fun K => q14_text [97, 98, 99] lB K (by decide) (by decide)
 have hTC := fun K => q14_text DM lC K (by decide) (by decide)
 have hx2 := xD2
 generalize Jz (tD ++ hD) 1000 100000 = R at hD2 hx2
 obtain ⟨⟨r1, r2⟩, r3, r4⟩ := R
 dsimp only at hx2
 subst hx2
 have hadd : Af .none .add (.str tD) (.str hD) = some (.str (tD ++ hD)) := Bm (by decide)
 have b1 : A5 (some [(.int .i64 0), (.int .i64 0)]) [(1, 1, (.int .i64 1))] = some (.agg [.int .i64 0, .int .i64 1]) := rfl
 rw [xA] at hA
 rw [xB] at hB
 rw [xC] at hC
 rw [xD] at hD1
 rw [xE] at hE
 rw [xF] at hF
 rw [rB, wB] at hTB
 rw [rC, wC] at hTC
 simp only [KR, Li, if_true] at hA hB hC hD2 hF hTB hTC
 dsimp only at hD1 hE
 unfold Sh.fm
 rw [show ([91, 77, 50, 93, 10, 50, 32, 49] : List UInt8) = tA from rfl, show ([91, 77, 50, 93, 32, 120, 13, 10, 35, 82, 32, 97, 98, 99, 10, 35, 67, 32, 121, 10, 35, 71, 32, 55, 10, 36, 36, 36, 36, 46, 46, 46, 46, 42, 36, 10, 52, 32, 49, 32, 48, 32, 48, 32, 48, 10, 53, 32, 48, 32, 48, 32, 48, 32, 50] : List UInt8) = tB from rfl,
  show ([91, 77, 50, 93, 10, 49, 32, 48, 32, 48, 32, 48, 32, 50, 53, 53, 10, 50, 32, 49, 32, 48, 32, 49, 32, 48, 10] : List UInt8) = tC from rfl, show ([91, 77, 50, 93, 10, 49, 32, 48, 32, 48, 32, 48, 32, 50, 53, 53, 10, 50, 32, 49] : List UInt8) = tD from rfl,
  show ([91, 77, 50, 93, 10, 10] : List UInt8) = tE from rfl, show ([91, 77, 50, 93, 10, 49, 32, 48, 32, 48, 32, 48, 32, 49, 10, 50, 32, 49, 32, 49, 32, 48, 32, 48] : List UInt8) = tF from rfl,
  show ([91, 77, 50, 93, 32, 40, 103, 108, 105, 100, 101, 114, 41, 10, 35, 82, 32, 97, 98, 99, 10, 36, 36, 36, 36, 46, 46, 46, 46, 42, 36, 10, 52, 32, 48, 32, 48, 32, 48, 32, 49, 10] : List UInt8) = sB from rfl,
  show ([91, 77, 50, 93, 32, 40, 103, 108, 105, 100, 101, 114, 41, 10, 35, 82, 32, 66, 51, 47, 83, 50, 51, 10, 49, 32, 48, 32, 48, 32, 48, 32, 50, 53, 53, 10, 50, 32, 49, 32, 48, 32, 49, 32, 48, 10] : List UInt8) = sC from rfl]
 simp only [Sl.gliderref11_Wide_eq, Sl.macro_Read_eq, Sl.gliderref14_Text_eq, Sl.macro_Hint_eq, GMb, GMc, HPa, HPc, HPd, HPe, HPz, Nat.reduceAdd, Nat.reduceLT, OF, hA, hB, hC, hD1, hadd, hD2, hE, hF, hTB, hTC, b1, Ki, beq_self_eq_true]
end Go.Gm
namespace Go.Gm
theorem Ed {b t : List UInt8} {a : Nat} {c : UInt8} (h : b.drop a = c :: t) : a < b.length ∧ b[a]? = some c ∧ b.drop (a + 1) = t := by
 have hl : a < b.length := by
  rcases Nat.lt_or_ge a b.length with h' | h'
  ·exact h'
  ·rw [List.drop_eq_nil_of_le h'] at h; cases h
 rw [List.drop_eq_getElem_cons hl] at h
 injection h with h1 h2
 exact ⟨hl, by rw [List.getElem?_eq_getElem hl, h1], h2⟩
theorem Cd {b t : List UInt8} {a : Nat} {c : UInt8} (h : b.drop a = c :: t) (s : List UInt8) : A7 b a s = s.contains c := by
 unfold A7; rw [(Ed h).2.1]
theorem Mg {b t : List UInt8} {a d : Nat} (hd : d < 10) (h : b.drop a = UInt8.ofNat (48 + d) :: t) : A7 b a BI = true ∧ Dh b a = d := by
 have hn : (UInt8.ofNat (48 + d)).toNat = 48 + d := by rw [UInt8.toNat_ofNat']; omega
 refine ⟨?_, ?_⟩
 ·rw [Cd h]
  unfold BI
  rw [digs_mem, decide_eq_true_eq, hn]; omega
 ·unfold Dh
  rw [List.getD_eq_getElem?_getD, (Ed h).2.1]
  show (UInt8.ofNat (48 + d)).toNat - 48 = d
  omega
theorem CW {b s t : List UInt8} {a : Nat} (h : b.drop a = s ++ t) : b.drop (a + s.length) = t := by
 rw [← List.drop_drop, h, List.drop_left]
theorem lev_run (b : List UInt8) (a K : Nat) : ∀ (m : Nat), m ≤ 1329 → ∀ t, b.drop a = AP m ++ t → FK b (K + (AP m).length) a 0 = FK b K (a + (AP m).length) m := by
 intro m
 induction m using Nat.strongRecOn generalizing K with
 | _ m ih =>
  intro hm t h
  by_cases h10 : m < 10
  ·rw [CX h10] at h ⊢
   obtain ⟨s1, s2⟩ := Mg h10 h
   show FK b (K + 1) a 0 = _
   conv => lhs; unfold FK
   rw [if_pos s1, s2, if_neg (by omega)]
   simp
  ·rw [CY h10] at h ⊢
   rw [List.append_assoc] at h
   have := ih (m / 10) (by omega) (K + 1) (by omega) _ h
   rw [List.length_append, List.length_singleton, show K + ((AP (m / 10)).length + 1) = K + 1 + (AP (m / 10)).length by omega, this]
   have h2 := CW h
   obtain ⟨s1, s2⟩ := Mg (show m % 10 < 10 by omega) h2
   conv => lhs; unfold FK
   rw [if_pos s1, s2, if_neg (by omega), show 10 * (m / 10) + m % 10 = m by omega, Nat.add_assoc]
theorem level_ok {b t : List UInt8} {a v : Nat} {c : UInt8} (hv : 1 ≤ v) (hv2 : v ≤ 1329) (h : b.drop a = AP v ++ c :: t) (hc : BI.contains c = false) : BT b a = (none, a + (AP v).length, v) := by
 have hl : (AP v).length + 1 ≤ b.length - a := by
  have := congrArg List.length h
  rw [List.length_drop, List.length_append, List.length_cons] at this; omega
 obtain ⟨c0, r0, h0, h0'⟩ := QY v (by omega)
 unfold BT
 rw [if_neg (by
  rw [h0] at h
  rw [Cd (c := c0) (t := r0 ++ c :: t) (by rw [h]; rfl)]
  simpa using fun h => h0' h)]
 obtain ⟨K, hK⟩ : ∃ K, b.length + 1 - a = (K + 1) + (AP v).length := ⟨b.length - a - (AP v).length, by omega⟩
 rw [hK, lev_run b a (K + 1) v hv2 _ h]
 unfold FK
 rw [Cd (CW h), hc, if_neg (by decide), if_neg (by omega)]
section
variable {lines : List (Nat × Int)} {lv : Int}
theorem kid_run (b : List UInt8) (a K N0 : Nat) (rest : List UInt8) (hm0 : CQ lines lv N0 = true) : ∀ (m : Nat) (s t : List UInt8), AP N0 = AP m ++ s → b.drop a = AP m ++ t → G4 b lines lv a rest (K + (AP m).length) a 0 = G4 b lines lv a rest K (a + (AP m).length) m := by
 intro m
 induction m using Nat.strongRecOn generalizing K with
 | _ m ih =>
  intro s t hs h
  have hlong : (EF lines lv m).isSome = true := (longS_iff lines lv m).2 ⟨N0, s, hs, hm0⟩
  by_cases h10 : m < 10
  ·rw [CX h10] at h ⊢
   obtain ⟨s1, s2⟩ := Mg h10 h
   show G4 b lines lv a rest (K + 1) a 0 = _
   conv => lhs; unfold G4
   rw [if_pos s1, s2, if_neg (by omega), show 10 * 0 + m = m by omega, if_pos hlong]
   rfl
  ·rw [CY h10] at h ⊢
   rw [CY h10, List.append_assoc] at hs
   rw [List.append_assoc] at h
   have := ih (m / 10) (by omega) (K + 1) _ _ hs h
   rw [List.length_append, List.length_singleton, show K + ((AP (m / 10)).length + 1) = K + 1 + (AP (m / 10)).length by omega, this]
   have h2 := CW h
   obtain ⟨s1, s2⟩ := Mg (show m % 10 < 10 by omega) h2
   conv => lhs; unfold G4
   rw [if_pos s1, s2, if_neg (by omega), show 10 * (m / 10) + m % 10 = m by omega, if_pos hlong, Nat.add_assoc]
theorem kid_ok {b t : List UInt8} {a n : Nat} {c : UInt8} (rest : List UInt8) (h : b.drop a = AP n ++ c :: t) (hc : BI.contains c = false) (hm : CQ lines lv n = true) : LT b a lines lv rest = (none, a + (AP n).length, DP lines lv n) := by
 have hl : (AP n).length + 1 ≤ b.length - a := by
  have := congrArg List.length h
  rw [List.length_drop, List.length_append, List.length_cons] at this; omega
 obtain ⟨K, hK⟩ : ∃ K, b.length + 1 - a = (K + 1) + (AP n).length := ⟨b.length - a - (AP n).length, by omega⟩
 have hp := PC n
 unfold LT
 rw [hK, kid_run b a (K + 1) n rest hm n [] _ (by simp) h]
 unfold G4
 rw [Cd (CW h), hc, if_neg (by decide), if_neg (by omega), if_pos hm]
theorem must_one {b t : List UInt8} {a : Nat} {c : UInt8} (h : b.drop a = c :: t) (rest : List UInt8) : BA b a [c] rest = (none, a + 1) := by
 have h1 : cpN (b.drop a) [c] = 1 := by
  rw [h]
  show (if c = c then cpN t [] + 1 else 0) = 1
  rw [if_pos rfl]
  cases t <;> rfl
 unfold BA Ho
 rw [h1]
 rfl
theorem Kx {b t : List UInt8} {a n : Nat} {c : UInt8} (d k : Nat) (x : Nd) (rest : List UInt8) (h : b.drop a = 32 :: (AP n ++ c :: t)) (hc : BI.contains c = false) (hm : CQ lines lv n = true) :
  DX b lines lv (d + 1) k a x rest = DX b lines lv d (k + 1) (a + 1 + (AP n).length) (x.setKid k (DP lines lv n : Int)) (rest.drop 2) := by
 conv => lhs; unfold DX
 rw [must_one h]
 dsimp only
 rw [kid_ok rest (Ed h).2.2 hc hm]

end
def lnT (v n0 n1 n2 n3 : Nat) : List UInt8 := AP v ++ (32 :: AP n0 ++ (32 :: AP n1 ++ (32 :: AP n2 ++ 32 :: AP n3)))
theorem dig32 : BI.contains (32 : UInt8) = false := by decide
theorem node_ok {b t : List UInt8} {a v n0 n1 n2 n3 : Nat} {c : UInt8} (st : MSt) (hv : 1 ≤ v) (hv2 : v ≤ 1329) (h : b.drop a = lnT v n0 n1 n2 n3 ++ c :: t) (hc : BI.contains c = false)
  (h0 : CQ st.lines v n0 = true) (h1 : CQ st.lines v n1 = true) (h2 : CQ st.lines v n2 = true) (h3 : CQ st.lines v n3 = true) :
  LM b a st = ((none, a + (lnT v n0 n1 n2 n3).length), { st with nodes := st.nodes ++ [⟨v, DP st.lines v n0, DP st.lines v n1, DP st.lines v n2, DP st.lines v n3⟩], lines := st.lines ++ [(st.nodes.length + 1, (v : Int))] }) := by
 unfold lnT at h
 simp only [List.append_assoc, List.cons_append] at h
 unfold LM
 rw [level_ok hv hv2 h dig32]
 dsimp only
 have d0 := CW h
 have s0 := Kx (lines := st.lines) (lv := (v : Int)) 3 0 ⟨v, 0, 0, 0, 0⟩ [32, 48, 32, 48, 32, 48] d0 dig32 h0
 rw [s0]
 have d1 := CW (Ed d0).2.2
 rw [Kx (lines := st.lines) (lv := (v : Int)) 2 1 _ _ d1 dig32 h1]
 have d2 := CW (Ed d1).2.2
 rw [Kx (lines := st.lines) (lv := (v : Int)) 1 2 _ _ d2 dig32 h2]
 have d3 := CW (Ed d2).2.2
 rw [Kx (lines := st.lines) (lv := (v : Int)) 0 3 _ _ d3 hc h3]
 unfold DX
 dsimp only
 have hlen : a + (AP v).length + 1 + (AP n0).length + 1 + (AP n1).length + 1 + (AP n2).length + 1 + (AP n3).length = a + (lnT v n0 n1 n2 n3).length := by
  unfold lnT; simp only [List.length_append, List.length_cons, List.cons_append]; omega
 rw [hlen]
 rfl
end Go.Gm
namespace Go.Gm
def ndT (x : Nd) : List UInt8 := lnT x.lv.toNat x.k0.toNat x.k1.toNat x.k2.toNat x.k3.toNat
def B8 (l : List Nd) : List UInt8 := l.flatMap fun x => ndT x ++ [10]
def CA (l : List Nd) : List (Nat × Int) := (List.range l.length).map fun i => (i + 1, (l.getD i nd0).lv)
theorem Kv (l : List Nd) : (CA l).length = l.length := by simp [CA]
theorem lnsOf_snoc (l : List Nd) (x : Nd) : CA (l ++ [x]) = CA l ++ [(l.length + 1, x.lv)] := by
 unfold CA
 rw [List.length_append, List.length_singleton, List.range_succ, List.map_append]
 congr 1
 ·apply List.map_congr_left
  intro i hi
  rw [List.mem_range] at hi
  rw [List.getD_eq_getElem?_getD, List.getD_eq_getElem?_getD, List.getElem?_append_left hi]
 ·simp
theorem QB {l : List Nd} {i : Nat} (h : i < l.length) : (CA l)[i]? = some (i + 1, l[i].lv) := by
 unfold CA
 rw [List.getElem?_map, List.getElem?_range h]
 simp [List.getElem?_eq_getElem h]
theorem may_of {pre post : List Nd} {x : Nd} (hl : Az (pre ++ x :: post) = true) {k : Nat} (hk : k < 4) : CQ (CA pre) x.lv (x.kid k).toNat = true ∧ (DP (CA pre) x.lv (x.kid k).toNat : Int) = x.kid k := by
 have hi : pre.length < (pre ++ x :: post).length := by simp
 have hx : (pre ++ x :: post)[pre.length] = x := by simp
 obtain ⟨h1, h2, h3⟩ := A0 hl hi
 rw [hx] at h1 h2 h3
 obtain ⟨g1, g2, g3⟩ := h3 k hk
 have hbase : ¬ (1 < x.lv ∧ 0 < (x.kid k).toNat) → (DP (CA pre) x.lv (x.kid k).toNat : Int) = x.kid k := fun h => by
  unfold DP; rw [if_neg h, Int.toNat_of_nonneg g1]
 by_cases hv : x.lv = 1
 ·refine ⟨?_, hbase (by omega)⟩
  unfold CQ
  rw [if_pos hv, decide_eq_true_eq]
  have := g2 hv; omega
 ·by_cases h0 : (x.kid k).toNat = 0
  ·refine ⟨?_, hbase (by omega)⟩
   unfold CQ
   rw [if_neg hv, if_pos h0]
  ·obtain ⟨q1, q2⟩ := g3 (by omega) (by omega)
   have hlt : (x.kid k).toNat - 1 < pre.length := by omega
   have hg := QB hlt
   have hq := q2 pre[(x.kid k).toNat - 1] (by
    rw [show (x.kid k - 1).toNat = (x.kid k).toNat - 1 by omega, List.getElem?_append_left hlt, List.getElem?_eq_getElem hlt])
   refine ⟨?_, ?_⟩
   ·unfold CQ
    rw [if_neg hv, if_neg h0, hg]
    exact decide_eq_true hq
   ·unfold DP
    rw [if_pos ⟨by omega, by omega⟩, hg]
    simp only [Option.getD_some]
    omega
theorem nd_head {v : Nat} (h : v ≠ 0) (r : List UInt8) : ∃ c t, AP v ++ r = c :: t ∧ ([46, 42, 36] : List UInt8).contains c = false ∧ ([35] : List UInt8).contains c = false ∧ ([46, 42, 36, 49, 50, 51, 52, 53, 54, 55, 56, 57] : List UInt8).contains c = true := by
 obtain ⟨c, t, h1, h2⟩ := QY v h
 have hd := decN_dig v c (by rw [h1]; simp)
 refine ⟨c, t ++ r, by rw [h1]; rfl, ?_⟩
 have key : ∀ n : Fin 256, EV (UInt8.ofNat n.val) = true → UInt8.ofNat n.val ≠ 48 → (([46, 42, 36] : List UInt8).contains (UInt8.ofNat n.val) = false ∧ ([35] : List UInt8).contains (UInt8.ofNat n.val) = false ∧ ([46, 42, 36, 49, 50, 51, 52, 53, 54, 55, 56, 57] : List UInt8).contains (UInt8.ofNat n.val) = true) := by decide +kernel
 have := key ⟨c.toNat, c.toNat_lt⟩
 simp only [UInt8.ofNat_toNat] at this
 exact this hd h2
theorem end_lf {b t : List UInt8} {a : Nat} (h : b.drop a = 10 :: t) (rest : List UInt8) : Hw b a rest = (none, a + 1) := by
 have hne : a ≠ b.length := by have := (Ed h).1; omega
 have h13 : A7 b a [13] = false := by rw [Cd h]; decide
 have h10 : A7 b a [10] = true := by rw [Cd h]; decide
 unfold Hw eolN crN
 simp only [h13, h10, if_neg hne, Bool.false_eq_true, if_false, if_true]
theorem ndT_lv {x : Nd} (h : 1 ≤ x.lv) (r : List UInt8) : ∃ s, ndT x ++ r = AP x.lv.toNat ++ s := ⟨_, by unfold ndT lnT; rw [List.append_assoc]⟩
theorem one_ok {b t : List UInt8} {a : Nat} {law : List UInt8} {pre post : List Nd} {x : Nd} {N : Int} (hl : Az (pre ++ x :: post) = true) (h : b.drop a = ndT x ++ 10 :: t) (hN : (pre.length : Int) < N) :
  M4 b N a ⟨law, pre, CA pre⟩ = ((none, a + (ndT x).length + 1), ⟨law, pre ++ [x], CA (pre ++ [x])⟩) := by
 have hi : pre.length < (pre ++ x :: post).length := by simp
 have hx : (pre ++ x :: post)[pre.length] = x := by simp
 obtain ⟨h1, h2, h3⟩ := A0 hl hi
 rw [hx] at h1 h2 h3
 obtain ⟨s, hs⟩ := ndT_lv h1 (10 :: t)
 obtain ⟨c, u, e1, e2, e3, e4⟩ := nd_head (v := x.lv.toNat) (by omega) s
 have hd : b.drop a = c :: u := by rw [h, hs, e1]
 have m0 := may_of hl (k := 0) (by decide)
 have m1 := may_of hl (k := 1) (by decide)
 have m2 := may_of hl (k := 2) (by decide)
 have m3 := may_of hl (k := 3) (by decide)
 have hlv : (x.lv.toNat : Int) = x.lv := Int.toNat_of_nonneg (by omega)
 have hnode := node_ok (t := t) (c := 10) ⟨law, pre, CA pre⟩ (v := x.lv.toNat) (n0 := x.k0.toNat) (n1 := x.k1.toNat) (n2 := x.k2.toNat) (n3 := x.k3.toNat) (by omega) (by omega) h (by decide)
  (by rw [hlv]; exact m0.1) (by rw [hlv]; exact m1.1) (by rw [hlv]; exact m2.1) (by rw [hlv]; exact m3.1)
 unfold M4 rlS
 rw [Cd hd, Cd hd, Cd hd, e2, e3, e4]
 dsimp only
 rw [Kv, if_neg (by decide), if_neg (by simp; omega), if_neg (by decide), hnode]
 dsimp only
 rw [show lnT x.lv.toNat x.k0.toNat x.k1.toNat x.k2.toNat x.k3.toNat = ndT x from rfl, end_lf (CW h)]
 have hxx : (⟨(x.lv.toNat : Int), DP (CA pre) (x.lv.toNat : Int) x.k0.toNat, DP (CA pre) (x.lv.toNat : Int) x.k1.toNat, DP (CA pre) (x.lv.toNat : Int) x.k2.toNat, DP (CA pre) (x.lv.toNat : Int) x.k3.toNat⟩ : Nd) = x := by
  rw [hlv]
  obtain ⟨y0, y1, y2, y3, y4⟩ := x
  have q0 := m0.2; have q1 := m1.2; have q2 := m2.2; have q3 := m3.2
  simp only [Nd.kid] at q0 q1 q2 q3
  simp only [q0, q1, q2, q3]
 rw [lnsOf_snoc, hxx, hlv]
theorem JS (x : Nd) (l : List Nd) : B8 (x :: l) = ndT x ++ 10 :: B8 l := by
 unfold B8; rw [List.flatMap_cons, List.append_assoc]; rfl
theorem ndT_pos (x : Nd) : 0 < (ndT x).length := by
 unfold ndT lnT; rw [List.length_append]; have := PC x.lv.toNat; omega
theorem Pj (b : List UInt8) (law : List UInt8) (N : Int) : ∀ (mid pre post : List Nd) (a K : Nat) (t : List UInt8), Az (pre ++ mid ++ post) = true → b.drop a = B8 mid ++ t → ((pre.length + mid.length : Nat) : Int) ≤ N →
  Dl b N (K + mid.length) a ⟨law, pre, CA pre⟩ = Dl b N K (a + (B8 mid).length) ⟨law, pre ++ mid, CA (pre ++ mid)⟩
 | [], pre, post, a, K, t, _, _, _ => by simp [B8]
 | x :: mid, pre, post, a, K, t, hl, h, hN => by
  rw [JS, List.append_assoc, List.cons_append] at h
  simp only [List.append_assoc, List.cons_append] at hl
  simp only [List.length_cons] at hN ⊢
  have ho := one_ok (law := law) (N := N) hl h (by omega)
  have hd := (Ed (CW h)).2.2
  have hne : ¬ a = b.length := by
   intro e
   rw [e, List.drop_length] at h
   have := congrArg List.length h
   have hp := ndT_pos x
   simp only [List.length_append, List.length_nil, List.length_cons] at this; omega
  rw [show K + (mid.length + 1) = (K + mid.length) + 1 by omega]
  conv => lhs; unfold Dl
  rw [if_neg hne, ho]
  dsimp only
  have := Pj b law N mid (pre ++ [x]) post (a + (ndT x).length + 1) K t (by simpa using hl) hd (by simp only [List.length_append, List.length_singleton]; omega)
  rw [this, JS]
  simp only [List.append_assoc, List.cons_append, List.nil_append, List.length_append, List.length_cons]
  rw [show a + (ndT x).length + 1 + (B8 mid).length = a + ((ndT x).length + ((B8 mid).length + 1)) by omega]
theorem line_lim {b t : List UInt8} {a K : Nat} {law : List UInt8} {pre : List Nd} {x : Nd} {N : Int} (hx : 1 ≤ x.lv) (h : b.drop a = ndT x ++ t) (hN : N ≤ (pre.length : Int)) :
  Dl b N (K + 1) a ⟨law, pre, CA pre⟩ = ((some (4, []), a), ⟨law, pre, CA pre⟩) := by
 obtain ⟨s, hs⟩ := ndT_lv hx t
 obtain ⟨c, u, e1, e2, e3, e4⟩ := nd_head (v := x.lv.toNat) (by omega) s
 have hd : b.drop a = c :: u := by rw [h, hs, e1]
 have hne : ¬ a = b.length := by have := (Ed hd).1; omega
 unfold Dl M4 rlS
 rw [if_neg hne, Cd hd, Cd hd, Cd hd, e2, e3, e4]
 dsimp only
 rw [Kv, if_neg (by decide), if_pos (by simp; omega)]
def B3 (l : List Nd) : List UInt8 := Cs ++ 10 :: B8 l
theorem head_ok (l : List Nd) : hdS (B3 l) = (none, 5) := by
 have h0 : (B3 l).drop 0 = 91 :: 77 :: 50 :: 93 :: 10 :: B8 l := rfl
 have hm : BA (B3 l) 0 Cs [] = (none, 4) := by
  have : cpN ((B3 l).drop 0) Cs = 4 := by
   rw [h0]
   show (if (91 : UInt8) = 91 then (if (77 : UInt8) = 77 then (if (50 : UInt8) = 50 then (if (93 : UInt8) = 93 then cpN (10 :: B8 l) [] + 1 else 0) + 1 else 0) + 1 else 0) + 1 else 0) = 4
   have : cpN (10 :: B8 l) [] = 0 := rfl
   rw [this]; decide
  unfold BA Ho
  rw [this]; rfl
 have h4 : (B3 l).drop 4 = 10 :: B8 l := rfl
 have ha : FL (B3 l) 4 = 4 := by
  unfold FL; rw [h4]; rfl
 unfold hdS
 rw [hm]
 dsimp only
 rw [ha, end_lf h4]
theorem root_lns {l : List Nd} : DR (CA l) = l.length := by
 unfold DR
 rw [List.getLast?_eq_getElem?, Kv]
 by_cases h : l.length = 0
 ·rw [h, List.getElem?_eq_none (by rw [Kv]; omega)]
 ·rw [QB (by omega)]; dsimp only; omega
theorem Pk (l : List Nd) : l.length ≤ (B8 l).length := by
 induction l with
 | nil => simp
 | cons x l ih => rw [JS, List.length_append, List.length_cons, List.length_cons]; have := ndT_pos x; omega
theorem read_loose {l : List Nd} (hl : Az l = true) {N : Int} (hN : (l.length : Int) ≤ N) : GJ (B3 l) N M5 = ((none, (B3 l).length), ⟨DM, l, CA l⟩) := by
 rw [Rh, head_ok]
 dsimp only
 have hlen : (B3 l).length = 5 + (B8 l).length := by unfold B3 Cs; simp; omega
 have hd : (B3 l).drop 5 = B8 l ++ [] := by rw [List.append_nil]; rfl
 have hll := Pk l
 obtain ⟨K, hK⟩ : ∃ K, (B3 l).length + 1 = (K + 1) + l.length := ⟨(B3 l).length - l.length, by omega⟩
 have := Pj (B3 l) DM N l [] [] 5 (K + 1) [] (by simpa using hl) hd (by simpa using hN)
 have h0 : (⟨DM, [], CA []⟩ : MSt) = M5 := rfl
 rw [h0] at this
 rw [hK, this]
 unfold Dl
 rw [if_pos hlen.symm, hlen]
 rfl
theorem read_less {l : List Nd} (hl : Az l = true) (hp : 0 < l.length) : ∃ c st, GJ (B3 l) ((l.length : Int) - 1) M5 = ((some (4, []), c), st) := by
 rw [Rh, head_ok]
 dsimp only
 have hne : l ≠ [] := fun h => by rw [h] at hp; cases hp
 have hsp : l.dropLast ++ [l.getLast hne] = l := List.dropLast_concat_getLast hne
 have hlv := (A0 hl (show l.length - 1 < l.length by omega)).1
 have hlast : l.getLast hne = l[l.length - 1] := List.getLast_eq_getElem hne
 have hdl : l.dropLast.length = l.length - 1 := List.length_dropLast
 have hT : B8 l = B8 l.dropLast ++ (ndT (l.getLast hne) ++ [10]) := by
  conv => lhs; rw [← hsp]
  unfold B8
  rw [List.flatMap_append]; simp
 have hd : (B3 l).drop 5 = B8 l.dropLast ++ (ndT (l.getLast hne) ++ [10]) := by rw [← hT]; rfl
 have hlen : (B3 l).length = 5 + (B8 l).length := by unfold B3 Cs; simp; omega
 have hll := Pk l
 obtain ⟨K, hK⟩ : ∃ K, (B3 l).length + 1 = (K + 1) + l.dropLast.length := ⟨(B3 l).length - (l.length - 1), by omega⟩
 have := Pj (B3 l) DM ((l.length : Int) - 1) l.dropLast [] [l.getLast hne] 5 (K + 1) _ (by simpa [hsp] using hl) hd (by simp only [List.length_nil, hdl]; omega)
 have h0 : (⟨DM, [], CA []⟩ : MSt) = M5 := rfl
 rw [h0] at this
 rw [hK, this, line_lim (by rw [hlast]; exact hlv) (CW hd) (by rw [List.nil_append, hdl]; omega)]
 exact ⟨_, _, rfl⟩
end Go.Gm
namespace Go.Gm
def F1 (x : Nd) : Nat → List UInt8
 | 0 => Gh x.lv
 | k + 1 => F1 x k ++ [32] ++ Gh (x.kid k)
def fitsN (x : Nd) : Prop := (-9223372036854775808 ≤ x.lv ∧ x.lv ≤ 9223372036854775807) ∧ ∀ k, k < 4 → -9223372036854775808 ≤ x.kid k ∧ x.kid k ≤ 9223372036854775807
theorem PB {z : Int} (h : -9223372036854775808 ≤ z ∧ z ≤ 9223372036854775807) : (Gh z).length ≤ 500 := by
 have h1 := Na 20 z.natAbs (by omega)
 simp at h1
 unfold Gh
 split
 ·simp only [List.length_cons]; omega
 ·omega
theorem M9 {x : Nd} (h : fitsN x) : ∀ k, k ≤ 4 → (F1 x k).length ≤ 500 + k * 501
 | 0, _ => by have := PB h.1; show (Gh x.lv).length ≤ _; omega
 | k + 1, hk => by
  have h1 := M9 h k (by omega)
  have h2 := PB (h.2 k (by omega))
  unfold F1
  simp only [List.length_append, List.length_singleton]; omega
theorem r19_line {x : Nd} (h : fitsN x) (H : Ab) : Sh.fp (.agg (cNd x)) H = some (.ret (.str (F1 x 4)), H) := by
 have hof := fun K => q02_of x.lv K h.1.1 h.1.2
 have htx := fun K => OH x.lv K (Mw (ME h.1.1 h.1.2)).1
 have hcell : (H ++ [Blk.cel 0 (cNd x)])[H.length]? = some (.cel 0 (cNd x)) := AA
 unfold Sh.fp
 rw [FZ (sz := 5) Cq rfl]
 simp only [GMb, GMc, Aj, Nat.zero_add, F0 hcell, hof, htx]
 refine BM (G := fun rec1 vs H1 => Sh.f3x H rec1 (ag vs 0) (ag vs 1) (ag vs 2) H1) 4 (fun k => [.ptr H.length 0 0, .str (F1 x k), .int .i64 (k : Int)]) (fun _ => H ++ [.cel 0 (cNd x)]) _ (by decide) (fun rec k hk => ?_) (fun rec => ?_)
 ·have hk' : (k : Int) < 4 := by omega
  have hkl := h.2 k hk
  have hof := fun K => q02_of (x.kid k) K hkl.1 hkl.2
  have htx := fun K => OH (x.kid k) K (Mw (ME hkl.1 hkl.2)).1
  have hl := M9 h k (by omega)
  have hl2 := PB hkl
  have a1 : ∀ s : List UInt8, s.length ≤ 100000 → Af .none .add (.str s) (.str [32]) = some (.str (s ++ [32])) := fun s hs => Bm (by simp only [List.length_singleton]; omega)
  have a2 : Af .none .add (.str (F1 x k ++ [32])) (.str (Gh (x.kid k))) = some (.str (F1 x k ++ [32] ++ Gh (x.kid k))) := Bm (by simp only [List.length_append, List.length_singleton]; omega)
  have hw := Au (show k < 9223372036854775807 by omega)
  unfold Sh.f3x
  simp only [GMb, GMc, Aw, hk', a1 _ (show (F1 x k).length ≤ 100000 by omega), Aj, Nat.zero_add, Du hk, M8 hcell hk, hof, htx, a2, hw]
  rfl
 ·unfold Sh.f3x
  simp only [GMb, GMc, Aw, show ¬ (((4 : Nat) : Int) < 4) from by decide, rP_str]
theorem lineZ_nat {x : Nd} (h0 : 0 ≤ x.lv) (hk : ∀ k, k < 4 → 0 ≤ x.kid k) : F1 x 4 = ndT x := by
 have hz : ∀ z : Int, 0 ≤ z → Gh z = AP z.toNat := fun z h => by
  unfold Gh; rw [if_neg (by omega), show z.natAbs = z.toNat by omega]
 have k0 := hk 0 (by decide); have k1 := hk 1 (by decide); have k2 := hk 2 (by decide); have k3 := hk 3 (by decide)
 simp only [Nd.kid] at k0 k1 k2 k3
 unfold F1 F1 F1 F1 F1 ndT lnT
 simp only [Nd.kid, hz _ h0, hz _ k0, hz _ k1, hz _ k2, hz _ k3, List.append_assoc, List.cons_append, List.nil_append]
theorem Pd {L : List Nd} (hl : Az L = true) (hL : L.length < 1000000000) {i : Nat} (hi : i < L.length) : fitsN L[i] ∧ F1 L[i] 4 = ndT L[i] := by
 obtain ⟨h1, h2, h3⟩ := A0 hl hi
 refine ⟨⟨by omega, fun k hk => ?_⟩, lineZ_nat (by omega) fun k hk => (h3 k hk).1⟩
 obtain ⟨g1, g2, g3⟩ := h3 k hk
 by_cases hv : L[i].lv = 1
 ·have := g2 hv; omega
 ·by_cases h0 : 0 < L[i].kid k
  ·have := (g3 (by omega) h0).1; omega
  ·omega
end Go.Gm
namespace Go.Gm
theorem Kt : ∀ (B : Nat) (S : List Nat), S.Nodup → (∀ i ∈ S, 1 ≤ i ∧ i ≤ B) → S.length ≤ B
 | 0, S, _, h => by
  cases S with
  | nil => simp
  | cons a l => have := h a (by simp); omega
 | B + 1, S, hn, h => by
  by_cases hB : B + 1 ∈ S
  ·have := Kt B (S.erase (B + 1)) (hn.erase _) fun i hi => by
    rw [hn.mem_erase_iff] at hi
    have := h i hi.2; have := hi.1; omega
   rw [List.length_erase_of_mem hB] at this; omega
  ·have := Kt B S hn fun i hi => by
    have h1 := h i hi
    have h2 : i ≠ B + 1 := fun e => hB (by rw [← e]; exact hi)
    omega
   omega
section
variable {M : List Nd} {B : Nat}
def KnownN (M : List Nd) (i : Nat) (out : List Nd) : Prop := ∃ d, AB M (Ap M) (At M i).lv.toNat i out = (out, d)
theorem KnownN.grow {i : Nat} {out : List Nd} (h : KnownN M i out) (r : List Nd) : KnownN M i (out ++ r) := by
 obtain ⟨d, h⟩ := h
 have := D6 (L := M) (E := Ap M) (At M i).lv.toNat i out r
 rw [h] at this
 exact ⟨d, this⟩
structure CntI (M : List Nd) (out : List Nd) (S : List Nat) : Prop where
 nd : S.Nodup
 le : out.length ≤ S.length
 kn : ∀ i ∈ S, 1 ≤ i ∧ KnownN M i out
theorem putN_len (out : List Nd) (x : Nd) : (BG out x).1.length ≤ out.length + 1 := by
 unfold BG
 split
 ·simp
 ·simp
def below (B i n : Nat) : Prop := i = n ∨ i < min n B
theorem cnt_ins (hkid : ∀ n k, 1 ≤ n → n ≤ M.length → k < 4 → 1 < (At M n).lv → ((At M n).kid k).toNat < min n B ∧ (((At M n).kid k).toNat = 0 ∨ (At M (((At M n).kid k).toNat : Int)).lv = (At M n).lv - 1)) :
  ∀ (v n : Nat) (out : List Nd) (S : List Nat), n ≤ M.length → (n = 0 ∨ (At M n).lv = (v : Int)) → CntI M out S →
  ∃ S', CntI M (AB M (Ap M) v n out).1 S' ∧ (∀ i ∈ S', i ∈ S ∨ below B i n) := by
 intro v
 induction v with
 | zero => intro n out S _ _ h; exact ⟨S, h, fun i hi => .inl hi⟩
 | succ v ih =>
  intro n out S hn hlv h
  by_cases he : (Ap M).getD n true = true
  ·refine ⟨S, ?_, fun i hi => .inl hi⟩
   unfold AB; rw [if_pos he]; exact h
  ·have hn0 : n ≠ 0 := fun e => he (by rw [e]; exact Dw M)
   have hlv := hlv.resolve_left hn0
   have hvn : (At M n).lv.toNat = v + 1 := by rw [hlv]; omega
   by_cases hS : n ∈ S
   ·obtain ⟨d, hd⟩ := (h.kn n hS).2
    rw [hvn] at hd
    exact ⟨S, by rw [hd]; exact h, fun i hi => .inl hi⟩
   ·-- behind the kids
    have fin : ∀ (out1 : List Nd) (S1 : List Nat) (x : Nd), CntI M out1 S1 → (∀ i ∈ S1, i ∈ S ∨ i < min n B) → (AB M (Ap M) (v + 1) n out).1 = (BG out1 x).1 →
      ∃ S', CntI M (AB M (Ap M) (v + 1) n out).1 S' ∧ (∀ i ∈ S', i ∈ S ∨ below B i n) := by
     intro out1 S1 x h1 hs hi
     have hnS : n ∉ S1 := fun hc => by
      rcases hs n hc with h | h
      ·exact hS h
      ·omega
     obtain ⟨r, hr⟩ := LH out1 x
     refine ⟨n :: S1, ⟨List.nodup_cons.2 ⟨hnS, h1.nd⟩, ?_, fun i hi' => ?_⟩, fun i hi' => ?_⟩
     ·rw [hi]; have := putN_len out1 x; have := h1.le; simp only [List.length_cons]; omega
     ·rcases List.mem_cons.1 hi' with rfl | hi'
      ·refine ⟨by omega, ?_⟩
       have := D6 (L := M) (E := Ap M) (v + 1) i out []
       rw [List.append_nil] at this
       exact ⟨_, by rw [hvn]; exact this⟩
      ·obtain ⟨g1, g2⟩ := h1.kn i hi'
       exact ⟨g1, by rw [hi, hr]; exact g2.grow r⟩
     ·rcases List.mem_cons.1 hi' with rfl | hi'
      ·exact .inr (.inl rfl)
      ·rcases hs i hi' with h | h
       ·exact .inl h
       ·exact .inr (.inr h)
    by_cases hl1 : 1 < (At M n).lv
    ·have kids : ∀ k, k ≤ 4 → ∃ S1, CntI M (Bg (AB M (Ap M) v) (At M n) k out).1 S1 ∧ (∀ i ∈ S1, i ∈ S ∨ i < min n B) := by
      intro k
      induction k with
      | zero => intro _; exact ⟨S, h, fun i hi => .inl hi⟩
      | succ k ihk =>
       intro hk
       obtain ⟨S1, g1, g2⟩ := ihk (by omega)
       obtain ⟨q1, q2⟩ := hkid n k (by omega) hn (by omega) hl1
       obtain ⟨S2, g3, g4⟩ := ih ((At M n).kid k).toNat _ S1 (by omega) (by
        rcases q2 with h | h
        ·exact .inl h
        ·exact .inr (by rw [h, hlv]; omega)) g1
       refine ⟨S2, g3, fun i hi => ?_⟩
       rcases g4 i hi with h | h | h
       ·exact g2 i h
       ·exact .inr (by omega)
       ·exact .inr (by omega)
     obtain ⟨S1, g1, g2⟩ := kids 4 (Nat.le_refl _)
     exact fin _ S1 _ g1 g2 (by rw [insF_lv (by simpa using he) hl1])
    ·exact fin out S (At M n) h (fun i hi => .inl hi) (by rw [insF_one (by simpa using he) hl1])

end
end Go.Gm
namespace Go.Gm
def KB (B : Nat) (M : List Nd) : Prop := ∀ n k : Nat, 1 ≤ n → n ≤ M.length → k < 4 → 1 < (At M (n : Int)).lv → ((At M (n : Int)).kid k).toNat < min n B
theorem kid_lv {M : List Nd} (hl : Az M = true) {n k : Nat} (h1 : 1 ≤ n) (hn : n ≤ M.length) (hk : k < 4) (hv : 1 < (At M (n : Int)).lv) :
  ((At M (n : Int)).kid k).toNat < n ∧ 0 ≤ (At M (n : Int)).kid k ∧ (((At M (n : Int)).kid k).toNat = 0 ∨ (At M (((At M (n : Int)).kid k).toNat : Int)).lv = (At M (n : Int)).lv - 1) := by
 obtain ⟨v, hvv⟩ : ∃ v, (At M (n : Int)).lv.toNat = v + 1 := ⟨(At M (n : Int)).lv.toNat - 1, by omega⟩
 have hL : Lv M (v + 1) n := ⟨hn, .inr hvv⟩
 obtain ⟨g1, g2, g3⟩ := hL.kid hl (by omega) hv hk
 refine ⟨g2, g3, ?_⟩
 by_cases h0 : ((At M (n : Int)).kid k).toNat = 0
 ·exact .inl h0
 ·have := (g1.num (by omega) hl).1
  exact .inr (by rw [this]; omega)
theorem O8 {B : Nat} : ∀ (f : Nat) (M : List Nd) (n : Nat), Az M = true → n ≤ M.length → KB B M → KB B (Bs f M n).1
 | 0, M, n, hl, hn, h => h
 | f + 1, M, n, hl, hn, h => by
  unfold Bs
  cases hh : CI M n with
  | false => exact h
  | true =>
   obtain ⟨h0, h2⟩ := Kz hh
   obtain ⟨m, rfl⟩ : ∃ m, n = m + 1 := ⟨n - 1, by omega⟩
   have h2' := h2
   rw [AK hn] at h2
   simp only [if_true]
   refine O8 f (M ++ [CB M (m + 1)]) (M.length + 1) (Ky hl hn h2) (by simp) ?_
   intro n k g1 g2 g3 g4
   by_cases hold : n ≤ M.length
   ·rw [OX (by omega) hold] at g4 ⊢
    exact h n k g1 hold g3 g4
   ·have hn1 : n = M.length + 1 := by simp at g2; omega
    subst hn1
    have hx : At (M ++ [CB M (m + 1)]) ((M.length + 1 : Nat) : Int) = CB M (m + 1) := by
     rw [AK (by simp)]; simp
    rw [hx] at g4 ⊢
    have hlx : (CB M (m + 1)).lv = (At M ((m + 1 : Nat) : Int)).lv - 1 := rfl
    rw [hlx] at g4
    rw [QF _ _ g3]
    have hb := h (m + 1) k (by omega) hn g3 (by omega)
    obtain ⟨q1, q2, q3⟩ := kid_lv hl (by omega) hn g3 (show 1 < (At M ((m + 1 : Nat) : Int)).lv by omega)
    unfold Gg
    by_cases hz : (At M ((m + 1 : Nat) : Int)).kid k = 0
    ·rw [if_pos hz]; simp; omega
    ·rw [if_neg hz]
     have hq := q3.resolve_left (by omega)
     have hc : (At M ((m + 1 : Nat) : Int)).kid k = ((((At M ((m + 1 : Nat) : Int)).kid k).toNat : Nat) : Int) := by omega
     have := h ((At M ((m + 1 : Nat) : Int)).kid k).toNat (3 - k) (by omega) (by omega) (by omega) (by rw [hq]; exact g4)
     rw [hc]
     omega
theorem N9 {L : List Nd} (hl : Az L = true) : (CE L L.length).length ≤ L.length := by
 unfold CE
 cases he : (Ap L).getD L.length true with
 | true =>
  have hs : BR L L.length = (L, 0) := by unfold BR; rw [if_pos he]
  rw [hs]
  dsimp only
  have : ∀ v, (AB L (Ap L) v 0 []).1 = [] := fun v => by
   cases v with
   | zero => rfl
   | succ v => unfold AB; rw [if_pos (Dw L)]
  rw [this]; exact Nat.zero_le _
 | false =>
  have hpos := emp_pos he
  have hs : BR L L.length = Bs (At L (L.length : Int)).lv.toNat L L.length := by unfold BR; rw [if_neg (by rw [he]; decide)]
  rw [hs]
  obtain ⟨r1, r2, r3⟩ := Lf (At L (L.length : Int)).lv.toNat L L.length hl (Nat.le_refl _)
  have hk := O8 (B := L.length) (At L (L.length : Int)).lv.toNat L L.length hl (Nat.le_refl _) (fun n k g1 g2 g3 g4 => by
   have := (kid_lv hl g1 g2 g3 g4).1; omega)
  generalize Bs (At L (L.length : Int)).lv.toNat L L.length = s at r1 r2 r3 hk
  obtain ⟨M, r⟩ := s
  dsimp only at r1 r2 r3 hk ⊢
  obtain ⟨S, c1, c2⟩ := cnt_ins (M := M) (B := L.length) (fun n k g1 g2 g3 g4 => ⟨hk n k g1 g2 g3 g4, (kid_lv r1 g1 g2 g3 g4).2.2⟩) (At M (r : Int)).lv.toNat r [] [] r2 (by
   by_cases h0 : r = 0
   ·exact .inl h0
   ·right
    have := (Lv.num (L := M) (v := (At M (r : Int)).lv.toNat) (n := r) ⟨r2, .inr rfl⟩ (by omega) r1).1
    exact this) ⟨List.nodup_nil, Nat.le_refl _, fun i hi => by cases hi⟩
  have hS : S.length ≤ L.length := by
   by_cases hr : r ∈ S
   ·have := Kt (L.length - 1) (S.erase r) (c1.nd.erase _) fun i hi => by
     rw [c1.nd.mem_erase_iff] at hi
     have h1 := (c1.kn i hi.2).1
     rcases c2 i hi.2 with h | h | h
     ·cases h
     ·exact absurd h hi.1
     ·omega
    rw [List.length_erase_of_mem hr] at this; omega
   ·have := Kt (L.length - 1) S c1.nd fun i hi => by
     have h1 := (c1.kn i hi).1
     rcases c2 i hi with h | h | h
     ·cases h
     ·exact absurd (h ▸ hi) hr
     ·omega
    omega
  exact Nat.le_trans c1.le hS
end Go.Gm
namespace Go.Gm
theorem linesT_take {l : List Nd} {i : Nat} (h : i < l.length) : B8 (l.take (i + 1)) = B8 (l.take i) ++ ndT l[i] ++ [10] := by
 unfold B8
 rw [List.take_succ_eq_append_getElem h, List.flatMap_append]
 simp
def upT (l : List Nd) (i : Nat) : List UInt8 := [91, 77, 50, 93, 10] ++ B8 (l.take i)
theorem upT_next {l : List Nd} {i : Nat} (h : i < l.length) : upT l (i + 1) = upT l i ++ ndT l[i] ++ [10] := by
 unfold upT; rw [linesT_take h]; simp
theorem upT_all (l : List Nd) : upT l l.length = B3 l := by
 unfold upT B3 Cs; rw [List.take_of_length_le (Nat.le_refl _)]; rfl
theorem ndT_len {l : List Nd} (hl : Az l = true) (h60 : l.length ≤ 60) {i : Nat} (hi : i < l.length) : (ndT l[i]).length ≤ 2504 := by
 obtain ⟨f1, f2⟩ := Pd hl (by omega) hi
 rw [← f2]
 exact M9 f1 4 (Nat.le_refl _)
theorem upT_len {l : List Nd} (hl : Az l = true) (h60 : l.length ≤ 60) : ∀ i, i ≤ l.length → (upT l i).length ≤ 5 + i * 2505
 | 0, _ => by simp [upT, B8]
 | i + 1, h => by
  have h1 := upT_len hl h60 i (by omega)
  have h2 := ndT_len hl h60 (show i < l.length by omega)
  rw [upT_next h]
  simp only [List.length_append, List.length_singleton]; omega
theorem ld_off (c d : Aa) (G : Ab) : Ad true 1 (.ptr 0 0 1) (.cel 0 [c, d] :: G) = some (.agg [d]) := by
 simp only [Ad, JY]; rfl
theorem Nt {l : List Nd} (hl : Az l = true) {bx N : Int} (hf : LX bx N = true) (hN : (l.length : Int) ≤ N) : Jz (B3 l) bx N = ((DM, CE l l.length), 0, 0) := by
 have hq := N9 hl
 have hok : NT l (l.length : Int) = true := by
  unfold NT; rw [hl]; simp
 rw [readR_eq, hf, read_loose hl hN]
 unfold finR
 dsimp only
 rw [root_lns, hok, decide_eq_true (show ((CE l l.length).length : Int) ≤ N by omega)]
 rfl
theorem readR_less {l : List Nd} (hl : Az l = true) (hp : 0 < l.length) {bx : Int} (hf : LX bx ((l.length : Int) - 1) = true) : ∃ c : Nat, Jz (B3 l) bx ((l.length : Int) - 1) = (([], []), (c : Int), 4) := by
 obtain ⟨c, st, h⟩ := read_less hl hp
 refine ⟨c, ?_⟩
 rw [readR_eq, hf, h]
 rfl
theorem loose_ok {l : List Nd} {text : List UInt8} (H : Ab) : Sh.f3z (.sl (enL cNd l) .no) (.str text) H = some (.ret (.bool true), H) := by
 have hrp : rP H (.bool true) H = some (.ret (.bool true), H) := Fl rfl (by simp)
 unfold Sh.f3z
 simp only [Sl.gliderlaw19_alive_eq, Sl.gliderref05_Loose_eq, GMb, GMc, HPa, HPc, HPd, HPe, HPz, Nat.reduceAdd, Nat.reduceLT, q19_alive, A2]
 by_cases h60 : 60 < l.length
 ·have hd : decide ((l.length : Int) > 60) = true := decide_eq_true (by omega)
  simp only [GMb, GMc, HPa, HPc, HPd, HPe, HPz, Nat.reduceAdd, Nat.reduceLT, hd, hrp]
 ·have hd : decide ((l.length : Int) > 60) = false := decide_eq_false (by omega)
  have h60 : l.length ≤ 60 := by omega
  have hloose := fun K => M0 l .no K (by omega)
  cases hl : Az l with
  | false =>
   rw [hl] at hloose
   simp only [GMb, GMc, HPa, HPc, HPd, HPe, HPz, Nat.reduceAdd, Nat.reduceLT, hd, hloose, hrp]
  | true =>
   rw [hl] at hloose
   simp only [GMb, GMc, HPa, HPc, HPd, HPe, HPz, Nat.reduceAdd, Nat.reduceLT, hd, hloose]
   have h0 : ([91, 77, 50, 93, 10] : List UInt8) = upT l 0 := by simp [upT, B8]
   rw [h0]
   refine BM (G := fun rec1 vs H1 => Sh.f3y H rec1 (ag vs 0) (ag vs 1) (ag vs 2) H1) l.length (fun i => [.sl (enL cNd l) .no, .str (upT l i), .int .i64 (i : Int)]) (fun _ => H) _ (by omega) (fun rec i hi => ?_) (fun rec => ?_)
   ·have hlt : (i : Int) < (l.length : Int) := by omega
    obtain ⟨f1, f2⟩ := Pd hl (by omega) hi
    have hln := fun K => r19_line f1 K
    rw [f2] at hln
    have u1 := upT_len hl h60 i (by omega)
    have u2 := ndT_len hl h60 hi
    have a1 : Af .none .add (.str (upT l i)) (.str (ndT l[i])) = some (.str (upT l i ++ ndT l[i])) := Bm (by omega)
    have a2 : Af .none .add (.str (upT l i ++ ndT l[i])) (.str [10]) = some (.str (upT l i ++ ndT l[i] ++ [10])) := Bm (by simp only [List.length_append, List.length_singleton]; omega)
    have hw := Au (show i < 9223372036854775807 by omega)
    unfold Sh.f3y
    simp only [Sl.gliderref19_Line_eq, GMb, GMc, Aw, A2, hlt, Av hi, Fa, hln, a1, a2, hw, upT_next hi]
   ·have hlt : ¬ (l.length : Int) < (l.length : Int) := by omega
    have hok : NT l (l.length : Int) = true := by unfold NT; rw [hl]; simp
    have hof := fun K => q06_of l .no (l.length : Int) K (by omega)
    rw [hok, Int.toNat_natCast] at hof
    have hq := N9 hl
    have ulen := upT_len hl h60 l.length (Nat.le_refl _)
    rw [upT_all] at ulen ⊢
    have r1 := fun K => Cg (B3 l) 1000 100000 K (by omega)
    have r2 := fun K => Cg (B3 l) 0 (l.length : Int) K (by omega)
    rw [Nt hl (by decide) (by omega)] at r1
    rw [Nt hl (by unfold LX; simp; omega) (Int.le_refl _)] at r2
    have hsame := fun K => q05_same (CE l l.length) (CE l l.length) K (by omega)
    generalize CE l l.length = Q at *
    have b2 : ∀ z : Int, A5 (some [(.int .i64 0), (.int .i64 0)]) [(1, 1, .int .i64 z)] = some (.agg [.int .i64 0, .int .i64 z]) := fun _ => rfl
    have hu : (DM == [66, 51, 47, 83, 50, 51]) = true := by decide
    simp only [KR, Li] at r1 r2
    simp only [quad_eq, if_true] at hof
    unfold Sh.f3y Sh.f52
    by_cases hp : 0 < l.length
    ·have hpd : decide ((l.length : Int) > 0) = true := decide_eq_true (by omega)
     have r3 := fun K => Cg (B3 l) 0 ((l.length : Int) - 1) K (by omega)
     obtain ⟨c, hc⟩ := readR_less hl hp (bx := 0) (by unfold LX; simp; omega)
     rw [hc] at r3
     simp only [KR, Li] at r3
     have hw : IntKind.i64.wrap ((l.length : Int) - 1) = (l.length : Int) - 1 := by rw [Ay] <;> omega
     simp only [Sl.gliderref06_Of_eq, Sl.gliderref11_Wide_eq, Sl.macro_Read_eq, Sl.gliderref05_Same_eq, GMb, GMc, HPa, HPc, HPd, HPe, HPz, Nat.reduceAdd, Nat.reduceLT, Aw, A2, hlt, hof, OF, r1, r2, r3, b2, hpd, hw, ld_off, hsame, Ki, hu]
    ·have hpd : decide ((l.length : Int) > 0) = false := decide_eq_false (by omega)
     simp only [Sl.gliderref06_Of_eq, Sl.gliderref11_Wide_eq, Sl.macro_Read_eq, Sl.gliderref05_Same_eq, GMb, GMc, HPa, HPc, HPd, HPe, HPz, Nat.reduceAdd, Nat.reduceLT, Aw, A2, hlt, hof, OF, r1, r2, b2, hpd, ld_off, hsame, Ki, hu]
end Go.Gm
