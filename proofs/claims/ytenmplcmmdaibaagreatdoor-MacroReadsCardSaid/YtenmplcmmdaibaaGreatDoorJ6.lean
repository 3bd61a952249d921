/- Texts of this proof, joined. -/
import Derived.Test.YtenmplcmmdaibaaGreatDoorJ4
import Derived.Test.YtenmplcmmdaibaaGreatDoorJ5
set_option linter.unusedVariables false
set_option linter.unusedSimpArgs false
namespace Go.Gm
def EU (er : Er) : Prop := ∀ e, er = some e → 0 < e.1 ∧ e.1 ≤ 4
theorem EU.none : EU none := fun e h => by cases h
theorem EU.stp (b : List UInt8) (a : Nat) (s : List UInt8) : EU (some (CJ b a s)) := fun e h => by
 injection h with h; subst h; unfold CJ; split <;> simp
theorem EU.lim : EU (some (4, [])) := fun e h => by injection h with h; subst h; simp
theorem Lr (b : List UInt8) (a : Nat) (s rest : List UInt8) : EU (B7 b a s rest).1 := by
 unfold B7; split
 ·exact .stp _ _ _
 ·exact .none
theorem PP (b : List UInt8) (a : Nat) (rest : List UInt8) : EU (FO b a rest).1 := by
 unfold FO; split
 ·exact .none
 ·split
  ·exact .none
  ·exact .stp _ _ _
theorem rulS_er (b : List UInt8) (f : Nat) (rest : List UInt8) : EU (Ic b f rest).1 := by
 unfold Ic; split
 ·exact .stp _ _ _
 ·exact .none
theorem numS_er (b : List UInt8) (f : Nat) (rest : List UInt8) : ∀ n a, EU (E8 b f rest n a).1
 | 0, a => .none
 | n + 1, a => by
  unfold E8
  split
  ·split
   ·exact .stp _ _ _
   ·split
    ·exact .lim
    ·exact numS_er b f rest n (a + 1)
  ·split
   ·exact .stp _ _ _
   ·exact .none
theorem intS_er (b : List UInt8) (a : Nat) (neg : Bool) (rest : List UInt8) : EU (EB b a neg rest).1 := by
 unfold EB; split
 ·exact .stp _ _ _
 ·exact numS_er _ _ _ _ _
theorem markS_er (b : List UInt8) (a : Nat) (st : MSt) : EU (NF b a st).1.1 := by
 unfold NF
 split
 ·exact .none
 ·split
  ·have := Lr b (a + 1) [71, 32] [49]
   generalize B7 b (a + 1) [71, 32] [49] = M at this
   obtain ⟨er, c⟩ := M
   cases er with
   | some e => exact this
   | none => exact intS_er _ _ _ _
  ·split
   ·have := Lr b (a + 1) [82, 32] [97]
    generalize B7 b (a + 1) [82, 32] [97] = M at this
    obtain ⟨er, c⟩ := M
    cases er with
    | some e => exact this
    | none =>
     have := rulS_er b c []
     dsimp only
     generalize Ic b c [] = M at this
     obtain ⟨er, d⟩ := M
     cases er with
     | some e => exact this
     | none => exact .none
   ·exact .stp _ _ _
theorem Re (b : List UInt8) : ∀ n a x y on, EU (CR b n a x y on).1
 | 0, a, x, y, on => .none
 | n + 1, a, x, y, on => by
  unfold CR
  split
  ·split
   ·exact .stp _ _ _
   ·split
    ·exact Re b n _ _ _ _
    ·exact Re b n _ _ _ _
  ·exact .none
theorem leafS_er (b : List UInt8) (a : Nat) (st : MSt) : EU (NJ b a st).1.1 := by
 unfold NJ
 have := Re b (b.length + 1 - a) a 0 0 (List.replicate 64 false)
 generalize CR b (b.length + 1 - a) a 0 0 (List.replicate 64 false) = M at this
 obtain ⟨er, c, on⟩ := M
 cases er with
 | some e => exact this
 | none => exact .none
theorem levF_er (b : List UInt8) : ∀ k a n, EU (Ht b k a n).1
 | 0, a, n => .none
 | k + 1, a, n => by
  unfold Ht
  split
  ·split
   ·exact .lim
   ·exact levF_er b k _ _
  ·split
   ·exact .stp _ _ _
   ·exact .none
theorem levelS_er (b : List UInt8) (a : Nat) : EU (BK b a).1 := by
 unfold BK; split
 ·exact .stp _ _ _
 ·exact levF_er _ _ _ _
theorem kidF_er (b : List UInt8) (lines : List (Nat × Int)) (level : Int) (f : Nat) (rest : List UInt8) : ∀ k a n, EU (JF b lines level f rest k a n).1
 | 0, a, n => .none
 | k + 1, a, n => by
  unfold JF
  split
  ·split
   ·exact .stp _ _ _
   ·split
    ·exact kidF_er b lines level f rest k _ _
    ·exact .stp _ _ _
  ·split
   ·exact .stp _ _ _
   ·split
    ·exact .none
    ·exact .stp _ _ _
theorem kidS_er (b : List UInt8) (a : Nat) (lines : List (Nat × Int)) (level : Int) (rest : List UInt8) : EU (L2 b a lines level rest).1 := kidF_er _ _ _ _ _ _ _ _
theorem kidsF_er (b : List UInt8) (lines : List (Nat × Int)) (level : Int) : ∀ d k a x rest, EU (EV b lines level d k a x rest).1
 | 0, k, a, x, rest => .none
 | d + 1, k, a, x, rest => by
  unfold EV
  have := Lr b a [32] (48 :: rest)
  generalize B7 b a [32] (48 :: rest) = M at this
  obtain ⟨er, c⟩ := M
  cases er with
  | some e => exact this
  | none =>
   dsimp only
   have := kidS_er b c lines level rest
   generalize L2 b c lines level rest = M at this
   obtain ⟨er, c', n⟩ := M
   cases er with
   | some e => exact this
   | none => exact kidsF_er b lines level d _ _ _ _
theorem nodeS_er (b : List UInt8) (a : Nat) (st : MSt) : EU (NA b a st).1.1 := by
 unfold NA
 have := levelS_er b a
 generalize BK b a = M at this
 obtain ⟨er, c, v⟩ := M
 cases er with
 | some e => exact this
 | none =>
  dsimp only
  have := kidsF_er b st.lines v 4 0 c ⟨v, 0, 0, 0, 0⟩ [32, 48, 32, 48, 32, 48]
  generalize EV b st.lines v 4 0 c ⟨v, 0, 0, 0, 0⟩ [32, 48, 32, 48, 32, 48] = M at this
  obtain ⟨er, c', x⟩ := M
  cases er with
  | some e => exact this
  | none => exact .none
theorem lineS_er (b : List UInt8) (N : Int) (a : Nat) (st : MSt) : EU (rlS b N a st).1.1 := by
 unfold rlS
 split
 ·exact markS_er _ _ _
 ·split
  ·exact .lim
  ·split
   ·exact leafS_er _ _ _
   ·exact nodeS_er _ _ _
theorem oneS_er (b : List UInt8) (N : Int) (a : Nat) (st : MSt) : EU (QJ b N a st).1.1 := by
 unfold QJ
 have := lineS_er b N a st
 generalize rlS b N a st = M at this
 obtain ⟨⟨er, c⟩, st'⟩ := M
 cases er with
 | some e => exact this
 | none => exact PP _ _ _
theorem SF (b : List UInt8) (N : Int) : ∀ k a st, EU (Dq b N k a st).1.1
 | 0, a, st => .none
 | k + 1, a, st => by
  unfold Dq
  split
  ·exact .none
  ·have := oneS_er b N a st
   generalize QJ b N a st = M at this
   obtain ⟨⟨er, c⟩, st'⟩ := M
   cases er with
   | some e => exact this
   | none => exact SF b N k _ _
theorem allS_er (b : List UInt8) (N : Int) (st : MSt) : EU (Kb b N st).1.1 := by
 unfold Kb
 have := Lr b 0 CG []
 generalize B7 b 0 CG [] = M at this
 obtain ⟨er, c⟩ := M
 cases er with
 | some e => exact this
 | none =>
  dsimp only
  have := PP b (F6 b c) []
  generalize FO b (F6 b c) [] = M at this
  obtain ⟨er, d⟩ := M
  cases er with
  | some e => exact this
  | none => exact SF _ _ _ _ _
end Go.Gm
namespace Go.Gm
theorem numS_on {b : List UInt8} {f a n : Nat} {rest : List UInt8} (hs : Aq b a BI = true) (h1 : ¬ (f < a ∧ b[f]? = some 48)) (h2 : ¬ a - f = 400) : E8 b f rest (n + 1) a = E8 b f rest n (a + 1) := by
 rw [E8, if_pos hs, if_neg h1, if_neg h2]
theorem R0 {b : List UInt8} {i : Nat} (h : i < b.length) : Aq b i BI = (decide ((b[i].toNat : Int) ≥ 48) && decide ((b[i].toNat : Int) ≤ 57)) := by
 unfold Aq BI
 rw [List.getElem?_eq_getElem h]
 have : ∀ c : UInt8, ([48, 49, 50, 51, 52, 53, 54, 55, 56, 57] : List UInt8).contains c = decide (48 ≤ c.toNat ∧ c.toNat ≤ 57) := fun c => by
  simp only [List.contains_eq_mem, List.mem_cons, List.not_mem_nil, or_false, decide_eq_decide, ← UInt8.toNat_inj]
  simp only [UInt8.reduceToNat]
  omega
 simp only [this]
 rw [Bool.eq_iff_iff]; simp only [decide_eq_true_eq, Bool.and_eq_true]; omega
theorem Qd (c : UInt8) : decide ((c.toNat : Int) = 48) = decide (c = 48) := HO c 48 (by decide)
def MY (b : List UInt8) (a : Nat) (R : Er × Nat) : Ab := .tup [AT b R.2 (Eq R.1), big (match R.1 with | none => BW ((b.take R.2).drop a) | some _ => 0)]
theorem r15_int {b : List UInt8} {a : Nat} (ha : a ≤ b.length) (hb : b.length < 1152921504606846976) (neg : Bool) (H : Aa) : Sh.f19 (AT b a 0) (.bool neg) H = some (.ret (MY b a (EB b a neg [])), H) := by
 have hb0 : Ay (some [(.bool false), (.sl [] .tight)]) [] = some (.agg [.bool false, .sl [] .tight]) := rfl
 have hz : Ab.agg [.bool false, .sl [] .no] = big 0 := by rw [← LM]; rfl
 have loop : ∀ (m : Bool) (f : Nat), a ≤ f → f ≤ b.length → (m = true → ¬ b[f]? = some 48) →
   Ao (fun rec2 vs H1 => Sh.f3l H rec2 (ag vs 0) (ag vs 1) (ag vs 2) (ag vs 3) (ag vs 4) (ag vs 5) H1) AC [.ptr H.length 0 0, .ptr (H.length + 1) 0 0, .ptr (H.length + 2) 0 0, .int .i64 (a : Int), .bool m, .int .i64 (f : Int)] (H ++ [.cel 0 [.str b, .int .i64 (f : Int), .int .i64 0], .cel 0 [.str [], .int .i64 0, .int .i64 0], .cel 0 [.bool false, .sl [] .tight]]) = some (.ret (MY b a (E8 b f [] 402 f)), H) := by
  intro m f haf hf hm0
  have key := AM (G := fun rec2 vs H1 => Sh.f3l H rec2 (ag vs 0) (ag vs 1) (ag vs 2) (ag vs 3) (ag vs 4) (ag vs 5) H1) (σ := Nat) (fun i => f ≤ i ∧ i ≤ b.length ∧ i - f ≤ 400) (fun _ => [.ptr H.length 0 0, .ptr (H.length + 1) 0 0, .ptr (H.length + 2) 0 0, .int .i64 (a : Int), .bool m, .int .i64 (f : Int)])
   (fun i => H ++ [.cel 0 [.str b, .int .i64 (i : Int), .int .i64 0], .cel 0 [.str [], .int .i64 0, .int .i64 0], .cel 0 [.bool false, .sl [] .tight]]) (fun i => b.length - i) (fun i => some (.ret (MY b a (E8 b f [] (402 - (i - f)) i)), H)) (fun i rec hi hrec => ?_) f ⟨Nat.le_refl _, hf, by omega⟩ (by omega)
  ·rw [Nat.sub_self, Nat.sub_zero] at key; exact key
  ·obtain ⟨h1, h2, h3⟩ := hi
   have he := fun e H => Do b i e H
   have hst := fun e H => E6 b i e H
   unfold AT BL at he hst
   have e : 402 - (i - f) = (401 - (i - f)) + 1 := by omega
   have hstp := DA h2
   have hw : IntKind.i64.wrap ((i : Int) - (f : Int)) = ((i - f : Nat) : Int) := by rw [A1] <;> omega
   rw [e]
   unfold Sh.f3l
   by_cases hend : b.length ≤ i
   ·have hs : Aq b i BI = false := by unfold Aq; rw [List.getElem?_eq_none hend]
    rw [E8, if_neg (by rw [hs]; decide)]
    by_cases hif : i = f
    ·have hif' : decide ((i : Int) = (f : Int)) = true := decide_eq_true (by omega)
     rw [if_pos hif]
     simp only [GMb, GMc, HPa, HPc, HPd, HPe, HPz, Nat.reduceAdd, Nat.reduceLT, Al, he, hend, hif', hst, hb0, MY, AT, BL, AZ, hstp, hz]
    ·have hif' : ¬ (i : Int) = (f : Int) := by omega
     rw [if_neg hif]
     have hp := fun H => LX ((b.take i).drop a) H (by rw [List.length_drop, List.length_take]; omega)
     obtain ⟨sg, es, hbig⟩ : ∃ sg es, big (BW ((b.take i).drop a)) = .agg [.bool sg, .sl es .no] := ⟨_, _, Nr _⟩
     rw [hbig] at hp
     simp only [GMb, GMc, HPa, HPc, HPd, HPe, HPz, Nat.reduceAdd, Nat.reduceLT, Al, he, hend, hif', Dn (show a ≤ i by omega) h2, hp, MY, AT, BL, BF, hbig]
   ·have hlt : i < b.length := by omega
    have hdg := R0 hlt
    cases hs : Aq b i BI with
    | false =>
     rw [hs] at hdg
     rw [E8, if_neg (by rw [hs]; decide)]
     have stop : ∀ (x : Bool), x = false → (Aj (.bool x) (none : Out) ((Ad false 1 (.ptr H.length 0 1) (H ++ [.cel 0 [.str b, .int .i64 (i : Int), .int .i64 0], .cel 0 [.str [], .int .i64 0, .int .i64 0], .cel 0 [.bool false, .sl [] .tight]])).bind fun _ => none)) = none := fun x hx => by subst hx; simp only [GMb, GMc, HPa, HPc, HPd, HPe, HPz, Nat.reduceAdd, Nat.reduceLT]
     by_cases hge : (b[i].toNat : Int) ≥ 48
     ·have hle : ¬ (b[i].toNat : Int) ≤ 57 := fun h => by rw [decide_eq_true hge, decide_eq_true h] at hdg; cases hdg
      by_cases hif : i = f
      ·have hif' : decide ((i : Int) = (f : Int)) = true := decide_eq_true (by omega)
       rw [if_pos hif]
       simp only [GMb, GMc, HPa, HPc, HPd, HPe, HPz, Nat.reduceAdd, Nat.reduceLT, Al, he, hend, AK hlt, hge, hle, hif', hst, hb0, MY, AT, BL, AZ, hstp, hz]
      ·have hif' : ¬ (i : Int) = (f : Int) := by omega
       rw [if_neg hif]
       have hp := fun H => LX ((b.take i).drop a) H (by rw [List.length_drop, List.length_take]; omega)
       obtain ⟨sg, es, hbig⟩ : ∃ sg es, big (BW ((b.take i).drop a)) = .agg [.bool sg, .sl es .no] := ⟨_, _, Nr _⟩
       rw [hbig] at hp
       simp only [GMb, GMc, HPa, HPc, HPd, HPe, HPz, Nat.reduceAdd, Nat.reduceLT, Al, he, hend, AK hlt, hge, hle, hif', Dn (show a ≤ i by omega) h2, hp, MY, AT, BL, BF, hbig]
     ·by_cases hif : i = f
      ·have hif' : decide ((i : Int) = (f : Int)) = true := decide_eq_true (by omega)
       rw [if_pos hif]
       simp only [GMb, GMc, HPa, HPc, HPd, HPe, HPz, Nat.reduceAdd, Nat.reduceLT, Al, he, hend, AK hlt, hge, hif', hst, hb0, MY, AT, BL, AZ, hstp, hz]
      ·have hif' : ¬ (i : Int) = (f : Int) := by omega
       rw [if_neg hif]
       have hp := fun H => LX ((b.take i).drop a) H (by rw [List.length_drop, List.length_take]; omega)
       obtain ⟨sg, es, hbig⟩ : ∃ sg es, big (BW ((b.take i).drop a)) = .agg [.bool sg, .sl es .no] := ⟨_, _, Nr _⟩
       rw [hbig] at hp
       simp only [GMb, GMc, HPa, HPc, HPd, HPe, HPz, Nat.reduceAdd, Nat.reduceLT, Al, he, hend, AK hlt, hge, hif', Dn (show a ≤ i by omega) h2, hp, MY, AT, BL, BF, hbig]
    | true =>
     rw [hs] at hdg
     obtain ⟨hge, hle⟩ : (b[i].toNat : Int) ≥ 48 ∧ (b[i].toNat : Int) ≤ 57 := by
      have := hdg.symm; simp only [Bool.and_eq_true, decide_eq_true_eq] at this; exact this
     have go : ¬ (f < i ∧ b[f]? = some 48) → ((Ae .none .sub (.int .i64 (i : Int)) (.int .i64 (f : Int))).bind fun x93 =>
 (Ae .none .eql x93 (.int .i64 400)).bind fun x94 =>
 Aj x94 (
 bP H (Au (Af 1 (.ptr H.length 0 2) (.int .i64 4) (H ++ [.cel 0 [.str b, .int .i64 (i : Int), .int .i64 0], .cel 0 [.str [], .int .i64 0, .int .i64 0], .cel 0 [.bool false, .sl [] .tight]]))) fun _ H97 =>
 (Ad true 3 (.ptr H.length 0 0) H97).bind fun x98 =>
 (Ay (some [(.bool false), (.sl [] .tight)]) []).bind fun x99 =>
 bP H (Au (Af 3 (.ptr (H.length + 1) 0 0) x98 H97)) fun _ H101 =>
 bP H (Au (Af 2 (.ptr (H.length + 2) 0 0) x99 H101)) fun _ H103 =>
 (BM [Ad true 3 (.ptr (H.length + 1) 0 0) H103, Ad true 2 (.ptr (H.length + 2) 0 0) H103]).bind fun x104 => rPN H x104 H103) (
 (Ad false 1 (.ptr H.length 0 1) (H ++ [.cel 0 [.str b, .int .i64 (i : Int), .int .i64 0], .cel 0 [.str [], .int .i64 0, .int .i64 0], .cel 0 [.bool false, .sl [] .tight]])).bind fun x106 =>
 (Ae .none .add x106 (.int .i64 1)).bind fun x107 =>
 bP H (Au (Af 1 (.ptr H.length 0 1) x107 (H ++ [.cel 0 [.str b, .int .i64 (i : Int), .int .i64 0], .cel 0 [.str [], .int .i64 0, .int .i64 0], .cel 0 [.bool false, .sl [] .tight]]))) fun _ H110 =>
 rec [.ptr H.length 0 0, .ptr (H.length + 1) 0 0, .ptr (H.length + 2) 0 0, .int .i64 (a : Int), .bool m, .int .i64 (f : Int)] H110)) = some (.ret (MY b a (E8 b f [] (401 - (i - f) + 1) i)), H) := by
      intro hn
      simp only [GMb, GMc, hw]
      by_cases h4 : i - f = 400
      ·have h4' : ((i - f : Nat) : Int) = 400 := by omega
       rw [E8, if_pos hs, if_neg hn, if_pos h4]
       simp only [h4', GMb, GMc, HPa, HPc, HPd, HPe, HPz, Nat.reduceAdd, Nat.reduceLT, hb0, MY, AT, BL, AZ, hz]
      ·have h4' : ¬ ((i - f : Nat) : Int) = 400 := by omega
       rw [numS_on hs hn h4]
       have := hrec (i + 1) ⟨by omega, by omega, by omega⟩ (by omega)
       rw [show 402 - (i + 1 - f) = 401 - (i - f) by omega] at this
       simp only [h4', GMb, GMc, HPa, HPc, HPd, HPe, HPz, Nat.reduceAdd, Nat.reduceLT, Ar (show i < 9223372036854775807 by omega)]
       exact this
     have bad : b[f]? = some 48 ∧ f < i → some (Res.ret (.tup [.agg [.str b, .int .i64 (i : Int), .int .i64 (P7 b i)], big 0]), H) = some (.ret (MY b a (E8 b f [] (401 - (i - f) + 1) i)), H) := fun hc => by
      rw [E8, if_pos hs, if_pos ⟨hc.2, hc.1⟩]
      simp only [MY, AT, BL, AZ, hstp]
     have hfl : f < b.length := by omega
     have hgf : b[f]? = some b[f] := List.getElem?_eq_getElem hfl
     by_cases hfi : f < i
     ·have hfi1 : ¬ (i : Int) = (f : Int) := by omega
      have hfi2 : (i : Int) > (f : Int) := by omega
      by_cases h48 : b[f] = 48
      ·have hbad := bad ⟨by rw [hgf, h48], hfi⟩
       cases m with
       | false =>
        simp only [GMb, GMc, HPa, HPc, HPd, HPe, HPz, Nat.reduceAdd, Nat.reduceLT, Al, he, hend, AK hlt, AK hfl, hge, hle, hfi1, hfi2, Qd, h48, hst, hb0, hz]
        exact hbad
       | true =>
        simp only [GMb, GMc, HPa, HPc, HPd, HPe, HPz, Nat.reduceAdd, Nat.reduceLT, Al, he, hend, AK hlt, AK hfl, hge, hle, hfi1, hfi2, Qd, h48, hst, hb0, hz]
        exact hbad
      ·have hgo := go (fun hc => h48 (by have := hc.2; rw [hgf] at this; exact Option.some.inj this))
       simp only [GMb, GMc, HPa, HPc, HPd, HPe, HPz, Nat.reduceAdd, Nat.reduceLT, hb0] at hgo
       cases m with
       | false =>
        simp only [GMb, GMc, HPa, HPc, HPd, HPe, HPz, Nat.reduceAdd, Nat.reduceLT, Al, he, hend, AK hlt, AK hfl, hge, hle, hfi1, hfi2, Qd, h48, hst, hb0]
        exact hgo
       | true =>
        simp only [GMb, GMc, HPa, HPc, HPd, HPe, HPz, Nat.reduceAdd, Nat.reduceLT, Al, he, hend, AK hlt, AK hfl, hge, hle, hfi1, hfi2, Qd, h48, hst, hb0]
        exact hgo
     ·have hif : i = f := by omega
      have hfi1 : (i : Int) = (f : Int) := by omega
      have hfi2 : ¬ (i : Int) > (f : Int) := by omega
      have hgo := go (fun hc => hfi hc.1)
      simp only [GMb, GMc, HPa, HPc, HPd, HPe, HPz, Nat.reduceAdd, Nat.reduceLT, hb0] at hgo
      cases m with
      | false =>
       simp only [GMb, GMc, HPa, HPc, HPd, HPe, HPz, Nat.reduceAdd, Nat.reduceLT, Al, he, hend, AK hlt, hge, hle, hfi2, hst, hb0]
       exact hgo
      | true =>
       have h48 : ¬ b[i] = 48 := fun e' => hm0 rfl (by rw [← hif, List.getElem?_eq_getElem hlt, e'])
       have hdd : decide ((i : Int) = (f : Int)) = true := decide_eq_true hfi1
       simp only [GMb, GMc, HPa, HPc, HPd, HPe, HPz, Nat.reduceAdd, Nat.reduceLT, Al, he, hend, AK hlt, hge, hle, hdd, hfi2, Qd, h48, hst, hb0]
       exact hgo
 have h45 : Aq b a [45] = isB b a 45 := by
  unfold isB
  by_cases h : a < b.length
  ·rw [Dh h, List.getElem?_eq_getElem h]; simp
  ·unfold Aq; rw [List.getElem?_eq_none (by omega)]; simp
 have hsee := fun e H => r15_sees b a e 45 H
 unfold AT BL at hsee
 rw [show (((45 : UInt8).toNat : Int)) = 45 from rfl] at hsee
 unfold Sh.f19 Sh.f6d AT BL
 cases neg with
 | false =>
  have := loop false a (Nat.le_refl _) ha (fun h => by cases h)
  have e : EB b a false [] = E8 b a [] 402 a := rfl
  rw [e]
  simp only [GMb, GMc, HPa, HPc, HPd, HPe, HPz, Nat.reduceAdd, Nat.reduceLT] at this ⊢
  exact this
 | true =>
  cases hm : isB b a 45 with
  | false =>
   have := loop false a (Nat.le_refl _) ha (fun h => by cases h)
   have e : EB b a true [] = E8 b a [] 402 a := by simp [EB, Nk, h45, hm]
   rw [e]
   simp only [GMb, GMc, HPa, HPc, HPd, HPe, HPz, Nat.reduceAdd, Nat.reduceLT, hsee, hm] at this ⊢
   exact this
  | true =>
   have hlt : a < b.length := by rw [← h45] at hm; exact BU hm
   have hw := Ar (show a < 9223372036854775807 by omega)
   cases h0 : Aq b (a + 1) [48] with
   | false =>
    have e : EB b a true [] = E8 b (a + 1) [] 402 (a + 1) := by simp [EB, Nk, h45, hm, h0]
    have := loop true (a + 1) (Nat.le_succ _) hlt (fun _ hc => by unfold Aq at h0; rw [hc] at h0; cases h0)
    rw [e]
    simp only [GMb, GMc, HPa, HPc, HPd, HPe, HPz, Nat.reduceAdd, Nat.reduceLT, hsee, hm, hw] at this ⊢
    exact this
   | true =>
    have hlt1 := BU h0
    have h48 : b[a + 1] = 48 := by rw [Dh hlt1] at h0; exact of_decide_eq_true h0
    have e : EB b a true [] = (some (CJ b (a + 1) []), a + 1) := by simp [EB, Nk, h45, hm, h0]
    rw [e]
    have he := fun e H => Do b (a + 1) e H
    have hst := fun e H => E6 b (a + 1) e H
    unfold AT BL at he hst
    have hnle : ¬ b.length ≤ a + 1 := by omega
    have hstp := DA (show a + 1 ≤ b.length by omega) []
    simp only [GMb, GMc, HPa, HPc, HPd, HPe, HPz, Nat.reduceAdd, Nat.reduceLT, hsee, hm, hw]
    rw [Hp L5]
    unfold Sh.f3l
    simp only [GMb, GMc, HPa, HPc, HPd, HPe, HPz, Nat.reduceAdd, Nat.reduceLT, Al, he, hnle, AK hlt1, h48, Qd, show decide (((48 : UInt8).toNat : Int) ≥ 48) = true from by decide, show decide (((48 : UInt8).toNat : Int) ≤ 57) = true from by decide, show decide (((48 : UInt8).toNat : Int) = 48) = true from by decide, hst, hb0, MY, AT, BL, AZ, hstp, hz]
theorem r15_intX (b : List UInt8) (a : Nat) {e : Int} (he : e ≠ 0) (neg : Bool) (H : Aa) : Sh.f19 (AT b a e) (.bool neg) H = some (.ret (.tup [AT b a e, big 0]), H) := by
 have hb0 : Ay (some [(.bool false), (.sl [] .tight)]) [] = some (.agg [.bool false, .sl [] .tight]) := rfl
 have hz : Ab.agg [.bool false, .sl [] .no] = big 0 := by rw [← LM]; rfl
 unfold Sh.f19 AT BL
 simp only [GMb, GMc, HPa, HPc, HPd, HPe, HPz, Nat.reduceAdd, Nat.reduceLT, he, hb0, hz]
end Go.Gm
namespace Go.Gm
def ats (st : MSt) : List Nat := st.lines.map (·.1)
def lvs (st : MSt) : List Int := st.lines.map (·.2)
def AB (law : List UInt8) (v1 v2 v3 : Ab) : List Ab := [.str law, v1, v2, v3]
structure SR (b0 : Nat) (st : MSt) (v1 v2 v3 : Ab) (H : Aa) : Prop where
 nodes : RS cNd At 5 b0 st.nodes v1 H
 ats : RS cN Cp 1 b0 (ats st) v2 H
 lvs : RS cI Cp 1 b0 (lvs st) v3 H
 apart : ∀ i es es', v2 = .sl es (.own i) → v3 ≠ .sl es' (.own i)
theorem SR.push {b0 : Nat} {st : MSt} {v1 v2 v3 : Ab} {H : Aa} (h : SR b0 st v1 v2 v3 H) (G : Aa) : SR b0 st v1 v2 v3 (H ++ G) :=
 ⟨h.nodes.left G, h.ats.left G, h.lvs.left G, h.apart⟩
theorem SR.put {b0 p : Nat} {st : MSt} {v1 v2 v3 : Ab} {H : Aa} {c c' : List Ab} (h : SR b0 st v1 v2 v3 H) (hp : H[p]? = some (.cel 0 c)) : SR b0 st v1 v2 v3 (H.set p (.cel 0 c')) :=
 ⟨h.nodes.put hp, h.ats.put hp, h.lvs.put hp, h.apart⟩
theorem SR.law {b0 : Nat} {st : MSt} {v1 v2 v3 : Ab} {H : Aa} (h : SR b0 st v1 v2 v3 H) (law : List UInt8) : SR b0 { st with law := law } v1 v2 v3 H := ⟨h.nodes, h.ats, h.lvs, h.apart⟩
theorem Dm {b0 : Nat} {st : MSt} {v1 v2 v3 : Ab} {H : Aa} (h : SR b0 st v1 v2 v3 H) (law : List UInt8) : (AB law v1 v2 v3).all Ab.isScal = true := by
 simp only [AB, allA_cons, allA_nil, h.nodes.one, h.ats.one, h.lvs.one, scal_str, Bool.and_self]
theorem BG (law : List UInt8) (v1 v2 v3 : Ab) : (AB law v1 v2 v3).length = 4 := (rfl)
theorem RS.frz {α : Type} {f : α → List Ab} {ty : TypeId} {sz b : Nat} {out : List α} {v : Ab} {H : Aa} (h : RS f ty sz b out v H) (G : Aa) (d : Nat) : Gm.frz (H ++ G) H.length (d + 1) v = some v := by
 rcases h with ⟨_, rfl⟩ | ⟨t, _, rfl, h3⟩
 ·simp [Gm.frz]
 ·have := (List.getElem?_eq_some_iff.1 h3).1
  simp [Gm.frz, this]
theorem cur_frz (b : List UInt8) (a : Nat) (e : Int) (H : Aa) (n d : Nat) : frz H n (d + 3) (AT b a e) = some (AT b a e) := plnT_frz (v := AT b a e) rfl
theorem frzL_nil (H : Aa) (n d : Nat) : Dy H n (d + 1) [] = some [] := by simp [Dy]
theorem SO (H : Aa) (n d : Nat) (v : Ab) (vs : List Ab) : Dy H n (d + 1) (v :: vs) = (frz H n d v).bind fun v => (Dy H n (d + 1) vs).map (v :: ·) := by simp [Dy]
theorem st_frz {b0 : Nat} {st : MSt} {v1 v2 v3 : Ab} {H : Aa} (h : SR b0 st v1 v2 v3 H) (law : List UInt8) (G : Aa) (d : Nat) : frz (H ++ G) H.length (d + 3) (.agg (AB law v1 v2 v3)) = some (.agg (AB law v1 v2 v3)) := by
 have hs : frz (H ++ G) H.length (d + 1) (.str law) = some (.str law) := by simp [frz]
 simp only [frz, AB, SO, frzL_nil, hs, h.nodes.frz G d, h.ats.frz G d, h.lvs.frz G d, Bw, Option.map_some]
theorem rP_st {b0 : Nat} {st : MSt} {v1 v2 v3 : Ab} {H : Aa} (h : SR b0 st v1 v2 v3 H) (law : List UInt8) (b : List UInt8) (a : Nat) (e : Int) (G : Aa) : rP H (.tup [AT b a e, .agg (AB law v1 v2 v3)]) (H ++ G) = some (.ret (.tup [AT b a e, .agg (AB law v1 v2 v3)]), H) := by
 rw [rP_eq _ (by simp)]
 have h1 := cur_frz b a e (H ++ G) H.length 3
 have h2 := st_frz h law G 3
 have : frz (H ++ G) H.length 8 (.tup [AT b a e, .agg (AB law v1 v2 v3)]) = some (.tup [AT b a e, .agg (AB law v1 v2 v3)]) := by
  simp only [frz] at h1 h2 ⊢
  simp only [SO, frzL_nil, frz, h1, h2, Bw, Option.map_some]
 rw [this]; rfl
def Gh (lines : List (Nat × Int)) (level : Int) : Nat := if level = 1 then 255 else lines.length
theorem S9 {lines : List (Nat × Int)} {level : Int} {n : Nat} (h : CK lines level n = true) : n ≤ Gh lines level := by
 unfold Gh
 by_cases hl : level = 1
 ·rw [if_pos hl]; unfold CK at h; rw [if_pos hl] at h; exact of_decide_eq_true h
 ·rw [if_neg hl]; exact QO hl h
def Jv (lines : List (Nat × Int)) (level : Int) (t : List UInt8) (n : Nat) : Bool := CK lines level n && decide (cpN (Bm n) t = t.length)
def NS (lines : List (Nat × Int)) (level : Int) (t : List UInt8) (n : Nat) : Bool := CK lines level n && (Bm n == t)
def Dw (lines : List (Nat × Int)) (level : Int) (t : List UInt8) : Int :=
 if (List.range (Gh lines level + 1)).any (NS lines level t) then 2 else if (List.range (Gh lines level + 1)).any (Jv lines level t) then 1 else 0
theorem cpN_app (s t : List UInt8) : cpN (t ++ s) t = t.length := by
 induction t with
 | nil => cases s <;> rfl
 | cons c t ih => show (if c = c then cpN (t ++ s) t + 1 else 0) = _; rw [if_pos rfl, ih]; rfl
theorem cpN_pre : ∀ (u t : List UInt8), cpN u t = t.length → ∃ s, u = t ++ s
 | u, [], _ => ⟨u, rfl⟩
 | [], c :: t, h => by simp [cpN] at h
 | d :: u, c :: t, h => by
  unfold cpN at h
  by_cases hc : d = c
  ·rw [if_pos hc] at h
   obtain ⟨s, hs⟩ := cpN_pre u t (by simpa using h)
   exact ⟨s, by rw [hs, hc]; rfl⟩
  ·rw [if_neg hc] at h; simp at h
theorem Oe (p : Nat → Bool) (n : Nat) : (List.range (n + 1)).any p = ((List.range n).any p || p n) := by
 rw [List.range_succ, List.any_append]; simp
theorem r19_fits {b0 : Nat} {st : MSt} {v1 v2 v3 : Ab} {H : Aa} (h : SR b0 st v1 v2 v3 H) (law t : List UInt8) (level : Int) (h1 : 1 ≤ level) (h2 : level ≤ 1329) (hll : st.lines.length < 3000000000000) (ht : t.length < 1000000000000) (G : Aa) :
  Sh.f1b (.str t) (.int .i64 level) (.agg (AB law v1 v2 v3)) (H ++ G) = some (.ret (.int .i64 (Dw st.lines level t)), H ++ G) := by
 have hsc := Dm h law
 have halen : (ats st).length = st.lines.length := by unfold ats; rw [List.length_map]
 have hllen : (lvs st).length = st.lines.length := by unfold lvs; rw [List.length_map]
 have hal := h.ats.len
 rw [halen] at hal
 unfold Sh.f1b
 rw [DK (sz := 4) hsc rfl]
 obtain ⟨K, hK⟩ : ∃ K : Aa, K = H ++ G := ⟨_, rfl⟩
 rw [← hK]
 have key : ∀ most : Nat, Gh st.lines level = most → most < 4000000000000 →
   Sh.f5x K (.str t) (.int .i64 level) (.ptr K.length 0 0) (.int .i64 0) (.int .i64 (most : Int)) (K ++ [.cel 0 (AB law v1 v2 v3)]) = some (.ret (.int .i64 (Dw st.lines level t)), K) := by
  intro most hm hm2
  have loop := AM (G := fun rec2 vs H1 => Sh.f5w K rec2 (ag vs 0) (ag vs 1) (ag vs 2) (ag vs 3) (ag vs 4) (ag vs 5) H1) (σ := Nat) (fun n => n ≤ most + 1 ∧ (List.range n).any (NS st.lines level t) = false)
   (fun n => [.str t, .int .i64 level, .ptr K.length 0 0, .int .i64 (if (List.range n).any (Jv st.lines level t) then 1 else 0), .int .i64 (most : Int), .int .i64 (n : Int)]) (fun _ => K ++ [.cel 0 (AB law v1 v2 v3)]) (fun n => most + 1 - n)
   (fun _ => some (.ret (.int .i64 (Dw st.lines level t)), K)) (fun n rec hs hrec => ?_) 0 ⟨Nat.zero_le _, by simp⟩ (by omega)
  ·unfold Sh.f5x
   simpa using loop
  ·obtain ⟨hn, hno⟩ := hs
   unfold Sh.f5w
   by_cases hle : n ≤ most
   ·have hle' : (n : Int) ≤ (most : Int) := by omega
    have next : Jv st.lines level t n = false ∨ Jv st.lines level t n = true → NS st.lines level t n = false → ∀ o : Int, o = (if (List.range (n + 1)).any (Jv st.lines level t) then 1 else 0) → Sh.f30 K rec (.str t) (.int .i64 level) (.ptr K.length 0 0) (.int .i64 o) (.int .i64 (most : Int)) (.int .i64 (n : Int)) (K ++ [.cel 0 (AB law v1 v2 v3)]) = some (.ret (.int .i64 (Dw st.lines level t)), K) := by
     intro _ he o ho
     have := hrec (n + 1) ⟨by omega, by rw [Oe, hno, he]; rfl⟩ (by omega)
     rw [← ho] at this
     unfold Sh.f30
     simp only [GMb, GMc, Ar (show n < 9223372036854775807 by omega)]
     exact this
    have look : CK st.lines level n = true → (bP K (Sh.fq (.int .i64 (n : Int)) (K ++ [.cel 0 (AB law v1 v2 v3)])) fun x45 H46 =>
 bP K (Sh.fr x45 H46) fun x47 H48 =>
 (Ae .none .eql x47 (.str t)).bind fun x49 =>
 Aj x49 (
 rP K (.int .i64 2) H48) (
 bP K (Sh.fv x47 (.str t) H48) fun x50 H51 =>
 (Be (.str t)).bind fun x52 =>
 (Ae .none .eql x50 x52).bind fun x53 =>
 Aj x53 (
 Sh.f30 K rec (.str t) (.int .i64 level) (.ptr K.length 0 0) (.int .i64 1) (.int .i64 (most : Int)) (.int .i64 (n : Int)) H51) (
 Sh.f30 K rec (.str t) (.int .i64 level) (.ptr K.length 0 0) (.int .i64 (if (List.range n).any (Jv st.lines level t) then 1 else 0)) (.int .i64 (most : Int)) (.int .i64 (n : Int)) H51))) = some (.ret (.int .i64 (Dw st.lines level t)), K) := by
     intro hmay
     have hof := fun H => q02_of (n : Int) H (by omega) (by omega)
     have hz : FB (n : Int) = Bm n := by unfold FB; rw [if_neg (by omega), Int.natAbs_natCast]
     have hbig : ((n : Int)).natAbs < 10 ^ 4096 := by
      rw [Int.natAbs_natCast]
      exact Nat.lt_of_lt_of_le (m := 10 ^ 19) (by omega) (pow10_up (a := 19) (b := 4096) (by omega))
     have htx := fun H => q03_text (n : Int) H hbig
     rw [hz] at htx
     have hdl := decN_len n
     have hcm := fun H => Qz (Bm n) t H (by omega)
     have hpre : Jv st.lines level t n = decide (cpN (Bm n) t = t.length) := by unfold Jv; rw [hmay]; rfl
     have heqv : NS st.lines level t n = (Bm n == t) := by unfold NS; rw [hmay]; rfl
     simp only [GMb, GMc, HPa, HPc, HPd, HPe, HPz, Nat.reduceAdd, Nat.reduceLT, hof, htx, HL]
     cases he : (Bm n == t) with
     | true =>
      have : Dw st.lines level t = 2 := by
       unfold Dw
       rw [if_pos (by rw [List.any_eq_true]; exact ⟨n, by rw [List.mem_range]; omega, by rw [heqv, he]⟩)]
      simp only [GMb, GMc, HPa, HPc, HPd, HPe, HPz, Nat.reduceAdd, Nat.reduceLT, this]
     | false =>
      by_cases hp : cpN (Bm n) t = t.length
      ·have hp' : (cpN (Bm n) t : Int) = (t.length : Int) := by omega
       have := next (.inr (by rw [hpre]; exact decide_eq_true hp)) (by rw [heqv, he]) 1 (by rw [Oe, hpre, decide_eq_true hp, Bool.or_true]; rfl)
       simp only [GMb, GMc, HPa, HPc, HPd, HPe, HPz, Nat.reduceAdd, Nat.reduceLT, hcm, hp']
       exact this
      ·have hp' : ¬ (cpN (Bm n) t : Int) = (t.length : Int) := by omega
       have := next (.inl (by rw [hpre]; exact decide_eq_false hp)) (by rw [heqv, he]) (if (List.range n).any (Jv st.lines level t) then 1 else 0) (by rw [Oe, hpre, decide_eq_false hp, Bool.or_false])
       simp only [GMb, GMc, HPa, HPc, HPd, HPe, HPz, Nat.reduceAdd, Nat.reduceLT, hcm, hp']
       exact this
    simp only [GMb, GMc, Al, hle']
    have skip : CK st.lines level n = false → Sh.f30 K rec (.str t) (.int .i64 level) (.ptr K.length 0 0) (.int .i64 (if (List.range n).any (Jv st.lines level t) then 1 else 0)) (.int .i64 (most : Int)) (.int .i64 (n : Int)) (K ++ [.cel 0 (AB law v1 v2 v3)]) = some (.ret (.int .i64 (Dw st.lines level t)), K) := fun hmay => by
     have hpre : Jv st.lines level t n = false := by unfold Jv; rw [hmay]; rfl
     have heqv : NS st.lines level t n = false := by unfold NS; rw [hmay]; rfl
     exact next (.inl hpre) heqv _ (by rw [Oe, hpre, Bool.or_false])
    by_cases hn0 : n = 0
    ·have hn0' : ¬ (n : Int) > 0 := by omega
     have := look (by rw [hn0]; exact Ov _ _)
     simp only [hn0', GMb, GMc] at this ⊢
     exact this
    ·have hn0' : (n : Int) > 0 := by omega
     by_cases hl1 : level > 1
     ·have hml : Gh st.lines level = st.lines.length := by unfold Gh; rw [if_neg (by omega)]
      have hlt : n - 1 < (lvs st).length := by rw [hllen]; omega
      have hlt' : n - 1 < st.lines.length := by omega
      have hw : IntKind.i64.wrap ((n : Int) - 1) = ((n - 1 : Nat) : Int) := C7 (by omega) (by omega)
      have hw2 : IntKind.i64.wrap (level - 1) = level - 1 := by rw [A1] <;> omega
      have hld : Ad false 1 (.ptr K.length 0 3) (K ++ [.cel 0 (AB law v1 v2 v3)]) = some v3 := by rw [CL]; rfl
      have hget : (lvs st)[n - 1] = st.lines[n - 1].2 := by simp [lvs]
      have hmay : CK st.lines level n = decide (st.lines[n - 1].2 = level - 1) := by
       unfold CK
       rw [if_neg (by omega), if_neg hn0, List.getElem?_eq_getElem hlt']
      simp only [hn0', hl1, GMb, GMc, HPa, HPc, HPd, HPe, HPz, Nat.reduceAdd, Nat.reduceLT, hld, hw, hw2, h.lvs.idx hlt, Aw, AP, hget]
      by_cases he : st.lines[n - 1].2 = level - 1
      ·have := look (by rw [hmay]; exact decide_eq_true he)
       simp only [he, GMb, GMc] at this ⊢
       exact this
      ·have := skip (by rw [hmay]; exact decide_eq_false he)
       simp only [he, GMb, GMc]
       exact this
     ·have hl11 : level = 1 := by omega
      have := look (by unfold CK; rw [if_pos hl11, decide_eq_true_eq]; unfold Gh at hm; rw [if_pos hl11] at hm; omega)
      simp only [hn0', hl1, GMb, GMc] at this ⊢
      exact this
   ·have hle' : ¬ (n : Int) ≤ (most : Int) := by omega
    have hnm : n = Gh st.lines level + 1 := by omega
    have : Dw st.lines level t = (if (List.range n).any (Jv st.lines level t) then 1 else 0) := by
     unfold Dw
     rw [← hnm, hno]; rfl
    simp only [GMb, GMc, HPa, HPc, HPd, HPe, HPz, Nat.reduceAdd, Nat.reduceLT, Al, hle', this]
 have hl2 : Ad false 1 (.ptr K.length 0 2) (K ++ [.cel 0 (AB law v1 v2 v3)]) = some v2 := by rw [CL]; rfl
 by_cases hl1 : level = 1
 ·have := key 255 (by unfold Gh; rw [if_pos hl1]) (by decide)
  rw [show (((255 : Nat) : Int)) = 255 from rfl] at this
  simp only [GMb, GMc, Ai, Nat.zero_add, hl2, hal, hl1] at this ⊢
  exact this
 ·have := key st.lines.length (by unfold Gh; rw [if_neg hl1]) (by omega)
  simp only [GMb, GMc, Ai, Nat.zero_add, hl2, hal, hl1]
  exact this
end Go.Gm
namespace Go.Gm
section
variable {lines : List (Nat × Int)} {level : Int}
theorem fits_ne (t : List UInt8) : Dw lines level t ≠ 0 ↔ ∃ n s, CK lines level n = true ∧ Bm n = t ++ s := by
 have eqv_pre : ∀ n, NS lines level t n = true → Jv lines level t n = true := fun n h => by
  unfold NS at h; unfold Jv
  simp only [Bool.and_eq_true, beq_iff_eq, decide_eq_true_eq] at h ⊢
  refine ⟨h.1, ?_⟩
  rw [h.2]
  have := cpN_app [] t
  rwa [List.append_nil] at this
 have pre_iff : ∀ n, Jv lines level t n = true ↔ CK lines level n = true ∧ ∃ s, Bm n = t ++ s := fun n => by
  unfold Jv
  simp only [Bool.and_eq_true, decide_eq_true_eq]
  constructor
  ·rintro ⟨h1, h2⟩; exact ⟨h1, cpN_pre _ _ h2⟩
  ·rintro ⟨h1, s, h2⟩; exact ⟨h1, by rw [h2]; exact cpN_app s t⟩
 unfold Dw
 constructor
 ·intro h
  by_cases h1 : (List.range (Gh lines level + 1)).any (NS lines level t) = true
  ·obtain ⟨n, _, hn⟩ := List.any_eq_true.1 h1
   obtain ⟨q1, s, q2⟩ := (pre_iff n).1 (eqv_pre n hn)
   exact ⟨n, s, q1, q2⟩
  ·rw [if_neg h1] at h
   by_cases h2 : (List.range (Gh lines level + 1)).any (Jv lines level t) = true
   ·obtain ⟨n, _, hn⟩ := List.any_eq_true.1 h2
    obtain ⟨q1, s, q2⟩ := (pre_iff n).1 hn
    exact ⟨n, s, q1, q2⟩
   ·rw [if_neg h2] at h; exact absurd rfl h
 ·rintro ⟨n, s, h1, h2⟩
  by_cases hq : (List.range (Gh lines level + 1)).any (NS lines level t) = true
  ·rw [if_pos hq]; decide
  ·rw [if_neg hq, if_pos]
   ·decide
   ·rw [List.any_eq_true]
    exact ⟨n, by have := S9 h1; rw [List.mem_range]; omega, (pre_iff n).2 ⟨h1, s, h2⟩⟩
theorem fits_two (t : List UInt8) : ¬ Dw lines level t < 2 ↔ ∃ n, CK lines level n = true ∧ Bm n = t := by
 unfold Dw
 constructor
 ·intro h
  by_cases h1 : (List.range (Gh lines level + 1)).any (NS lines level t) = true
  ·obtain ⟨n, _, hn⟩ := List.any_eq_true.1 h1
   unfold NS at hn
   simp only [Bool.and_eq_true, beq_iff_eq] at hn
   exact ⟨n, hn⟩
  ·rw [if_neg h1] at h
   exfalso; apply h; split <;> decide
 ·rintro ⟨n, h1, h2⟩
  rw [if_pos]
  ·decide
  ·rw [List.any_eq_true]
   refine ⟨n, by have := S9 h1; rw [List.mem_range]; omega, ?_⟩
   unfold NS
   simp only [Bool.and_eq_true, beq_iff_eq]
   exact ⟨h1, h2⟩
theorem fits_dec (m : Nat) : Dw lines level (Bm m) ≠ 0 ↔ (DV lines level m).isSome = true := by
 rw [fits_ne, longS_iff]
 exact ⟨fun ⟨n, s, h1, h2⟩ => ⟨n, s, h2, h1⟩, fun ⟨n, s, h1, h2⟩ => ⟨n, s, h2, h1⟩⟩
theorem fits_dec2 (m : Nat) : ¬ Dw lines level (Bm m) < 2 ↔ CK lines level m = true := by
 rw [fits_two]
 exact ⟨fun ⟨n, h1, h2⟩ => by rw [← decN_inj h2]; exact h1, fun h => ⟨m, h, rfl⟩⟩
theorem fits_none : Dw lines level [] < 2 := by
 apply Classical.byContradiction
 intro h
 obtain ⟨n, _, h2⟩ := (fits_two []).1 h
 have := R2 n
 rw [h2] at this; simp at this
theorem fits_lead (c : UInt8) : Dw lines level [48, c] = 0 := by
 apply Classical.byContradiction
 intro h
 obtain ⟨n, s, _, h2⟩ := (fits_ne [48, c]).1 h
 by_cases hn : n = 0
 ·rw [hn, SZ] at h2; simp at h2
 ·obtain ⟨d, r, h3, h4⟩ := Tb n hn
  rw [h3] at h2; simp at h2
  exact h4 h2.1

end
theorem take_snoc {b : List UInt8} {a i : Nat} (h1 : a ≤ i) (h2 : i < b.length) : (b.take (i + 1)).drop a = (b.take i).drop a ++ [b[i]] := by
 rw [List.take_succ_eq_append_getElem h2, List.drop_append_of_le_length (by rw [List.length_take]; omega)]
theorem dig_char {b : List UInt8} {i : Nat} (h : Aq b i BI = true) (hl : i < b.length) : b[i] = UInt8.ofNat (48 + Co b i) := by
 obtain ⟨_, h1, h2, h3⟩ := Hy h
 rw [h3, show 48 + (b[i].toNat - 48) = b[i].toNat by omega, UInt8.ofNat_toNat]
def KK (b : List UInt8) (R : Er × Nat × Nat) : Ab := .tup [AT b R.2.1 (Eq R.1), .int .i64 (match R.1 with | none => (R.2.2 : Int) | some _ => 0)]
theorem r19_kid {b0 : Nat} {st : MSt} {v1 v2 v3 : Ab} {H : Aa} (h : SR b0 st v1 v2 v3 H) (law : List UInt8) {b : List UInt8} {a : Nat} (ha : a ≤ b.length) (hb : b.length < 100000000000) {level : Int} (h1 : 1 ≤ level) (h2 : level ≤ 1329) (hll : st.lines.length < 100000000000) (rest : List UInt8) :
  Sh.f1d (AT b a 0) (.int .i64 level) (.agg (AB law v1 v2 v3)) H = some (.ret (KK b (L2 b a st.lines level rest)), H) := by
 have hsc := Dm h law
 have hln := BG law v1 v2 v3
 have hal := h.ats.len
 have halen : (ats st).length = st.lines.length := by unfold ats; rw [List.length_map]
 unfold Sh.f1d AT
 have hbx : ∀ K : Aa, BP true 4 (.agg (AB law v1 v2 v3)) K = some (.ptr K.length 0 0, K ++ [.cel 0 (AB law v1 v2 v3)]) := fun K => DK hsc rfl
 have key := AM (G := fun rec1 vs H1 => Sh.f5z H rec1 (ag vs 0) (ag vs 1) (ag vs 2) (ag vs 3) (ag vs 4) H1) (σ := Nat × Nat) (fun s => a ≤ s.1 ∧ s.1 ≤ b.length ∧ s.2 ≤ max 255 st.lines.length ∧ (a < s.1 → (b.take s.1).drop a = Bm s.2) ∧ (s.1 = a → s.2 = 0))
  (fun _ => [.int .i64 level, .ptr H.length 0 0, .ptr (H.length + 1) 0 0, .ptr (H.length + 2) 0 0, .int .i64 (a : Int)]) (fun s => H ++ [.cel 0 (BL b s.1 0), .cel 0 (AB law v1 v2 v3), .cel 0 [.str [], .int .i64 0, .int .i64 0]]) (fun s => b.length - s.1)
  (fun s => some (.ret (KK b ((JF b st.lines level a rest (b.length + 1 - s.1) s.1 s.2).1, (JF b st.lines level a rest (b.length + 1 - s.1) s.1 s.2).2.1, Pe st.lines level (JF b st.lines level a rest (b.length + 1 - s.1) s.1 s.2).2.2)), H)) (fun s rec hi hrec => ?_) (a, 0) ⟨Nat.le_refl _, ha, Nat.zero_le _, fun h => absurd h (by simp), fun _ => rfl⟩ (by dsimp only; omega)
 ·unfold L2
  unfold BL at key ⊢
  simp only [GMb, GMc, HPa, HPc, HPd, HPe, HPz, Nat.reduceAdd, Nat.reduceLT, hbx]
  exact key
 ·obtain ⟨i, n⟩ := s
  obtain ⟨i0, i1, i2, i3, i4⟩ := hi
  dsimp only at i0 i1 i2 i3 i4 hrec ⊢
  have he := fun e H => Do b i e H
  have hst := fun e H => E6 b i e H
  unfold AT BL at he hst
  unfold BL at hrec ⊢
  have hstp := fun s => DA i1 s
  rw [show b.length + 1 - i = (b.length - i) + 1 by omega]
  unfold Sh.f5z JF
  have fin : Aq b i BI = false → ((AS (.str b) (some (.int .i64 (a : Int))) (some (.int .i64 (i : Int)))).bind fun x69 =>
 (Ad true 4 (.ptr (H.length + 1) 0 0) (H ++ [.cel 0 [.str b, .int .i64 (i : Int), .int .i64 0], .cel 0 (AB law v1 v2 v3), .cel 0 [.str [], .int .i64 0, .int .i64 0]])).bind fun x70 =>
 bP H (Sh.f1b x69 (.int .i64 level) x70 (H ++ [.cel 0 [.str b, .int .i64 (i : Int), .int .i64 0], .cel 0 (AB law v1 v2 v3), .cel 0 [.str [], .int .i64 0, .int .i64 0]])) fun x71 H72 =>
 (Ae .none .lss x71 (.int .i64 2)).bind fun x73 =>
 Aj x73 (
 (Ad true 3 (.ptr H.length 0 0) H72).bind fun x74 =>
 bP H (Sh.f2 x74 H72) fun x75 H76 =>
 bP H (Au (Af 3 (.ptr (H.length + 2) 0 0) x75 H76)) fun _ H78 =>
 (BM [Ad true 3 (.ptr (H.length + 2) 0 0) H78, some (.int .i64 0)]).bind fun x79 => rP H x79 H78) (
 bP H (Sh.fw x69 H72) fun x80 H81 =>
 (Ak 0 x80).bind fun x82 =>
 (Ak 1 x80).bind fun x83 =>
 Ap (A3 (some [(.bool false), (.sl [] .tight)]) H81) fun x84 H85 =>
 bP H (Au (Af 2 x84 x82 H85)) fun _ H87 =>
 (Ad true 2 x84 H87).bind fun x88 =>
 bP H (Sh.f1c x88 H87) fun x89 H90 =>
 (Ak 0 x89).bind fun x91 =>
 (Ak 1 x89).bind fun x92 =>
 AJ (fun j2 =>
 (Ae .none .gtr (.int .i64 level) (.int .i64 1)).bind fun x101 =>
 gk x101 true (some x91) fun x102 =>
 gk x101 true (Ae .none .gtr x102 (.int .i64 0)) fun x103 =>
 (Ax x101 x103 (.bool false)).bind fun x104 =>
 Aj x104 (
 (Ac 2 (.ptr (H.length + 1) 0 0)).bind fun x105 =>
 (Ad false 1 x105 H90).bind fun x106 =>
 (Ae .none .sub x91 (.int .i64 1)).bind fun x107 =>
 (A6 1 x106 x107).bind fun x108 =>
 (Ad false 1 x108 H90).bind fun x109 =>
 j2 [.ptr H.length 0 0, .ptr (H.length + 2) 0 0, x109] H90) (
 j2 [.ptr H.length 0 0, .ptr (H.length + 2) 0 0, x91] H90)) (fun vs H1 => Sh.f5y H (ag vs 0) (ag vs 1) (ag vs 2) H1))) =
   some (.ret (KK b ((if i = a then (some (CJ b i (48 :: rest)), i, n) else if CK st.lines level n then (none, i, n) else (some (CJ b i ((Bm ((DV st.lines level n).getD 0)).drop (i - a) ++ rest)), i, n) : Er × Nat × Nat).1, (if i = a then (some (CJ b i (48 :: rest)), i, n) else if CK st.lines level n then (none, i, n) else (some (CJ b i ((Bm ((DV st.lines level n).getD 0)).drop (i - a) ++ rest)), i, n) : Er × Nat × Nat).2.1, Pe st.lines level (if i = a then (some (CJ b i (48 :: rest)), i, n) else if CK st.lines level n then (none, i, n) else (some (CJ b i ((Bm ((DV st.lines level n).getD 0)).drop (i - a) ++ rest)), i, n) : Er × Nat × Nat).2.2)), H) := by
   intro hs
   have hfit := fun t ht => r19_fits h law t level h1 h2 (by omega) ht [.cel 0 [.str b, .int .i64 (i : Int), .int .i64 0], .cel 0 (AB law v1 v2 v3), .cel 0 [.str [], .int .i64 0, .int .i64 0]]
   have hft := hfit ((b.take i).drop a) (by rw [List.length_drop, List.length_take]; omega)
   by_cases hia : i = a
   ·have ht : (b.take i).drop a = [] := by rw [hia, List.drop_eq_nil_of_le (by rw [List.length_take]; omega)]
    have hlt2 : Dw st.lines level [] < 2 := fits_none
    rw [ht] at hft
    rw [if_pos hia]
    simp only [GMb, GMc, HPa, HPc, HPd, HPe, HPz, Nat.reduceAdd, Nat.reduceLT, Dn i0 i1, ht, hln, hft, hlt2, hst, KK, AT, BL, AZ, hstp]
   ·have ht := i3 (by omega)
    rw [if_neg hia]
    rw [ht] at hft
    have hd2 := fits_dec2 (lines := st.lines) (level := level) n
    cases hm : CK st.lines level n with
    | false =>
     have hlt2 : Dw st.lines level (Bm n) < 2 := Classical.byContradiction fun hc => by rw [hd2, hm] at hc; cases hc
     simp only [GMb, GMc, HPa, HPc, HPd, HPe, HPz, Nat.reduceAdd, Nat.reduceLT, Dn i0 i1, ht, hln, hft, hlt2, hst, KK, AT, BL, AZ, hstp, Bool.false_eq_true, if_false]
    | true =>
     have hlt2 : ¬ Dw st.lines level (Bm n) < 2 := hd2.2 hm
     have hnlen : (Bm n).length ≤ 400 := by
      have := OP 20 n (by omega)
      simp at this; omega
     have hz : FB (n : Int) = Bm n := by unfold FB; rw [if_neg (by omega), Int.natAbs_natCast]
     have hpt := parse_text (z := (n : Int)) (by rw [Int.natAbs_natCast]; exact hnlen)
     rw [hz] at hpt
     have hpa := fun K => LX (Bm n) K (by omega)
     rw [hpt.1, hpt.2] at hpa
     have hLB : LB (n : Int) := LB.of (k := 4) (by rw [Int.natAbs_natCast]; omega) (by omega)
     have hint := fun K => q02_intZ (n : Int) K hLB
     have hok : FE (n : Int) = true := by unfold FE; rw [decide_eq_true_eq]; omega
     have hR : RY (n : Int) = (n : Int) := by unfold RY; rw [hok]; rfl
     rw [hok, hR] at hint
     have hbs : (Ef (n : Int)).all Ab.isScal = true := rfl
     have hbl : (Ef (n : Int)).length = 2 := rfl
     have hbg : big (n : Int) = .agg (Ef (n : Int)) := rfl
     rw [hbg] at hpa hint
     simp only [GMb, GMc, HPa, HPc, HPd, HPe, HPz, Nat.reduceAdd, Nat.reduceLT, Dn i0 i1, ht, hln, hft, hlt2, hpa, hbs, hbl, hint, if_true]
     unfold Sh.f5y Pe
     by_cases hl1 : level > 1
     ·by_cases hn0 : (n : Int) > 0
      ·have hnn : 1 < level ∧ 0 < n := ⟨hl1, by omega⟩
       have hnl : n - 1 < st.lines.length := by
        have := QO (by omega) hm; omega
       have hal' : n - 1 < (ats st).length := by rw [halen]; exact hnl
       have hw : IntKind.i64.wrap ((n : Int) - 1) = ((n - 1 : Nat) : Int) := C7 (by omega) (by omega)
       have hget : (ats st)[n - 1] = st.lines[n - 1].1 := by simp [ats]
       have hv2 : (AB law v1 v2 v3)[2]? = some v2 := rfl
       rw [if_pos hnn, List.getElem?_eq_getElem hnl, Option.getD_some]
       simp only [hl1, hn0, GMb, GMc, HPa, HPc, HPd, HPe, HPz, Nat.reduceAdd, Nat.reduceLT, hv2, hw, h.ats.idx hal', Aw, hget, KK, AT, BL, BF]
      ·have hnn : ¬ (1 < level ∧ 0 < n) := fun hc => hn0 (by omega)
       rw [if_neg hnn]
       simp only [hl1, hn0, GMb, GMc, HPa, HPc, HPd, HPe, HPz, Nat.reduceAdd, Nat.reduceLT, KK, AT, BL, BF]
     ·have hnn : ¬ (1 < level ∧ 0 < n) := fun hc => hl1 hc.1
      rw [if_neg hnn]
      simp only [hl1, GMb, GMc, HPa, HPc, HPd, HPe, HPz, Nat.reduceAdd, Nat.reduceLT, KK, AT, BL, BF]
  by_cases hend : b.length ≤ i
  ·have hs : Aq b i BI = false := by unfold Aq; rw [List.getElem?_eq_none hend]
   have := fin hs
   rw [hs]
   simp only [GMb, GMc, HPa, HPc, HPd, HPe, HPz, Nat.reduceAdd, Nat.reduceLT, Al, he, hend, Bool.false_eq_true, if_false] at this ⊢
   exact this
  ·have hlt : i < b.length := by omega
   have hdg := R0 hlt
   cases hs : Aq b i BI with
   | false =>
    rw [hs] at hdg
    have hf := fin hs
    by_cases hge : (b[i].toNat : Int) ≥ 48
    ·have hle : ¬ (b[i].toNat : Int) ≤ 57 := fun h => by rw [decide_eq_true hge, decide_eq_true h] at hdg; cases hdg
     simp only [GMb, GMc, HPa, HPc, HPd, HPe, HPz, Nat.reduceAdd, Nat.reduceLT, Al, he, hend, AK hlt, hge, hle, Bool.false_eq_true, if_false] at hf ⊢
     exact hf
    ·simp only [GMb, GMc, HPa, HPc, HPd, HPe, HPz, Nat.reduceAdd, Nat.reduceLT, Al, he, hend, AK hlt, hge, Bool.false_eq_true, if_false] at hf ⊢
     exact hf
   | true =>
    rw [hs] at hdg
    obtain ⟨hge, hle⟩ : (b[i].toNat : Int) ≥ 48 ∧ (b[i].toNat : Int) ≤ 57 := by
     have := hdg.symm; simp only [Bool.and_eq_true, decide_eq_true_eq] at this; exact this
    have hw := Ar (show i < 9223372036854775807 by omega)
    have hd9 := PR hs
    have hch := dig_char hs hlt
    have hts := take_snoc i0 hlt
    have hfit := fun t ht => r19_fits h law t level h1 h2 (by omega) ht [.cel 0 [.str b, .int .i64 (i : Int), .int .i64 0], .cel 0 (AB law v1 v2 v3), .cel 0 [.str [], .int .i64 0, .int .i64 0]]
    have hft := hfit ((b.take (i + 1)).drop a) (by rw [List.length_drop, List.length_take]; omega)
    have hsl := Dn (s := b) (K := .i64) (K' := .i64) (show a ≤ i + 1 by omega) (show i + 1 ≤ b.length by omega)
    by_cases hz : a < i ∧ n = 0
    ·have hbad : Dw st.lines level ((b.take (i + 1)).drop a) = 0 := by
      rw [hts, i3 hz.1, hz.2, SZ]; exact fits_lead _
     rw [hbad] at hft
     rw [if_pos rfl, if_pos hz]
     simp only [GMb, GMc, HPa, HPc, HPd, HPe, HPz, Nat.reduceAdd, Nat.reduceLT, Al, he, hend, AK hlt, hge, hle, hw, hsl, hln, hft, hst, KK, AT, BL, AZ, hstp]
    ·have htx : (b.take (i + 1)).drop a = Bm (10 * n + Co b i) := by
      rw [hts]
      by_cases hia : i = a
      ·have hn0 := i4 hia
       subst hia
       subst hn0
       rw [List.drop_eq_nil_of_le (by rw [List.length_take]; omega), List.nil_append, Da (by omega), hch]
       simp
      ·have hn0 : n ≠ 0 := fun e => hz ⟨by omega, e⟩
       rw [i3 (by omega), decN_snoc hn0 (by omega), hch]
     rw [htx] at hft
     have hfd := fits_dec (lines := st.lines) (level := level) (10 * n + Co b i)
     rw [if_pos rfl, if_neg hz]
     cases hls : (DV st.lines level (10 * n + Co b i)).isSome with
     | false =>
      have hbad : Dw st.lines level (Bm (10 * n + Co b i)) = 0 := Classical.byContradiction fun hc => by have := hfd.1 hc; rw [hls] at this; cases this
      simp only [GMb, GMc, HPa, HPc, HPd, HPe, HPz, Nat.reduceAdd, Nat.reduceLT, Al, he, hend, AK hlt, hge, hle, hw, hsl, hln, htx, hft, hbad, hst, KK, AT, BL, AZ, hstp, Bool.false_eq_true, if_false]
     | true =>
      have hgood : ¬ Dw st.lines level (Bm (10 * n + Co b i)) = 0 := hfd.2 hls
      obtain ⟨k, hk⟩ := Option.isSome_iff_exists.1 hls
      have hk1 := QU hk
      have hk2 := QS hk
      have := hrec (i + 1, 10 * n + Co b i) ⟨by dsimp only; omega, hlt, by dsimp only; omega, fun _ => htx, fun e => by dsimp only at e; omega⟩ (by dsimp only; omega)
      dsimp only at this
      rw [show b.length + 1 - (i + 1) = b.length - i by omega] at this
      simp only [GMb, GMc, HPa, HPc, HPd, HPe, HPz, Nat.reduceAdd, Nat.reduceLT, Al, he, hend, AK hlt, hge, hle, hw, hsl, hln, htx, hft, hgood, if_true]
      exact this
end Go.Gm
namespace Go.Gm
theorem EQ.refl (v : Ab) (H : Aa) : EQ v v H H := ⟨Nat.le_refl _, fun _ _ _ => rfl, fun i es h => .inr ⟨es, h⟩⟩
theorem EQ.trans {v v' v'' : Ab} {H H' H'' : Aa} (h : EQ v v' H H') (h' : EQ v' v'' H' H'') : EQ v v'' H H'' :=
 ⟨Nat.le_trans h.len h'.len, fun i hi hn => by
  rw [h'.keep i (Nat.lt_of_lt_of_le hi h.len) fun es e => ?_, h.keep i hi hn]
  rcases h.own i es e with h1 | ⟨es', h1⟩
  ·omega
  ·exact hn es' h1,
  fun i es e => by
  rcases h'.own i es e with h1 | ⟨es', h1⟩
  ·exact .inl (Nat.le_trans h.len h1)
  ·exact h.own i es' h1⟩
theorem EQ.app (v : Ab) (H G : Aa) : EQ v v H (H ++ G) := ⟨by simp, fun i hi _ => List.getElem?_append_left hi, fun i es h => .inr ⟨es, h⟩⟩
theorem EQ.set {v v' : Ab} {H H' : Aa} {p : Nat} {B : Blk} (h : EQ v v' H H') (hp : H.length ≤ p) : EQ v v' H (H'.set p B) :=
 ⟨by rw [List.length_set]; exact h.len, fun i hi hn => by rw [List.getElem?_set_ne (by omega)]; exact h.keep i hi hn, h.own⟩
theorem Kp.setN {b p : Nat} {H H' : Aa} {B : Blk} (h : Kp b H H') (hp : b ≤ H.length) (hq : H.length ≤ p := by omega) : Kp b H (H'.set p B) :=
 ⟨by rw [List.length_set]; exact h.len, fun i cs hc => by
  have := (List.getElem?_eq_some_iff.1 hc).1
  rw [List.getElem?_set_ne (by omega)]; exact h.cel i cs hc, fun i hi => by rw [List.getElem?_set_ne (by omega)]; exact h.old i hi⟩
theorem build_I (z : Int) : A9 1 [.int .i64 z] = some (.sl (enL cI [z]) .tight) := by simp [A9, Ck, MC, Bx, Ab.acells, enL]
section
variable {α β : Type} {f : α → List Ab} {ty : TypeId} {sz : Nat}
theorem RS.kp {b : Nat} {out : List α} {v v' : Ab} {H H' : Aa} (h : RS f ty sz b out v H) (hb : b ≤ H.length) (hg : EQ v v' H H') : Kp b H H' :=
 ⟨hg.len, fun i cs hc => by
  have hi := (List.getElem?_eq_some_iff.1 hc).1
  rw [hg.keep i hi (h.notok hc fun _ _ _ => by simp)]; exact hc,
  fun i hi => hg.keep i (by omega) fun es e => by
  rcases h with ⟨_, k⟩ | ⟨t, k1, k2, _⟩
  ·rw [k] at e; injection e with _ e; cases e
  ·rw [k2] at e; injection e with _ e; injection e with e; omega⟩
theorem RS.lt {b i : Nat} {out : List α} {v : Ab} {H : Aa} {es : List (List Ab)} (h : RS f ty sz b out v H) (e : v = .sl es (.own i)) : i < H.length := by
 rcases h with ⟨_, k⟩ | ⟨t, _, k2, k3⟩
 ·rw [k] at e; injection e with _ e; cases e
 ·rw [k2] at e; injection e with _ e; injection e with e
  rw [← e]; exact (List.getElem?_eq_some_iff.1 k3).1

end
section
variable {b0 : Nat} {st : MSt} {v1 v2 v3 : Ab} {H : Aa}
theorem stt_0 (law l : List UInt8) (v1 v2 v3 : Ab) : (AB law v1 v2 v3).set 0 (.str l) = AB l v1 v2 v3 := (rfl)
theorem stt_1 (law : List UInt8) (v1 v2 v3 w : Ab) : (AB law v1 v2 v3).set 1 w = AB law w v2 v3 := (rfl)
theorem stt_2 (law : List UInt8) (v1 v2 v3 w : Ab) : (AB law v1 v2 v3).set 2 w = AB law v1 w v3 := (rfl)
theorem stt_3 (law : List UInt8) (v1 v2 v3 w : Ab) : (AB law v1 v2 v3).set 3 w = AB law v1 v2 w := (rfl)
theorem stt_g1 (law : List UInt8) (v1 v2 v3 : Ab) : (AB law v1 v2 v3)[1]? = some v1 := (rfl)
theorem stt_g2 (law : List UInt8) (v1 v2 v3 : Ab) : (AB law v1 v2 v3)[2]? = some v2 := (rfl)
theorem stt_g3 (law : List UInt8) (v1 v2 v3 : Ab) : (AB law v1 v2 v3)[3]? = some v3 := (rfl)
theorem SR.nds (h : SR b0 st v1 v2 v3 H) {l : List Nd} {w : Ab} {H' : Aa} (hr : RS cNd At 5 b0 l w H') (hg : EQ v1 w H H') : SR b0 { st with nodes := l } w v2 v3 H' :=
 ⟨hr, h.ats.stay hg (RS.apart h.ats h.nodes (by decide)), h.lvs.stay hg (RS.apart h.lvs h.nodes (by decide)), h.apart⟩
theorem SR.line (h : SR b0 st v1 v2 v3 H) (hb : b0 ≤ H.length) (q : Nat × Int) (hn : st.lines.length < 3000000000000) :
  ∃ w2 H1 w3 H2, AA Cp 1 8 v2 (.sl (enL cN [q.1]) .tight) H = some (w2, H1) ∧ AA Cp 1 8 v3 (.sl (enL cI [q.2]) .tight) H1 = some (w3, H2) ∧
   Kp b0 H H1 ∧ Kp b0 H1 H2 ∧ SR b0 { st with lines := st.lines ++ [q] } v1 w2 w3 H2 := by
 have halen : (Gm.ats st).length = st.lines.length := by unfold Gm.ats; rw [List.length_map]
 have hllen : (Gm.lvs st).length = st.lines.length := by unfold Gm.lvs; rw [List.length_map]
 obtain ⟨w2, H1, a1, a2, a3, a4⟩ := RS.snoc2 (bytes := 8) h.ats hb q.1 .tight (by omega) (by omega)
 have hn1 := h.nodes.stay a4 (RS.apart h.nodes h.ats (by decide))
 have hl1 := h.lvs.stay a4 (fun i es es' e e' => h.apart i es' es e' e)
 obtain ⟨w3, H2, c1, c2, c3, c4⟩ := RS.snoc2 (bytes := 8) hl1 (Nat.le_trans hb a4.len) q.2 .tight (by omega) (by omega)
 have hap : ∀ i es es', w2 = .sl es (.own i) → v3 ≠ .sl es' (.own i) := fun i es es' e e' => by
  rcases a4.own i es e with k | ⟨es2, k⟩
  ·have := h.lvs.lt e'; omega
  ·exact h.apart i es2 es' k e'
 refine ⟨w2, H1, w3, H2, a1, c1, a3, c3, hn1.stay c4 (RS.apart hn1 hl1 (by decide)), ?_, ?_, ?_⟩
 ·have : Gm.ats { st with lines := st.lines ++ [q] } = Gm.ats st ++ [q.1] := by simp [Gm.ats]
  rw [this]
  exact a2.stay c4 hap
 ·have : Gm.lvs { st with lines := st.lines ++ [q] } = Gm.lvs st ++ [q.2] := by simp [Gm.lvs]
  rw [this]; exact c2
 ·intro i es es' e e'
  rcases c4.own i es' e' with k | ⟨es2, k⟩
  ·have := a2.lt e; omega
  ·exact hap i es es2 e k
def Doc (b0 : Nat) (b : List UInt8) (H : Aa) (x : Out) (s : (Er × Nat) × MSt) : Prop :=
 ∃ st' v1 v2 v3 H', x = some (.ret (.tup [AT b s.1.2 (Eq s.1.1), .agg (AB st'.law v1 v2 v3)]), H') ∧ SR b0 st' v1 v2 v3 H' ∧ Kp b0 H H' ∧ (s.1.1 = none → st' = s.2)
theorem isB_sees (b : List UInt8) (a : Nat) (c : UInt8) : isB b a c = Aq b a [c] := by
 unfold isB Aq
 cases b[a]? with
 | none => rfl
 | some d => simp [Bool.beq_eq_decide_eq]
theorem LW (b : List UInt8) (a : Nat) (c : UInt8) (n : Int) (hn : (c.toNat : Int) = n) (H : Aa) : Sh.f5 (AT b a 0) (.int .u8 n) H = some (.ret (.bool (Aq b a [c])), H) := by
 rw [← hn, r15_sees, isB_sees]; rfl
theorem Mb {b : List UInt8} {a : Nat} (ha : a ≤ b.length) (s rest : List UInt8) : Eq (B7 b a s rest).1 = litE b a s := by
 unfold B7 litE
 dsimp only
 split
 ·exact DA (FK ha s) _
 ·rfl
theorem must_ne {b : List UInt8} {a : Nat} {s rest : List UInt8} {e : Int × List UInt8} (h : (B7 b a s rest).1 = some e) : e.1 ≠ 0 := by
 unfold B7 at h
 dsimp only at h
 split at h
 ·injection h with h; rw [← h]; exact stpR_ne _ _ _
 ·cases h
theorem r19_mark (h : SR b0 st v1 v2 v3 H) {b : List UInt8} {a : Nat} (ha : a < b.length) (hb : b.length < 100000000000) : Doc b0 b H (Sh.f2x (AT b a 0) (.agg (AB st.law v1 v2 v3)) H) (NF b a st) := by
 have hsc := fun law => Dm h law
 have hln := BG (v1 := v1) (v2 := v2) (v3 := v3)
 have hle : a + 1 ≤ b.length := by omega
 have hw := Ar (show a < 9223372036854775807 by omega)
 have hrp := fun law a e G => rP_st h law b a e G
 have h67 := fun K => LW b (a + 1) 67 67 rfl K
 have h71 := fun K => LW b (a + 1) 71 71 rfl K
 have h82 := fun K => LW b (a + 1) 82 82 rfl K
 have hany := fun K => r15_any (b := b) hle (by omega) K
 have hlit := fun s K => r15_lit (b := b) hle (by omega) s K
 have hstop := fun e K => E6 b (a + 1) e K
 unfold Doc Sh.f2x NF
 unfold AT BL at *
 simp only [GMb, GMc, HPa, HPc, HPd, HPe, HPz, Nat.reduceAdd, Nat.reduceLT, hsc, hln, hw, h67]
 cases hC : Aq b (a + 1) [67] with
 | true =>
  simp only [GMb, GMc, HPa, HPc, HPd, HPe, HPz, Nat.reduceAdd, Nat.reduceLT, hsc, hln, hany, hrp, if_true]
  exact ⟨st, v1, v2, v3, H, rfl, h, Kp.refl _ _, fun _ => rfl⟩
 | false =>
  simp only [GMb, GMc, HPa, HPc, HPd, HPe, HPz, Nat.reduceAdd, Nat.reduceLT, hsc, hln, h71, Bool.false_eq_true, if_false]
  cases hG : Aq b (a + 1) [71] with
  | true =>
   have hmc := Mb hle [71, 32] [49]
   have hM := Hn (s := [71, 32]) (rest := [49]) hle
   have hm2 : (B7 b (a + 1) [71, 32] [49]).2 = Fv b (a + 1) [71, 32] := rfl
   simp only [GMb, GMc, HPa, HPc, HPd, HPe, HPz, Nat.reduceAdd, Nat.reduceLT, hsc, hln, hlit, ← hmc, ← hm2, if_true]
   have hne := fun e => must_ne (b := b) (a := a + 1) (s := [71, 32]) (rest := [49]) (e := e)
   generalize B7 b (a + 1) [71, 32] [49] = M at hM hne
   obtain ⟨er, c⟩ := M
   dsimp only at hM ⊢
   cases er with
   | some e =>
    ·have he := hne e rfl
     have hi := fun K => r15_intX b c he false K
     unfold AT BL at hi
     simp only [GMb, GMc, HPa, HPc, HPd, HPe, HPz, Nat.reduceAdd, Nat.reduceLT, hsc, hln, AZ, hi, hrp]
     exact ⟨st, v1, v2, v3, H, rfl, h, Kp.refl _ _, fun _ => rfl⟩
   | none =>
    have hi := fun K => r15_int (b := b) hM (by omega) false K
    unfold MY AT BL at hi
    simp only [GMb, GMc, HPa, HPc, HPd, HPe, HPz, Nat.reduceAdd, Nat.reduceLT, hsc, hln, BF, hi, hrp]
    exact ⟨st, v1, v2, v3, H, rfl, h, Kp.refl _ _, fun _ => rfl⟩
  | false =>
   simp only [GMb, GMc, HPa, HPc, HPd, HPe, HPz, Nat.reduceAdd, Nat.reduceLT, hsc, hln, h82, Bool.false_eq_true, if_false]
   cases hR : Aq b (a + 1) [82] with
   | true =>
    have hmc := Mb hle [82, 32] [97]
    have hM := Hn (s := [82, 32]) (rest := [97]) hle
    have hm2 : (B7 b (a + 1) [82, 32] [97]).2 = Fv b (a + 1) [82, 32] := rfl
    simp only [GMb, GMc, HPa, HPc, HPd, HPe, HPz, Nat.reduceAdd, Nat.reduceLT, hsc, hln, hlit, ← hmc, ← hm2, if_true]
    have hne := fun e => must_ne (b := b) (a := a + 1) (s := [82, 32]) (rest := [97]) (e := e)
    generalize B7 b (a + 1) [82, 32] [97] = M at hM hne
    obtain ⟨er, c⟩ := M
    dsimp only at hM ⊢
    cases er with
    | some e =>
     ·have he := hne e rfl
      have hi := fun K => r15_ruleX b c he K
      unfold AT BL at hi
      simp only [GMb, GMc, HPa, HPc, HPd, HPe, HPz, Nat.reduceAdd, Nat.reduceLT, hsc, hln, AZ, hi, hrp, stt_0]
      exact ⟨{ st with law := [] }, v1, v2, v3, H, rfl, h.law [], Kp.refl _ _, fun e => by cases e⟩
    | none =>
     have hi := fun K => r15_rule (b := b) hM (by omega) K
     have hrc : Eq (Ic b c []).1 = ruleE b c := by
      unfold Ic ruleE
      dsimp only
      split
      ·exact DA hM _
      ·rfl
     have hr2 : (Ic b c []).2 = CF b c 40 c := rfl
     have hr3 : ∃ l, (if CF b c 40 c = c then [] else ruleS b c) = l ∧ ((Ic b c []).1 = none → l = (b.take (Ic b c []).2).drop c) := by
      refine ⟨_, rfl, ?_⟩
      unfold Ic ruleS
      dsimp only
      intro hn
      split at hn
      ·cases hn
      ·rename_i hne; rw [if_neg hne]
     obtain ⟨l, hl, hl2⟩ := hr3
     rw [hl, ← hrc, ← hr2] at hi
     unfold AT BL at hi
     simp only [GMb, GMc, HPa, HPc, HPd, HPe, HPz, Nat.reduceAdd, Nat.reduceLT, hsc, hln, BF, hi, hrp, stt_0]
     generalize Ic b c [] = R at hl2
     obtain ⟨er, d⟩ := R
     cases er with
     | some e => exact ⟨{ st with law := l }, v1, v2, v3, H, rfl, h.law l, Kp.refl _ _, fun e => by cases e⟩
     | none =>
      have := hl2 rfl
      dsimp only at this ⊢
      rw [this]
      exact ⟨_, v1, v2, v3, H, rfl, h.law _, Kp.refl _ _, fun _ => rfl⟩
   | false =>
    have hsp := DA (a := a + 1) hle [67]
    simp only [GMb, GMc, HPa, HPc, HPd, HPe, HPz, Nat.reduceAdd, Nat.reduceLT, hsc, hln, hstop, ← hsp, hrp, Bool.false_eq_true, if_false]
    exact ⟨st, v1, v2, v3, H, rfl, h, Kp.refl _ _, fun _ => rfl⟩
theorem r19_add (h : SR b0 st v1 v2 v3 H) (hb : b0 ≤ H.length) (x : Nd) (hn : st.nodes.length < 3000000000000) (hn2 : st.lines.length < 3000000000000) (law : List UInt8) :
  ∃ w1 w2 w3 H', Sh.f31 (.agg (AB law v1 v2 v3)) (.agg (cNd x)) H = some (.ret (.agg (AB law w1 w2 w3)), H') ∧
   SR b0 { st with nodes := st.nodes ++ [x], lines := st.lines ++ [(st.nodes.length + 1, x.lv)] } w1 w2 w3 H' ∧ Kp b0 H H' := by
 have hsc := fun law => Dm h law
 have hln := BG
 have hP : (H ++ [Blk.cel 0 (AB law v1 v2 v3), .cel 0 (cNd x), .cel 0 [.str [], .sl [] .tight, .sl [] .tight, .sl [] .tight]])[H.length]? = some (.cel 0 (AB law v1 v2 v3)) := by
  rw [List.getElem?_append_right (Nat.le_refl _), Nat.sub_self]; rfl
 have hP1 : (H ++ [Blk.cel 0 (AB law v1 v2 v3), .cel 0 (cNd x), .cel 0 [.str [], .sl [] .tight, .sl [] .tight, .sl [] .tight]])[H.length + 1]? = some (.cel 0 (cNd x)) := by
  rw [List.getElem?_append_right (by omega), show H.length + 1 - H.length = 1 by omega]; rfl
 have hP2 : (H ++ [Blk.cel 0 (AB law v1 v2 v3), .cel 0 (cNd x), .cel 0 [.str [], .sl [] .tight, .sl [] .tight, .sl [] .tight]])[H.length + 2]? = some (.cel 0 [.str [], .sl [] .tight, .sl [] .tight, .sl [] .tight]) := by
  rw [List.getElem?_append_right (by omega), show H.length + 2 - H.length = 2 by omega]; rfl
 have h8 := h.push [Blk.cel 0 (AB law v1 v2 v3), .cel 0 (cNd x), .cel 0 [.str [], .sl [] .tight, .sl [] .tight, .sl [] .tight]]
 have k8 : Kp b0 H (H ++ [Blk.cel 0 (AB law v1 v2 v3), .cel 0 (cNd x), .cel 0 [.str [], .sl [] .tight, .sl [] .tight, .sl [] .tight]]) := Kp.app hb _
 unfold Sh.f31
 simp only [GMb, GMc, HPa, HPc, HPd, HPe, HPz, Nat.reduceAdd, Nat.reduceLT, Ba, BE, By, BC, hsc, hln, By]
 generalize H ++ [Blk.cel 0 (AB law v1 v2 v3), .cel 0 (cNd x), .cel 0 [.str [], .sl [] .tight, .sl [] .tight, .sl [] .tight]] = H8 at *
 have hb8 : b0 ≤ H8.length := Nat.le_trans hb k8.len
 obtain ⟨w1, H14, a1, a2, a3, a4⟩ := RS.snoc2 (bytes := 40) h8.nodes hb8 x .tight (by omega) (by omega)
 have h14 := h8.nds a2 a4
 have b14 := a3.cel _ _ hP
 have c14 := a3.cel _ _ hP1
 have d14 := a3.cel _ _ hP2
 have hs14 := Gd (o := 1) (v := w1) b14 a2.one (by rw [BG]; decide)
 have l14 := (List.getElem?_eq_some_iff.1 b14).1
 have l14' := (List.getElem?_eq_some_iff.1 d14).1
 have l14'' := (List.getElem?_eq_some_iff.1 c14).1
 rw [stt_1] at hs14
 have h17 := h14.put (c' := AB law w1 v2 v3) b14
 have b17 : (H14.set H.length (.cel 0 (AB law w1 v2 v3)))[H.length]? = some (.cel 0 (AB law w1 v2 v3)) := List.getElem?_set_self l14
 have c17 : (H14.set H.length (.cel 0 (AB law w1 v2 v3)))[H.length + 1]? = some (.cel 0 (cNd x)) := by rw [List.getElem?_set_ne (by omega)]; exact c14
 have d17 : (H14.set H.length (.cel 0 (AB law w1 v2 v3)))[H.length + 2]? = some (.cel 0 [.str [], .sl [] .tight, .sl [] .tight, .sl [] .tight]) := by rw [List.getElem?_set_ne (by omega)]; exact d14
 have k17 : Kp b0 H (H14.set H.length (.cel 0 (AB law w1 v2 v3))) := (k8.trans a3).setN hb
 generalize H14.set H.length (.cel 0 (AB law w1 v2 v3)) = H17 at *
 have b17' : b0 ≤ H17.length := Nat.le_trans hb k17.len
 obtain ⟨w2, H25, w3, H32, e1, e2, e3, e4, e5⟩ := h17.line b17' ((st.nodes ++ [x]).length, x.lv) hn2
 have b25 := e3.cel _ _ b17
 have c25 := e3.cel _ _ c17
 have b32 := e4.cel _ _ b25
 have d32 := e4.cel _ _ (e3.cel _ _ d17)
 have l32 := (List.getElem?_eq_some_iff.1 b32).1
 have l32' := (List.getElem?_eq_some_iff.1 d32).1
 have hs32 := Gd (o := 2) (v := w2) b32 e5.ats.one (by rw [BG]; decide)
 rw [stt_2] at hs32
 have h35 := e5.put (c' := AB law w1 w2 v3) b32
 have b35 : (H32.set H.length (.cel 0 (AB law w1 w2 v3)))[H.length]? = some (.cel 0 (AB law w1 w2 v3)) := List.getElem?_set_self l32
 have d35 : (H32.set H.length (.cel 0 (AB law w1 w2 v3)))[H.length + 2]? = some (.cel 0 [.str [], .sl [] .tight, .sl [] .tight, .sl [] .tight]) := by rw [List.getElem?_set_ne (by omega)]; exact d32
 have k35 : Kp b0 H (H32.set H.length (.cel 0 (AB law w1 w2 v3))) := (k17.trans (e3.trans e4)).setN hb
 simp only [GMb, GMc, HPa, HPc, HPd, HPe, HPz, Nat.reduceAdd, Nat.reduceLT, Ba, BE, By, BC, Bf (hP), BT hP1 rfl, stt_g1, EN, a1, hs14, Bf b17, stt_g2, stt_g3, a2.len, build_N, e1, Bf b25, Bf c25, Bf c17, build_I x.lv, e2, hs32]
 generalize H32.set H.length (.cel 0 (AB law w1 w2 v3)) = H35 at *
 have hs35 := Gd (o := 3) (v := w3) b35 e5.lvs.one (by rw [BG]; decide)
 rw [stt_3] at hs35
 have l35 := (List.getElem?_eq_some_iff.1 b35).1
 have l35' := (List.getElem?_eq_some_iff.1 d35).1
 have h38 := h35.put (c' := AB law w1 w2 w3) b35
 have b38 : (H35.set H.length (.cel 0 (AB law w1 w2 w3)))[H.length]? = some (.cel 0 (AB law w1 w2 w3)) := List.getElem?_set_self l35
 have d38 : (H35.set H.length (.cel 0 (AB law w1 w2 w3)))[H.length + 2]? = some (.cel 0 [.str [], .sl [] .tight, .sl [] .tight, .sl [] .tight]) := by rw [List.getElem?_set_ne (by omega)]; exact d35
 have k38 : Kp b0 H (H35.set H.length (.cel 0 (AB law w1 w2 w3))) := k35.setN hb
 simp only [GMb, GMc, HPa, HPc, HPd, HPe, HPz, Nat.reduceAdd, Nat.reduceLT, Ba, BE, By, BC, hs35]
 generalize H35.set H.length (.cel 0 (AB law w1 w2 w3)) = H38 at *
 have hs38 := Dz (sz := 4) (ws := AB law w1 w2 w3) d38 rfl rfl (Dm h38 law)
 have l38' := (List.getElem?_eq_some_iff.1 d38).1
 have h41 := h38.put (c' := AB law w1 w2 w3) d38
 have d41 : (H38.set (H.length + 2) (.cel 0 (AB law w1 w2 w3)))[H.length + 2]? = some (.cel 0 (AB law w1 w2 w3)) := List.getElem?_set_self l38'
 simp only [GMb, GMc, HPa, HPc, HPd, HPe, HPz, Nat.reduceAdd, Nat.reduceLT, Ba, BE, By, BC, BT b38 (BG _ _ _ _), hs38, BT d41 (BG _ _ _ _)]
 rw [List.length_append] at h41
 exact ⟨w1, w2, w3, _, rfl, h41, k38.setN hb⟩

end
end Go.Gm
namespace Go.Gm
def cW (t : Bool) : List Ab := [.int .i64 (if t then 1 else 0)]
instance : Sz cW 1 := ⟨fun _ => rfl⟩
instance : Pl cW := ⟨fun _ => rfl⟩
theorem flat_cW (on : List Bool) : flat cW on = on.map fun t => Ab.int .i64 (if t then 1 else 0) := by
 induction on with
 | nil => rfl
 | cons c l ih => rw [Cx, ih]; rfl
theorem flat_cW_set (on : List Bool) (i : Nat) : (flat cW on).set i (.int .i64 1) = flat cW (on.set i true) := by
 rw [flat_cW, flat_cW, List.map_set]; rfl
theorem GI (on : List Bool) : (flat cW on).length = on.length := by rw [flat_cW, List.length_map]
def OnW (q : Nat) (on : List Bool) (H : Aa) : Prop := H[q]? = some (.cel 0 (flat cW on))
theorem onW_load {q : Nat} {on : List Bool} {H : Aa} (h : OnW q on H) (hl : on.length = 64) {x y : Nat} (hx : x < 8) (hy : y < 8) : Ad false 1 (.ptr q 0 (y * 8 + x * 1)) H = some (.int .i64 (if onQ on x y then 1 else 0)) := by
 have hi : y * 8 + x < on.length := by omega
 rw [show y * 8 + x * 1 = y * 8 + x by omega, G9 (f := cW) (Bc h) hi]
 unfold onQ
 rw [List.getD_eq_getElem?_getD, List.getElem?_eq_getElem hi]; rfl
noncomputable def sqT (H0 : Aa) (self : Ab → Ab → Ab → Ab → Ab → Aa → Out) (x8 x9 x10 x11 x12 x13 : Ab) (H15 : Aa) : Out :=
 (Ay (some [(.int .i64 0), (.int .i64 0), (.int .i64 0), (.int .i64 0), (.int .i64 0)]) [(0, 1, x9)]).bind fun x19 =>
 Ap (A3 (some [(.int .i64 0), (.int .i64 0), (.int .i64 0), (.int .i64 0), (.int .i64 0)]) H15) fun x20 H21 =>
 bK H0 (Au (Af 5 x20 x19 H21)) fun _ H23 =>
 Ao (fun rec2 vs H => Sh.f2y H0 self rec2 (ag vs 0) (ag vs 1) (ag vs 2) (ag vs 3) (ag vs 4) (ag vs 5) (ag vs 6) (ag vs 7) H) AC [x8, x9, x10, x11, x12, x13, x20, (.int .i64 0)] H23
section
variable {b0 : Nat}
theorem sq_half (H0 : Aa) (self : Ab → Ab → Ab → Ab → Ab → Aa → Out) (w x10 x11 x12 : Ab) (H : Aa) {v : Nat} (hv : v < 3) :
  Ao (fun rec1 vs H => Sh.f4q H0 self rec1 (ag vs 0) (ag vs 1) (ag vs 2) (ag vs 3) (ag vs 4) (ag vs 5) (ag vs 6) H) AC [w, .int .i64 ((v + 1 : Nat) : Int), x10, x11, x12, .int .i64 1, .int .i64 1] H =
   sqT H0 self w (.int .i64 ((v + 1 : Nat) : Int)) x10 x11 x12 (.int .i64 ((2 ^ v : Nat) : Int)) H := by
 have key := AM (G := fun rec1 vs H => Sh.f4q H0 self rec1 (ag vs 0) (ag vs 1) (ag vs 2) (ag vs 3) (ag vs 4) (ag vs 5) (ag vs 6) H) (σ := Nat) (fun i => i ≤ v)
  (fun i => [w, .int .i64 ((v + 1 : Nat) : Int), x10, x11, x12, .int .i64 ((2 ^ i : Nat) : Int), .int .i64 ((i + 1 : Nat) : Int)]) (fun _ => H) (fun i => v - i)
  (fun _ => sqT H0 self w (.int .i64 ((v + 1 : Nat) : Int)) x10 x11 x12 (.int .i64 ((2 ^ v : Nat) : Int)) H) (fun i rec hi hrec => ?_) 0 (Nat.zero_le _) (by omega)
 ·exact key
 ·unfold Sh.f4q
  by_cases h : i < v
  ·have hp : 2 ^ i ≤ 4 := by
    have : i = 0 ∨ i = 1 ∨ i = 2 := by omega
    rcases this with h | h | h <;> subst h <;> decide
   have h1 : (((i + 1 : Nat) : Int)) < ((v + 1 : Nat) : Int) := by omega
   have h2 : IntKind.i64.wrap (((2 ^ i : Nat) : Int) * 2) = ((2 ^ (i + 1) : Nat) : Int) := by
    rw [Nat.pow_succ]
    generalize 2 ^ i = z at hp
    rw [A1] <;> omega
   have h3 : IntKind.i64.wrap (((i + 1 : Nat) : Int) + 1) = ((i + 1 + 1 : Nat) : Int) := Ar (by omega)
   simp only [GMb, GMc, HPa, HPc, HPd, HPe, HPz, Nat.reduceAdd, Nat.reduceLT, Al, h1, h2, h3]
   exact hrec (i + 1) h (by omega)
  ·obtain rfl : i = v := by omega
   have h1 : ¬ (((i + 1 : Nat) : Int)) < ((i + 1 : Nat) : Int) := by omega
   simp only [GMb, GMc, Al, h1]
   rfl
theorem r19_square {on : List Bool} (hl : on.length = 64) : ∀ (v d x y : Nat) (l : List Nd) (w : Ab) (H : Aa), v ≤ 3 → v < d → x + 2 ^ v ≤ 8 → y + 2 ^ v ≤ 8 → 0 < v → l.length + sqM v < 3000000000000 → b0 ≤ H.length → RS cNd At 5 b0 l w H →
  ∃ w' H', Sh.fj d w (.agg (flat cW on)) (.int .i64 (v : Int)) (.int .i64 (x : Int)) (.int .i64 (y : Int)) H = some (.ret (.tup [w', .int .i64 ((sqF (onQ on) v x y l).length : Int)]), H') ∧
   RS cNd At 5 b0 (sqF (onQ on) v x y l) w' H' ∧ EQ w w' H H' := by
 intro v
 induction v with
 | zero => intro d x y l w H _ _ _ _ h0; omega
 | succ v ih =>
  intro d x y l w H hv hd hx hy _ hn hble h
  obtain ⟨d, rfl⟩ : ∃ e, d = e + 1 := ⟨d - 1, by omega⟩
  have hw1 : IntKind.i64.wrap (((v + 1 : Nat) : Int) - 1) = (v : Int) := by rw [A1] <;> omega
  have hbd : Ay (some [(.int .i64 0), (.int .i64 0), (.int .i64 0), (.int .i64 0), (.int .i64 0)]) [(0, 1, .int .i64 ((v + 1 : Nat) : Int))] = some (.agg (cNd ⟨((v + 1 : Nat) : Int), 0, 0, 0, 0⟩)) := rfl
  have hhalf : 2 ^ v ≤ 4 := by
   have : v = 0 ∨ v = 1 ∨ v = 2 := by omega
   rcases this with h | h | h <;> subst h <;> decide
  have h2v : 2 ^ (v + 1) = 2 * 2 ^ v := by rw [Nat.pow_succ]; omega
  have hpos : 0 < 2 ^ v := Nat.pow_pos (by decide)
  show ∃ w' H', Sh.f5v (Sh.fj d) _ _ _ _ _ _ = _ ∧ _
  unfold Sh.f5v
  rw [DK (sz := 64) (SS on) (by rw [GI, hl])]
  simp only [GMb, GMc]
  rw [sq_half _ _ _ _ _ _ _ (by omega)]
  unfold sqT
  have hA : OnW H.length on (H ++ [.cel 0 (flat cW on)]) := AG
  have hg1 := EQ.app w H [.cel 0 (flat cW on)]
  have hr1 := h.left [.cel 0 (flat cW on)]
  have hAl : H.length < (H ++ [Blk.cel 0 (flat cW on)]).length := by simp
  generalize hH1 : H ++ [Blk.cel 0 (flat cW on)] = H1 at *
  simp only [GMb, GMc, hbd, F7, Ej (AG (B := H1) (cs := cNd nd0)) rfl, Cd]
  have hsl : ∀ k, k ≤ 4 → (sqK (onQ on) (sqF (onQ on) v) (v + 1) x y (2 ^ v) k l).1.length ≤ l.length + 4 * sqM v := fun k hk => by
   have := LS (on := onQ on) (LT (onQ on) v) (v + 1) x y (2 ^ v) k l
   have : k * sqM v ≤ 4 * sqM v := Nat.mul_le_mul_right _ hk
   omega
  have hsm : sqM (v + 1) = 4 * sqM v + 1 := rfl
  have hsk : ∀ k, k < 4 → (sqK (onQ on) (sqF (onQ on) v) (v + 1) x y (2 ^ v) k l).1.length ≤ l.length + 3 * sqM v := fun k hk => by
   have := LS (on := onQ on) (LT (onQ on) v) (v + 1) x y (2 ^ v) k l
   have : k * sqM v ≤ 3 * sqM v := Nat.mul_le_mul_right _ (by omega)
   omega
  have hfin : sqF (onQ on) (v + 1) x y l = (sqK (onQ on) (sqF (onQ on) v) (v + 1) x y (2 ^ v) 4 l).1 ++ [(sqK (onQ on) (sqF (onQ on) v) (v + 1) x y (2 ^ v) 4 l).2] := by unfold sqF; rfl
  generalize hhf : 2 ^ v = half at *
  have loop := Hq (G := fun rec2 vs H1 => Sh.f2y H (Sh.fj d) rec2 (ag vs 0) (ag vs 1) (ag vs 2) (ag vs 3) (ag vs 4) (ag vs 5) (ag vs 6) (ag vs 7) H1) 4
   (fun k vs Hc => ∃ wc, vs = [wc, .int .i64 ((v + 1 : Nat) : Int), .int .i64 (x : Int), .int .i64 (y : Int), .ptr H.length 0 0, .int .i64 (half : Int), .ptr H1.length 0 0, .int .i64 (k : Int)] ∧ EQ w wc H Hc ∧
    RS cNd At 5 b0 (sqK (onQ on) (sqF (onQ on) v) (v + 1) x y half k l).1 wc Hc ∧ OnW H.length on Hc ∧ Hc[H1.length]? = some (.cel 0 (cNd (sqK (onQ on) (sqF (onQ on) v) (v + 1) x y half k l).2)))
   (by decide) (fun k vs Hc hk hI => ?_) (vs := [w, .int .i64 ((v + 1 : Nat) : Int), .int .i64 (x : Int), .int .i64 (y : Int), .ptr H.length 0 0, .int .i64 (half : Int), .ptr H1.length 0 0, .int .i64 0]) (H := H1 ++ [.cel 0 (cNd ⟨((v + 1 : Nat) : Int), 0, 0, 0, 0⟩)])
   ⟨w, rfl, hg1.trans (EQ.app _ _ _), hr1.left _, B3 hA, by simp [sqK]⟩
  ·obtain ⟨vs', Hc, ⟨wc, rfl, hE, hR, hon, hcell⟩, rec, hloop⟩ := loop
   rw [hloop]
   unfold Sh.f2y
   have hle4 := hsl 4 (by omega)
   obtain ⟨w', H', a1, a2, a3, a4⟩ := RS.snoc2 (bytes := 40) hR (Nat.le_trans hble hE.len) (sqK (onQ on) (sqF (onQ on) v) (v + 1) x y half 4 l).2 .tight (by omega) (by omega)
   simp only [GMb, GMc, Al, show ¬ (((4 : Nat) : Int) < 4) from by decide, D3 hcell, EN, a1, a2.len]
   rw [hfin]
   exact ⟨w', H', rfl, a2, hE.trans a4⟩
  ·obtain ⟨wc, rfl, hE, hR, hon, hcell⟩ := hI
   have hk' : (k : Int) < 4 := by omega
   have hk2 : k % 2 ≤ 1 := by omega
   have hk3 : k / 2 ≤ 1 := by omega
   have m1 : k % 2 * half ≤ half := by rcases Nat.le_one_iff_eq_zero_or_eq_one.1 hk2 with h | h <;> rw [h] <;> omega
   have m2 : k / 2 * half ≤ half := by rcases Nat.le_one_iff_eq_zero_or_eq_one.1 hk3 with h | h <;> rw [h] <;> omega
   have hr2 : Ae .none .rem (.int .i64 (k : Int)) (.int .i64 2) = some (.int .i64 ((k % 2 : Nat) : Int)) := by rw [FT (by decide)]; rfl
   have hq2 : Ae .none .quo (.int .i64 (k : Int)) (.int .i64 2) = some (.int .i64 ((k / 2 : Nat) : Int)) := by
    rw [GM (by decide), show ((k : Int).tdiv 2) = ((k / 2 : Nat) : Int) from rfl, Cj (by omega)]
   have hm1 : IntKind.i64.wrap (((k % 2 : Nat) : Int) * (half : Int)) = ((k % 2 * half : Nat) : Int) := by rw [← Int.natCast_mul, Cj (by omega)]
   have hm2 : IntKind.i64.wrap (((k / 2 : Nat) : Int) * (half : Int)) = ((k / 2 * half : Nat) : Int) := by rw [← Int.natCast_mul, Cj (by omega)]
   have ha1 : IntKind.i64.wrap ((x : Int) + ((k % 2 * half : Nat) : Int)) = ((x + k % 2 * half : Nat) : Int) := Ei (by omega)
   have ha2 : IntKind.i64.wrap ((y : Int) + ((k / 2 * half : Nat) : Int)) = ((y + k / 2 * half : Nat) : Int) := Ei (by omega)
   have hws := Ar (show k < 9223372036854775807 by omega)
   have hHl : H.length ≠ H1.length := by omega
   generalize hX : x + k % 2 * half = X at *
   generalize hY : y + k / 2 * half = Y at *
   have hl1 := hsl (k + 1) (by omega)
   have hl0 := hsk k (by omega)
   by_cases hv0 : v = 0
   ·have hgt : decide (((v + 1 : Nat) : Int) = 1) = true := by rw [decide_eq_true_eq]; omega
    have hh1 : half = 1 := by rw [← hhf, hv0]
    have hX8 : X < 8 := by omega
    have hY8 : Y < 8 := by omega
    have hstep : sqK (onQ on) (sqF (onQ on) v) (v + 1) x y half (k + 1) l = ((sqK (onQ on) (sqF (onQ on) v) (v + 1) x y half k l).1, (sqK (onQ on) (sqF (onQ on) v) (v + 1) x y half k l).2.setKid k (if onQ on X Y then 1 else 0)) := by
     conv => lhs; unfold sqK
     simp only [hX, hY]
     rw [if_pos (show v + 1 ≤ 1 by omega)]
    rw [hstep]
    have hi1 := GG (sz := 8) (K := .i64) (id := H.length) (g := 0) (o := 0) hY8
    have hi2 := GG (sz := 1) (K := .i64) (id := H.length) (g := 0) (o := Y * 8) hX8
    rw [Nat.zero_add] at hi1
    have hld := onW_load hon hl hX8 hY8
    refine ⟨[wc, .int .i64 ((v + 1 : Nat) : Int), .int .i64 (x : Int), .int .i64 (y : Int), .ptr H.length 0 0, .int .i64 (half : Int), .ptr H1.length 0 0, .int .i64 ((k + 1 : Nat) : Int)], Hc.set H1.length (.cel 0 (cNd ((sqK (onQ on) (sqF (onQ on) v) (v + 1) x y half k l).2.setKid k (if onQ on X Y then 1 else 0)))), ⟨wc, rfl, hE.set (by omega), hR.put hcell, ?_, ?_⟩, fun rec => ?_⟩
    ·unfold OnW; rw [List.getElem?_set_ne (Ne.symm hHl)]; exact hon
    ·rw [List.getElem?_set_self (List.getElem?_eq_some_iff.1 hcell).1]
    ·unfold Sh.f2y Sh.f5u
     simp only [GMb, GMc, Al, hk', hr2, hm1, ha1, hq2, hm2, ha2, hgt, hi1, hi2, hld, Ai, Nat.zero_add, C0 hk, Cg hcell hk, hws, AJ]
   ·have hgt : decide (((v + 1 : Nat) : Int) = 1) = false := by rw [decide_eq_false_iff_not]; omega
    have hstep : sqK (onQ on) (sqF (onQ on) v) (v + 1) x y half (k + 1) l = (sqF (onQ on) v X Y (sqK (onQ on) (sqF (onQ on) v) (v + 1) x y half k l).1, (sqK (onQ on) (sqF (onQ on) v) (v + 1) x y half k l).2.setKid k ((sqF (onQ on) v X Y (sqK (onQ on) (sqF (onQ on) v) (v + 1) x y half k l).1).length : Int)) := by
     conv => lhs; unfold sqK
     simp only [hX, hY]
     rw [if_neg (show ¬ v + 1 ≤ 1 by omega)]
    rw [hstep]
    obtain ⟨w2, H2, i1, i2, i3⟩ := ih d X Y _ wc Hc (by omega) (by omega) (by omega) (by omega) (by omega) (by omega) (Nat.le_trans hble hE.len) hR
    have hkp := hR.kp (Nat.le_trans hble hE.len) i3
    have hcell1 := hkp.cel _ _ hcell
    have hon1 := hkp.cel _ _ hon
    refine ⟨[w2, .int .i64 ((v + 1 : Nat) : Int), .int .i64 (x : Int), .int .i64 (y : Int), .ptr H.length 0 0, .int .i64 (half : Int), .ptr H1.length 0 0, .int .i64 ((k + 1 : Nat) : Int)], H2.set H1.length (.cel 0 (cNd ((sqK (onQ on) (sqF (onQ on) v) (v + 1) x y half k l).2.setKid k ((sqF (onQ on) v X Y (sqK (onQ on) (sqF (onQ on) v) (v + 1) x y half k l).1).length : Int)))), ⟨w2, rfl, (hE.trans i3).set (by omega), i2.put hcell1, ?_, ?_⟩, fun rec => ?_⟩
    ·unfold OnW; rw [List.getElem?_set_ne (Ne.symm hHl)]; exact hon1
    ·rw [List.getElem?_set_self (List.getElem?_eq_some_iff.1 hcell1).1]
    ·unfold Sh.f2y Sh.f5u
     have hldA := BT (sz := 64) hon (by rw [GI, hl])
     simp only [GMb, GMc, HPa, HPc, HPd, HPe, HPz, Nat.reduceAdd, Nat.reduceLT, Al, hk', hr2, hm1, ha1, hq2, hm2, ha2, hgt, hldA, hw1, i1, Ai, Nat.zero_add, C0 hk, Cg hcell1 hk, hws, AJ]

end
end Go.Gm
namespace Go.Gm
noncomputable def leafD (H0 : Aa) (x13 x14 x15 x16 x17 : Ab) (H30 : Aa) : Out :=
 (Ac 1 x14).bind fun x81 =>
 (Ad false 1 x81 H30).bind fun x82 =>
 (Ad true 64 x17 H30).bind fun x83 =>
 bK H0 (Sh.fj AC x82 x83 (.int .i64 3) (.int .i64 0) (.int .i64 0) H30) fun x84 H85 =>
 (Ak 0 x84).bind fun x86 =>
 (Ak 1 x84).bind fun x87 =>
 (Ac 1 x14).bind fun x88 =>
 bK H0 (Au (Af 1 x88 x86 H85)) fun _ H90 =>
 (Ac 2 x14).bind fun x91 =>
 bC (Ad false 1 x91 H90) (fun _ => True) fun x92 =>
 (Ac 1 x14).bind fun x93 =>
 bC (Ad false 1 x93 H90) (fun _ => True) fun x94 =>
 (AH x94).bind fun x95 =>
 (A9 1 [x95]).bind fun x96 =>
 AQ (B4 (AA Cp 1 8 x92 x96 H90)) fun x97 H98 =>
 (Ac 3 x14).bind fun x99 =>
 bC (Ad false 1 x99 H98) (fun x100 => Ad false 1 x99 H90 = some x100 ∧ True) fun x100 =>
 (A9 1 [(.int .i64 3)]).bind fun x101 =>
 AQ (B4 (AA Cp 1 8 x100 x101 H98)) fun x102 H103 =>
 (Ac 2 x14).bind fun x104 =>
 AQ (Au (Af 1 x104 x97 H103)) fun _ H106 =>
 (Ac 3 x14).bind fun x107 =>
 bK H0 (Au (Af 1 x107 x102 H106)) fun _ H109 =>
 bC (Ad true 3 x13 H109) (fun _ => True) fun x110 =>
 AQ (Au (Af 3 x15 x110 H109)) fun _ H112 =>
 bC (Ad true 4 x14 H112) (fun x113 => Ad true 4 x14 H109 = some x113 ∧ True) fun x113 =>
 bK H0 (Au (Af 4 x16 x113 H112)) fun _ H115 =>
 (BM [Ad true 3 x15 H115, Ad true 4 x16 H115]).bind fun x116 => rK H0 x116 H115
noncomputable def leafN (H0 : Aa) (rec1 : LK) (x13 x14 x15 x16 x17 x18 x19 : Ab) (H30 : Aa) : Out :=
 (Ae .none .eql x19 (.int .i64 8)).bind fun x32 =>
 gk x32 false (some x18) fun x33 =>
 gk x32 false (Ae .none .eql x33 (.int .i64 8)) fun x34 =>
 gk x32 false (some x34) fun x35 =>
 gk x35 true (Ac 0 x13) fun x36 =>
 gk x35 true (Ad false 1 x36 H30) fun x37 =>
 gk x35 true (Ac 1 x13) fun x38 =>
 gk x35 true (Ad false 1 x38 H30) fun x39 =>
 gk x35 true (AW x37 x39) fun x40 =>
 gk x35 true (Ae .none .neq x40 (.int .u8 36)) fun x41 =>
 gk x32 false (Ax x35 x41 (.bool false)) fun x42 =>
 (Ax x32 (.bool true) x42).bind fun x43 =>
 Aj x43 (
 bC (Ad true 3 x13 H30) (fun _ => True) fun x44 =>
 AQ (Sh.f2 x44 H30) fun x45 H46 =>
 AQ (Au (Af 3 x15 x45 H46)) fun _ H48 =>
 bC (Ad true 4 x14 H48) (fun x49 => Ad true 4 x14 H46 = some x49 ∧ Ad true 4 x14 H30 = some x49 ∧ True) fun x49 =>
 bK H0 (Au (Af 4 x16 x49 H48)) fun _ H51 =>
 (BM [Ad true 3 x15 H51, Ad true 4 x16 H51]).bind fun x52 => rK H0 x52 H51) (
 AJ (fun j2 =>
 (Ac 0 x13).bind fun x67 =>
 (Ad false 1 x67 H30).bind fun x68 =>
 (Ac 1 x13).bind fun x69 =>
 (Ad false 1 x69 H30).bind fun x70 =>
 (AW x68 x70).bind fun x71 =>
 (Ae .none .eql x71 (.int .u8 36)).bind fun x72 =>
 Aj x72 (
 (Ae .none .add x19 (.int .i64 1)).bind fun x73 =>
 j2 [x13, x14, x15, x16, x17, (.int .i64 0), x73] H30) (
 (Ae .none .eql x71 (.int .u8 42)).bind fun x74 =>
 Aj x74 (
 (AY 8 8 x17 x19).bind fun x75 =>
 (AY 8 1 x75 x18).bind fun x76 =>
 bK H0 (Au (Af 1 x76 (.int .i64 1) H30)) fun _ H78 =>
 (Ae .none .add x18 (.int .i64 1)).bind fun x79 =>
 j2 [x13, x14, x15, x16, x17, x79, x19] H78) (
 (Ae .none .add x18 (.int .i64 1)).bind fun x80 =>
 j2 [x13, x14, x15, x16, x17, x80, x19] H30))) (fun vs H => Sh.f3m H0 rec1 (ag vs 0) (ag vs 1) (ag vs 2) (ag vs 3) (ag vs 4) (ag vs 5) (ag vs 6) H))
def GA (S : List Ab) (b : List UInt8) (a : Nat) (on : List Bool) (R : Option (Int × List Ab)) : Aa :=
 [.cel 0 [.str b, .int .i64 (a : Int), .int .i64 0], .cel 0 S, .cel 0 (match R with | none => [.str [], .int .i64 0, .int .i64 0] | some (e, _) => [.str b, .int .i64 (a : Int), .int .i64 e]),
  .cel 0 (match R with | none => [.str [], .sl [] .tight, .sl [] .tight, .sl [] .tight] | some (_, S) => S), .cel 0 (flat cW on)]
theorem getB_0 (x : Blk) (b : Aa) : (x :: b)[0]? = some x := (rfl)
theorem getB_1 (x y : Blk) (b : Aa) : (x :: y :: b)[1]? = some y := (rfl)
theorem getB_2 (x y z : Blk) (b : Aa) : (x :: y :: z :: b)[2]? = some z := (rfl)
theorem getB_3 (x y z u : Blk) (b : Aa) : (x :: y :: z :: u :: b)[3]? = some u := (rfl)
theorem getB_4 (x y z u v : Blk) (b : Aa) : (x :: y :: z :: u :: v :: b)[4]? = some v := (rfl)
section
variable {b0 : Nat} {st : MSt} {v1 v2 v3 : Ab} {H : Aa}
theorem RP {S : List Ab} (hsc : S.all Ab.isScal = true) (hln : S.length = 4) {b : List UInt8} {a : Nat} (ha : a ≤ b.length) (hb : b.length < 100000000000) :
  Ao (fun rec1 vs H1 => Sh.f4r H rec1 (ag vs 0) (ag vs 1) (ag vs 2) (ag vs 3) (ag vs 4) (ag vs 5) (ag vs 6) H1) AC [.ptr H.length 0 0, .ptr (H.length + 1) 0 0, .ptr (H.length + 2) 0 0, .ptr (H.length + 3) 0 0, .ptr (H.length + 4) 0 0, .int .i64 0, .int .i64 0] (H ++ GA S b a (List.replicate 64 false) none) =
   match CR b (b.length + 1 - a) a 0 0 (List.replicate 64 false) with
   | (some e, c, on) => some (.ret (.tup [.agg [.str b, .int .i64 (c : Int), .int .i64 e.1], .agg S]), H ++ GA S b c on (some (e.1, S)))
   | (none, c, on) => leafD H (.ptr H.length 0 0) (.ptr (H.length + 1) 0 0) (.ptr (H.length + 2) 0 0) (.ptr (H.length + 3) 0 0) (.ptr (H.length + 4) 0 0) (H ++ GA S b c on none) := by
 refine AM (G := fun rec1 vs H1 => Sh.f4r H rec1 (ag vs 0) (ag vs 1) (ag vs 2) (ag vs 3) (ag vs 4) (ag vs 5) (ag vs 6) H1) (σ := Nat × Nat × Nat × List Bool) (fun s => s.1 ≤ b.length ∧ s.2.1 ≤ 8 ∧ s.2.2.1 ≤ 8 ∧ s.2.2.2.length = 64 ∧ ∀ i, s.2.2.1 * 8 + s.2.1 ≤ i → s.2.2.2[i]? ≠ some true)
  (fun s => [.ptr H.length 0 0, .ptr (H.length + 1) 0 0, .ptr (H.length + 2) 0 0, .ptr (H.length + 3) 0 0, .ptr (H.length + 4) 0 0, .int .i64 (s.2.1 : Int), .int .i64 (s.2.2.1 : Int)]) (fun s => H ++ GA S b s.1 s.2.2.2 none) (fun s => b.length - s.1)
  (fun s => match CR b (b.length + 1 - s.1) s.1 s.2.1 s.2.2.1 s.2.2.2 with
   | (some e, c, on) => some (.ret (.tup [.agg [.str b, .int .i64 (c : Int), .int .i64 e.1], .agg S]), H ++ GA S b c on (some (e.1, S)))
   | (none, c, on) => leafD H (.ptr H.length 0 0) (.ptr (H.length + 1) 0 0) (.ptr (H.length + 2) 0 0) (.ptr (H.length + 3) 0 0) (.ptr (H.length + 4) 0 0) (H ++ GA S b c on none)) (fun s rec hi hrec => ?_) (a, 0, 0, List.replicate 64 false) ⟨ha, by simp, by simp, by simp, fun i _ => by show (List.replicate 64 false)[i]? ≠ some true; rw [List.getElem?_replicate]; split <;> simp⟩ (by dsimp only; omega)
 obtain ⟨i, x, y, on⟩ := s
 obtain ⟨h1, h2, h3, h4, h5⟩ := hi
 dsimp only at h1 h2 h3 h4 h5 hrec ⊢
 rw [show b.length + 1 - i = (b.length - i) + 1 by omega]
 have h46 := fun K => LW b i 46 46 rfl K
 have h42 := fun K => LW b i 42 42 rfl K
 have h36 := fun K => LW b i 36 36 rfl K
 have hst := fun e K => E6 b i e K
 have hsp := DA h1 []
 rw [← hsp] at hst
 unfold AT BL at h46 h42 h36 hst
 unfold Sh.f4r CR
 unfold GA at hrec ⊢
 have hsees : Aq b i [46, 42, 36] = (Aq b i [46] || Aq b i [42] || Aq b i [36]) := by
  unfold Aq; cases b[i]? with
  | none => rfl
  | some c => simp [Bool.or_assoc]
 simp only [GMb, GMc, HPa, HPc, HPd, HPe, HPz, Nat.reduceAdd, Nat.reduceLT, Al, hln, hsc, h46]
 have hlen64 : (flat cW on).length = 64 := by rw [GI, h4]
 cases hs : Aq b i [46, 42, 36] with
 | false =>
  rw [hs] at hsees
  have := hsees.symm
  rw [Bool.or_eq_false_iff, Bool.or_eq_false_iff] at this
  simp only [GMb, GMc, HPa, HPc, HPd, HPe, HPz, Nat.reduceAdd, Nat.reduceLT, Al, hln, hsc, h42, h36, this.1.1, this.1.2, this.2, Bool.false_eq_true, if_false]
  unfold leafD
  simp only [GMb, GMc, HPa, HPc, HPd, HPe, HPz, Nat.reduceAdd, Nat.reduceLT]
 | true =>
  have hlt := BU hs
  have d36 : decide ((b[i].toNat : Int) = 36) = Aq b i [36] := by rw [Dh hlt]; exact HO b[i] 36 (by decide)
  have d42 : decide ((b[i].toNat : Int) = 42) = Aq b i [42] := by rw [Dh hlt]; exact HO b[i] 42 (by decide)
  have hy8 : decide ((y : Int) = 8) = decide (y = 8) := by rw [Bool.eq_iff_iff]; simp only [decide_eq_true_eq]; omega
  have hx8 : decide ((x : Int) = 8) = decide (x = 8) := by rw [Bool.eq_iff_iff]; simp only [decide_eq_true_eq]; omega
  have hix := AK (K := .i64) hlt
  have hwi := Ar (show i < 9223372036854775807 by omega)
  have inner : leafN H rec (.ptr H.length 0 0) (.ptr (H.length + 1) 0 0) (.ptr (H.length + 2) 0 0) (.ptr (H.length + 3) 0 0) (.ptr (H.length + 4) 0 0) (.int .i64 (x : Int)) (.int .i64 (y : Int)) (H ++ [.cel 0 [.str b, .int .i64 (i : Int), .int .i64 0], .cel 0 S, .cel 0 [.str [], .int .i64 0, .int .i64 0],
    .cel 0 [.str [], .sl [] .tight, .sl [] .tight, .sl [] .tight], .cel 0 (flat cW on)]) =
    match (if y = 8 ∨ (x = 8 ∧ ¬ Aq b i [36] = true) then (some (CJ b i []), i, on)
      else if Aq b i [36] then CR b (b.length - i) (i + 1) 0 (y + 1) on
      else CR b (b.length - i) (i + 1) (x + 1) y (on.set (y * 8 + x) (Aq b i [42]))) with
    | (some e, c, on) => some (.ret (.tup [.agg [.str b, .int .i64 (c : Int), .int .i64 e.1], .agg S]), H ++ GA S b c on (some (e.1, S)))
    | (none, c, on) => leafD H (.ptr H.length 0 0) (.ptr (H.length + 1) 0 0) (.ptr (H.length + 2) 0 0) (.ptr (H.length + 3) 0 0) (.ptr (H.length + 4) 0 0) (H ++ GA S b c on none) := by
   have go : ¬ (y = 8 ∨ (x = 8 ∧ ¬ Aq b i [36] = true)) → y < 8 ∧ (Aq b i [36] = false → x < 8) := fun hn => by
    refine ⟨by omega, fun hd => ?_⟩
    rcases Nat.lt_or_ge x 8 with h | h
    ·exact h
    ·exact absurd (.inr ⟨by omega, by rw [hd]; decide⟩) hn
   unfold leafN
   by_cases hy : y = 8
   ·rw [if_pos (.inl hy)]
    have hyt : decide (y = 8) = true := decide_eq_true hy
    unfold GA
    simp only [GMb, GMc, HPa, HPc, HPd, HPe, HPz, Nat.reduceAdd, Nat.reduceLT, hy8, hyt, hst, hsc, hln, AZ]
   ·have hyf : decide (y = 8) = false := decide_eq_false hy
    cases hd : Aq b i [36] with
    | true =>
     rw [if_neg (by rw [hd] at *; simp [hy])]
     rw [hd] at d36
     have := hrec (i + 1, 0, y + 1, on) ⟨hlt, Nat.zero_le _, by dsimp only; omega, h4, fun j hj => h5 j (by dsimp only at hj; omega)⟩ (by dsimp only; omega)
     dsimp only at this
     rw [show b.length + 1 - (i + 1) = b.length - i by omega] at this
     have hwy := Ar (show y < 9223372036854775807 by omega)
     unfold GA
     rw [if_pos rfl]
     cases hxd : decide (x = 8) <;>
      ·simp only [GMb, GMc, HPa, HPc, HPd, HPe, HPz, Nat.reduceAdd, Nat.reduceLT, hy8, hyf, hx8, hxd, hix, d36, hwy, AJ]
       unfold Sh.f3m
       simp only [GMb, GMc, HPa, HPc, HPd, HPe, HPz, Nat.reduceAdd, Nat.reduceLT, hwi]
       exact this
    | false =>
     rw [hd] at d36 go
     by_cases hxx : x = 8
     ·rw [if_pos (.inr ⟨hxx, by simp⟩)]
      have hxd : decide (x = 8) = true := decide_eq_true hxx
      unfold GA
      simp only [GMb, GMc, HPa, HPc, HPd, HPe, HPz, Nat.reduceAdd, Nat.reduceLT, hy8, hyf, hx8, hxd, hix, d36, hst, hsc, hln, AZ]
     ·have hxd : decide (x = 8) = false := decide_eq_false hxx
      rw [if_neg (by simp [hy, hxx])]
      have hxl : x < 8 := (go (by simp [hy, hxx])).2 rfl
      have hyl : y < 8 := by omega
      have hi1 := GG (sz := 8) (K := .i64) (id := H.length + 4) (g := 0) (o := 0) hyl
      have hi2 := GG (sz := 1) (K := .i64) (id := H.length + 4) (g := 0) (o := y * 8) hxl
      rw [Nat.zero_add] at hi1
      rw [Nat.mul_one] at hi2
      have hwx := Ar (show x < 9223372036854775807 by omega)
      have := hrec (i + 1, x + 1, y, on.set (y * 8 + x) (Aq b i [42])) ⟨hlt, by dsimp only; omega, h3, by rw [List.length_set]; exact h4, fun j hj => by
       dsimp only at hj ⊢
       rw [List.getElem?_set_ne (by omega)]; exact h5 j (by omega)⟩ (by dsimp only; omega)
      dsimp only at this
      rw [show b.length + 1 - (i + 1) = b.length - i by omega] at this
      unfold GA
      rw [if_neg (by simp)]
      cases h4s : Aq b i [42] with
      | true =>
       rw [h4s] at d42 this
       have hst2 : Af 1 (.ptr 0 0 (y * 8 + x)) (.int .i64 1) [.cel 0 (flat cW on)] = some [.cel 0 (flat cW (on.set (y * 8 + x) true))] := by
        rw [Hb rfl (by rw [hlen64]; omega), flat_cW_set]
       simp only [GMb, GMc, HPa, HPc, HPd, HPe, HPz, Nat.reduceAdd, Nat.reduceLT, hy8, hyf, hx8, hxd, hix, d36, d42, hi1, hi2, hst2, hwx, AJ]
       unfold Sh.f3m
       simp only [GMb, GMc, HPa, HPc, HPd, HPe, HPz, Nat.reduceAdd, Nat.reduceLT, hwi]
       exact this
      | false =>
       rw [h4s] at d42 this
       have hsame : on.set (y * 8 + x) false = on := by
        apply List.ext_getElem?
        intro j
        by_cases hj : y * 8 + x = j
        ·subst hj
         rw [List.getElem?_set_self (by omega)]
         have := h5 (y * 8 + x) (Nat.le_refl _)
         rw [List.getElem?_eq_getElem (by omega)] at this ⊢
         cases hb : on[y * 8 + x] with
         | false => rfl
         | true => rw [hb] at this; exact absurd rfl this
        ·rw [List.getElem?_set_ne hj]
       rw [hsame] at this ⊢
       simp only [GMb, GMc, HPa, HPc, HPd, HPe, HPz, Nat.reduceAdd, Nat.reduceLT, hy8, hyf, hx8, hxd, hix, d36, d42, hwx, AJ]
       unfold Sh.f3m
       simp only [GMb, GMc, HPa, HPc, HPd, HPe, HPz, Nat.reduceAdd, Nat.reduceLT, hwi]
       exact this
  unfold leafN at inner
  rw [if_pos rfl]
  rw [hs] at hsees
  cases hA : Aq b i [46] with
  | true =>
   simp only [GMb, GMc, HPa, HPc, HPd, HPe, HPz, Nat.reduceAdd, Nat.reduceLT, hln, hsc] at inner ⊢
   exact inner
  | false =>
   cases hB : Aq b i [42] with
   | true =>
    rw [hB] at h42 inner
    simp only [GMb, GMc, HPa, HPc, HPd, HPe, HPz, Nat.reduceAdd, Nat.reduceLT, hln, hsc, h42] at inner ⊢
    exact inner
   | false =>
    rw [hA, hB] at hsees
    have hC : Aq b i [36] = true := hsees.symm
    rw [hB] at h42 inner
    rw [hC] at h36 inner ⊢
    simp only [GMb, GMc, HPa, HPc, HPd, HPe, HPz, Nat.reduceAdd, Nat.reduceLT, hln, hsc, h42, h36] at inner ⊢
    exact inner
theorem CO {α : Type} (H G : List α) (k : Nat) : (H ++ G)[H.length + k]? = G[k]? := by
 rw [List.getElem?_append_right (by omega), show H.length + k - H.length = k by omega]
theorem r19_leaf (h : SR b0 st v1 v2 v3 H) (hble : b0 ≤ H.length) {b : List UInt8} {a : Nat} (ha : a ≤ b.length) (hb : b.length < 100000000000) (hn : st.nodes.length + 100 < 3000000000000) (hn2 : st.lines.length < 3000000000000) :
  Doc b0 b H (Sh.f2z (AT b a 0) (.agg (AB st.law v1 v2 v3)) H) (NJ b a st) := by
 have hsc := Dm h st.law
 have hln := BG st.law v1 v2 v3
 have key := RP (H := H) (S := AB st.law v1 v2 v3) hsc hln ha hb
 have hal : ∀ K : Aa, A3 (some (flat cW (List.replicate 64 false))) K = some (.ptr K.length 0 0, K ++ [.cel 0 (flat cW (List.replicate 64 false))]) := fun K => alloc_eq (SS _)
 have hal2 : ∀ K : Aa, A3 (some [(.int .i64 0), (.int .i64 0), (.int .i64 0), (.int .i64 0), (.int .i64 0), (.int .i64 0), (.int .i64 0), (.int .i64 0), (.int .i64 0), (.int .i64 0), (.int .i64 0), (.int .i64 0), (.int .i64 0), (.int .i64 0), (.int .i64 0), (.int .i64 0), (.int .i64 0), (.int .i64 0), (.int .i64 0), (.int .i64 0), (.int .i64 0), (.int .i64 0), (.int .i64 0), (.int .i64 0), (.int .i64 0), (.int .i64 0), (.int .i64 0), (.int .i64 0), (.int .i64 0), (.int .i64 0), (.int .i64 0), (.int .i64 0), (.int .i64 0), (.int .i64 0), (.int .i64 0), (.int .i64 0), (.int .i64 0), (.int .i64 0), (.int .i64 0), (.int .i64 0), (.int .i64 0), (.int .i64 0), (.int .i64 0), (.int .i64 0), (.int .i64 0), (.int .i64 0), (.int .i64 0), (.int .i64 0), (.int .i64 0), (.int .i64 0), (.int .i64 0), (.int .i64 0), (.int .i64 0), (.int .i64 0), (.int .i64 0), (.int .i64 0), (.int .i64 0), (.int .i64 0), (.int .i64 0), (.int .i64 0), (.int .i64 0), (.int .i64 0), (.int .i64 0), (.int .i64 0)]) K = some (.ptr K.length 0 0, K ++ [.cel 0 (flat cW (List.replicate 64 false))]) := fun K => hal K
 unfold Sh.f2z Doc NJ AT BL
 have hle := Gj b (b.length + 1 - a) a 0 0 (List.replicate 64 false) ha
 unfold GA at key
 dsimp only at key
 simp only [GMb, GMc, HPa, HPc, HPd, HPe, HPz, Nat.reduceAdd, Nat.reduceLT, hal2, hsc, hln]
 rw [key]
 generalize CR b (b.length + 1 - a) a 0 0 (List.replicate 64 false) = R at hle
 obtain ⟨er, c, on⟩ := R
 dsimp only at hle ⊢
 cases er with
 | some e => exact ⟨st, v1, v2, v3, _, rfl, h.push _, Kp.app hble _, fun e => by cases e⟩
 | none =>
  dsimp only
  have hP0 := CO H [.cel 0 [.str b, .int .i64 (c : Int), .int .i64 0], .cel 0 (AB st.law v1 v2 v3), .cel 0 [.str [], .int .i64 0, .int .i64 0], .cel 0 [.str [], .sl [] .tight, .sl [] .tight, .sl [] .tight], Blk.cel 0 (flat cW on)] 0
  have hP1 := CO H [.cel 0 [.str b, .int .i64 (c : Int), .int .i64 0], .cel 0 (AB st.law v1 v2 v3), .cel 0 [.str [], .int .i64 0, .int .i64 0], .cel 0 [.str [], .sl [] .tight, .sl [] .tight, .sl [] .tight], Blk.cel 0 (flat cW on)] 1
  have hP2 := CO H [.cel 0 [.str b, .int .i64 (c : Int), .int .i64 0], .cel 0 (AB st.law v1 v2 v3), .cel 0 [.str [], .int .i64 0, .int .i64 0], .cel 0 [.str [], .sl [] .tight, .sl [] .tight, .sl [] .tight], Blk.cel 0 (flat cW on)] 2
  have hP3 := CO H [.cel 0 [.str b, .int .i64 (c : Int), .int .i64 0], .cel 0 (AB st.law v1 v2 v3), .cel 0 [.str [], .int .i64 0, .int .i64 0], .cel 0 [.str [], .sl [] .tight, .sl [] .tight, .sl [] .tight], Blk.cel 0 (flat cW on)] 3
  have hP4 := CO H [.cel 0 [.str b, .int .i64 (c : Int), .int .i64 0], .cel 0 (AB st.law v1 v2 v3), .cel 0 [.str [], .int .i64 0, .int .i64 0], .cel 0 [.str [], .sl [] .tight, .sl [] .tight, .sl [] .tight], Blk.cel 0 (flat cW on)] 4
  have h8 := h.push [.cel 0 [.str b, .int .i64 (c : Int), .int .i64 0], .cel 0 (AB st.law v1 v2 v3), .cel 0 [.str [], .int .i64 0, .int .i64 0], .cel 0 [.str [], .sl [] .tight, .sl [] .tight, .sl [] .tight], Blk.cel 0 (flat cW on)]
  have k8 : Kp b0 H (H ++ [.cel 0 [.str b, .int .i64 (c : Int), .int .i64 0], .cel 0 (AB st.law v1 v2 v3), .cel 0 [.str [], .int .i64 0, .int .i64 0], .cel 0 [.str [], .sl [] .tight, .sl [] .tight, .sl [] .tight], Blk.cel 0 (flat cW on)]) := Kp.app hble _
  generalize H ++ [.cel 0 [.str b, .int .i64 (c : Int), .int .i64 0], .cel 0 (AB st.law v1 v2 v3), .cel 0 [.str [], .int .i64 0, .int .i64 0], .cel 0 [.str [], .sl [] .tight, .sl [] .tight, .sl [] .tight], Blk.cel 0 (flat cW on)] = H8 at *
  rw [Nat.add_zero] at hP0
  simp only [getB_0, getB_1, getB_2, getB_3, getB_4] at hP0 hP1 hP2 hP3 hP4
  have hb8 : b0 ≤ H8.length := Nat.le_trans hble k8.len
  obtain ⟨w1, H85, s1, s2, s3⟩ := r19_square (on := on) (by rw [hle.2.2]; simp) 3 AC 0 0 st.nodes v1 H8 (by omega) (by rw [Dk]; decide) (by decide) (by decide) (by decide) (by have : sqM 3 = 21 := rfl; omega) hb8 h8.nodes
  rw [show (((3 : Nat) : Int)) = 3 from rfl, show (((0 : Nat) : Int)) = 0 from rfl] at s1
  have k85 := h8.nodes.kp hb8 s3
  have h85 := h8.nds s2 s3
  generalize hL : sqF (onQ on) 3 0 0 st.nodes = L at *
  have c85 := k85.cel _ _ hP0
  have b85 := k85.cel _ _ hP1
  have d85 := k85.cel _ _ hP2
  have e85 := k85.cel _ _ hP3
  have l85 := (List.getElem?_eq_some_iff.1 b85).1
  have hs85 := Gd (o := 1) (v := w1) b85 s2.one (by rw [BG]; decide)
  rw [stt_1] at hs85
  have h90 := h85.put (c' := AB st.law w1 v2 v3) b85
  have k90 : Kp b0 H (H85.set (H.length + 1) (.cel 0 (AB st.law w1 v2 v3))) := (k8.trans k85).setN hble
  have b90 : (H85.set (H.length + 1) (.cel 0 (AB st.law w1 v2 v3)))[H.length + 1]? = some (.cel 0 (AB st.law w1 v2 v3)) := List.getElem?_set_self l85
  have c90 : (H85.set (H.length + 1) (.cel 0 (AB st.law w1 v2 v3)))[H.length]? = some (.cel 0 [.str b, .int .i64 (c : Int), .int .i64 0]) := by rw [List.getElem?_set_ne (by omega)]; exact c85
  have d90 : (H85.set (H.length + 1) (.cel 0 (AB st.law w1 v2 v3)))[H.length + 2]? = some (.cel 0 [.str [], .int .i64 0, .int .i64 0]) := by rw [List.getElem?_set_ne (by omega)]; exact d85
  have e90 : (H85.set (H.length + 1) (.cel 0 (AB st.law w1 v2 v3)))[H.length + 3]? = some (.cel 0 [.str [], .sl [] .tight, .sl [] .tight, .sl [] .tight]) := by rw [List.getElem?_set_ne (by omega)]; exact e85
  unfold leafD
  simp only [GMb, GMc, HPa, HPc, HPd, HPe, HPz, Nat.reduceAdd, Nat.reduceLT, Bf hP1, stt_g1, BT (sz := 64) hP4 (by rw [GI, hle.2.2]; simp), s1, hs85]
  generalize H85.set (H.length + 1) (.cel 0 (AB st.law w1 v2 v3)) = H90 at *
  obtain ⟨w2, H98, w3, H103, e1, e2, e3, e4, e5⟩ := h90.line (Nat.le_trans hble k90.len) (L.length, 3) hn2
  have b98 := e3.cel _ _ b90
  have b103 := e4.cel _ _ b98
  have c103 := e4.cel _ _ (e3.cel _ _ c90)
  have d103 := e4.cel _ _ (e3.cel _ _ d90)
  have e103 := e4.cel _ _ (e3.cel _ _ e90)
  have l103 := (List.getElem?_eq_some_iff.1 b103).1
  have hs103 := Gd (o := 2) (v := w2) b103 e5.ats.one (by rw [BG]; decide)
  rw [stt_2] at hs103
  have k103 := k90.trans (e3.trans e4)
  dsimp only at e1 e2
  simp only [GMb, GMc, HPa, HPc, HPd, HPe, HPz, Nat.reduceAdd, Nat.reduceLT, Bf b90, stt_g1, stt_g2, stt_g3, s2.len, build_N, e1, Bf b98, build_I 3, e2, hs103]
  have h106 := e5.put (c' := AB st.law w1 w2 v3) b103
  have k106 : Kp b0 H (H103.set (H.length + 1) (.cel 0 (AB st.law w1 w2 v3))) := k103.setN hble
  have b106 : (H103.set (H.length + 1) (.cel 0 (AB st.law w1 w2 v3)))[H.length + 1]? = some (.cel 0 (AB st.law w1 w2 v3)) := List.getElem?_set_self l103
  have c106 : (H103.set (H.length + 1) (.cel 0 (AB st.law w1 w2 v3)))[H.length]? = some (.cel 0 [.str b, .int .i64 (c : Int), .int .i64 0]) := by rw [List.getElem?_set_ne (by omega)]; exact c103
  have d106 : (H103.set (H.length + 1) (.cel 0 (AB st.law w1 w2 v3)))[H.length + 2]? = some (.cel 0 [.str [], .int .i64 0, .int .i64 0]) := by rw [List.getElem?_set_ne (by omega)]; exact d103
  have e106 : (H103.set (H.length + 1) (.cel 0 (AB st.law w1 w2 v3)))[H.length + 3]? = some (.cel 0 [.str [], .sl [] .tight, .sl [] .tight, .sl [] .tight]) := by rw [List.getElem?_set_ne (by omega)]; exact e103
  generalize H103.set (H.length + 1) (.cel 0 (AB st.law w1 w2 v3)) = H106 at *
  have l106 := (List.getElem?_eq_some_iff.1 b106).1
  have hs106 := Gd (o := 3) (v := w3) b106 e5.lvs.one (by rw [BG]; decide)
  rw [stt_3] at hs106
  have h109 := h106.put (c' := AB st.law w1 w2 w3) b106
  have k109 : Kp b0 H (H106.set (H.length + 1) (.cel 0 (AB st.law w1 w2 w3))) := k106.setN hble
  have b109 : (H106.set (H.length + 1) (.cel 0 (AB st.law w1 w2 w3)))[H.length + 1]? = some (.cel 0 (AB st.law w1 w2 w3)) := List.getElem?_set_self l106
  have c109 : (H106.set (H.length + 1) (.cel 0 (AB st.law w1 w2 w3)))[H.length]? = some (.cel 0 [.str b, .int .i64 (c : Int), .int .i64 0]) := by rw [List.getElem?_set_ne (by omega)]; exact c106
  have d109 : (H106.set (H.length + 1) (.cel 0 (AB st.law w1 w2 w3)))[H.length + 2]? = some (.cel 0 [.str [], .int .i64 0, .int .i64 0]) := by rw [List.getElem?_set_ne (by omega)]; exact d106
  have e109 : (H106.set (H.length + 1) (.cel 0 (AB st.law w1 w2 w3)))[H.length + 3]? = some (.cel 0 [.str [], .sl [] .tight, .sl [] .tight, .sl [] .tight]) := by rw [List.getElem?_set_ne (by omega)]; exact e106
  simp only [GMb, GMc, HPa, HPc, HPd, HPe, HPz, Nat.reduceAdd, Nat.reduceLT, hs106]
  generalize H106.set (H.length + 1) (.cel 0 (AB st.law w1 w2 w3)) = H109 at *
  have hs109 := Dz (sz := 3) (ws := [.str b, .int .i64 (c : Int), .int .i64 0]) d109 rfl rfl rfl
  have l109 := (List.getElem?_eq_some_iff.1 d109).1
  have h112 := h109.put (c' := [.str b, .int .i64 (c : Int), .int .i64 0]) d109
  have k112 : Kp b0 H (H109.set (H.length + 2) (.cel 0 [.str b, .int .i64 (c : Int), .int .i64 0])) := k109.setN hble
  have b112 : (H109.set (H.length + 2) (.cel 0 [.str b, .int .i64 (c : Int), .int .i64 0]))[H.length + 1]? = some (.cel 0 (AB st.law w1 w2 w3)) := by rw [List.getElem?_set_ne (by omega)]; exact b109
  have d112 : (H109.set (H.length + 2) (.cel 0 [.str b, .int .i64 (c : Int), .int .i64 0]))[H.length + 2]? = some (.cel 0 [.str b, .int .i64 (c : Int), .int .i64 0]) := List.getElem?_set_self l109
  have e112 : (H109.set (H.length + 2) (.cel 0 [.str b, .int .i64 (c : Int), .int .i64 0]))[H.length + 3]? = some (.cel 0 [.str [], .sl [] .tight, .sl [] .tight, .sl [] .tight]) := by rw [List.getElem?_set_ne (by omega)]; exact e109
  simp only [GMb, GMc, HPa, HPc, HPd, HPe, HPz, Nat.reduceAdd, Nat.reduceLT, BT (sz := 3) c109 rfl, hs109, BT b109 (BG _ _ _ _)]
  generalize H109.set (H.length + 2) (.cel 0 [.str b, .int .i64 (c : Int), .int .i64 0]) = H112 at *
  have hs112 := Dz (sz := 4) (ws := AB st.law w1 w2 w3) e112 rfl rfl (Dm h112 st.law)
  have l112 := (List.getElem?_eq_some_iff.1 e112).1
  have h115 := h112.put (c' := AB st.law w1 w2 w3) e112
  have k115 : Kp b0 H (H112.set (H.length + 3) (.cel 0 (AB st.law w1 w2 w3))) := k112.setN hble
  have d115 : (H112.set (H.length + 3) (.cel 0 (AB st.law w1 w2 w3)))[H.length + 2]? = some (.cel 0 [.str b, .int .i64 (c : Int), .int .i64 0]) := by rw [List.getElem?_set_ne (by omega)]; exact d112
  have e115 : (H112.set (H.length + 3) (.cel 0 (AB st.law w1 w2 w3)))[H.length + 3]? = some (.cel 0 (AB st.law w1 w2 w3)) := List.getElem?_set_self l112
  simp only [GMb, GMc, HPa, HPc, HPd, HPe, HPz, Nat.reduceAdd, Nat.reduceLT, BT b112 (BG _ _ _ _), hs112, BT (sz := 3) d115 rfl, BT e115 (BG _ _ _ _)]
  exact ⟨⟨st.law, L, st.lines ++ [(L.length, 3)]⟩, w1, w2, w3, _, rfl, h115, k115, fun _ => rfl⟩

end
end Go.Gm
namespace Go.Gm
noncomputable def QK (H0 : Aa) (x11 x12 x13 x14 x15 : Ab) (H19 : Aa) : Out :=
 (Ay (some [(.int .i64 0), (.int .i64 0), (.int .i64 0), (.int .i64 0), (.int .i64 0)]) [(0, 1, x15)]).bind fun x88 =>
 Ap (A3 (some [(.int .i64 0), (.int .i64 0), (.int .i64 0), (.int .i64 0), (.int .i64 0)]) H19) fun x89 H90 =>
 bK H0 (Au (Af 5 x89 x88 H90)) fun _ H92 =>
 Ao (fun rec2 vs H => Sh.f1e H0 rec2 (ag vs 0) (ag vs 1) (ag vs 2) (ag vs 3) (ag vs 4) (ag vs 5) (ag vs 6) H) AC [x11, x12, x13, x14, x15, x89, (.int .i64 0)] H92
def NI (b : List UInt8) (k a n : Nat) : Er × Nat × Nat := if n = 0 ∧ Aq b a [48] = true then (some (CJ b a []), a, 0) else Ht b k a n
theorem levD_S (b : List UInt8) (a : Nat) : BK b a = NI b (b.length + 1 - a) a 0 := by
 unfold BK NI
 by_cases h : Aq b a [48] = true
 ·rw [if_pos h, if_pos ⟨rfl, h⟩]
 ·rw [if_neg h, if_neg (fun hc => h hc.2)]
theorem levD_on {b : List UInt8} {k i n : Nat} (hs : Aq b i BI = true) (h1 : ¬ (n = 0 ∧ Aq b i [48] = true)) (h2 : ¬ 1329 < 10 * n + Co b i) (h3 : 10 * n + Co b i ≠ 0) : NI b (k + 1) i n = NI b k (i + 1) (10 * n + Co b i) := by
 conv => lhs; unfold NI
 rw [if_neg h1]
 conv => lhs; unfold Ht
 rw [if_pos hs, if_neg h2]
 unfold NI
 rw [if_neg (fun hc => h3 hc.1)]
theorem levD_big {b : List UInt8} {k i n : Nat} (hs : Aq b i BI = true) (h1 : ¬ (n = 0 ∧ Aq b i [48] = true)) (h2 : 1329 < 10 * n + Co b i) : NI b (k + 1) i n = (some (4, []), i, n) := by
 unfold NI
 rw [if_neg h1]
 unfold Ht
 rw [if_pos hs, if_pos h2]
theorem levD_zero {b : List UInt8} {k i : Nat} (h : Aq b i [48] = true) : NI b k i 0 = (some (CJ b i []), i, 0) := by
 unfold NI; rw [if_pos ⟨rfl, h⟩]
theorem levD_end {b : List UInt8} {k i n : Nat} (hs : Aq b i BI = false) : NI b (k + 1) i n = if n = 0 then (some (CJ b i []), i, n) else (none, i, n) := by
 have h0 : ¬ (n = 0 ∧ Aq b i [48] = true) := fun hc => by
  have := hc.2
  unfold Aq at this hs
  cases hb : b[i]? with
  | none => rw [hb] at this; cases this
  | some c =>
   rw [hb] at this hs
   simp only [List.contains_cons, List.contains_nil, Bool.or_false, beq_iff_eq] at this
   rw [this] at hs; revert hs; decide
 unfold NI
 rw [if_neg h0]
 unfold Ht
 rw [if_neg (by rw [hs]; decide)]
section
variable {b0 : Nat} {st : MSt} {v1 v2 v3 : Ab} {H : Aa}
theorem r19_kidX {S : List Ab} (hsc : S.all Ab.isScal = true) (hln : S.length = 4) (b : List UInt8) (a : Nat) {e : Int} (he : e ≠ 0) (level : Int) (H : Aa) :
  Sh.f1d (.agg [.str b, .int .i64 (a : Int), .int .i64 e]) (.int .i64 level) (.agg S) H = some (.ret (.tup [.agg [.str b, .int .i64 (a : Int), .int .i64 e], .int .i64 0]), H) := by
 have hf : decide (e = 0) = false := decide_eq_false he
 unfold Sh.f1d
 simp only [GMb, GMc, HPa, HPc, HPd, HPe, HPz, Nat.reduceAdd, Nat.reduceLT, hsc, hln, hf]
theorem Qy {S : List Ab} (hsc : S.all Ab.isScal = true) (hln : S.length = 4) {b : List UInt8} {a : Nat} (ha : a ≤ b.length) (hb : b.length < 100000000000) :
  Ao (fun rec1 vs H1 => Sh.f4s H rec1 (ag vs 0) (ag vs 1) (ag vs 2) (ag vs 3) (ag vs 4) H1) AC [.ptr H.length 0 0, .ptr (H.length + 1) 0 0, .ptr (H.length + 2) 0 0, .ptr (H.length + 3) 0 0, .int .i64 0]
   (H ++ [.cel 0 [.str b, .int .i64 (a : Int), .int .i64 0], .cel 0 S, .cel 0 [.str [], .int .i64 0, .int .i64 0], .cel 0 [.str [], .sl [] .tight, .sl [] .tight, .sl [] .tight]]) =
   match BK b a with
   | (some e, c, _) => some (.ret (.tup [.agg [.str b, .int .i64 (c : Int), .int .i64 e.1], .agg S]), H ++ [.cel 0 [.str b, .int .i64 (c : Int), .int .i64 (if e.1 = 4 then 4 else 0)], .cel 0 S, .cel 0 [.str b, .int .i64 (c : Int), .int .i64 e.1], .cel 0 S])
   | (none, c, n) => QK H (.ptr H.length 0 0) (.ptr (H.length + 1) 0 0) (.ptr (H.length + 2) 0 0) (.ptr (H.length + 3) 0 0) (.int .i64 (n : Int))
     (H ++ [.cel 0 [.str b, .int .i64 (c : Int), .int .i64 0], .cel 0 S, .cel 0 [.str [], .int .i64 0, .int .i64 0], .cel 0 [.str [], .sl [] .tight, .sl [] .tight, .sl [] .tight]]) := by
 rw [levD_S]
 refine AM (G := fun rec1 vs H1 => Sh.f4s H rec1 (ag vs 0) (ag vs 1) (ag vs 2) (ag vs 3) (ag vs 4) H1) (σ := Nat × Nat) (fun s => s.1 ≤ b.length ∧ s.2 ≤ 1329)
  (fun s => [.ptr H.length 0 0, .ptr (H.length + 1) 0 0, .ptr (H.length + 2) 0 0, .ptr (H.length + 3) 0 0, .int .i64 (s.2 : Int)])
  (fun s => H ++ [.cel 0 [.str b, .int .i64 (s.1 : Int), .int .i64 0], .cel 0 S, .cel 0 [.str [], .int .i64 0, .int .i64 0], .cel 0 [.str [], .sl [] .tight, .sl [] .tight, .sl [] .tight]]) (fun s => b.length - s.1)
  (fun s => match NI b (b.length + 1 - s.1) s.1 s.2 with
   | (some e, c, _) => some (.ret (.tup [.agg [.str b, .int .i64 (c : Int), .int .i64 e.1], .agg S]), H ++ [.cel 0 [.str b, .int .i64 (c : Int), .int .i64 (if e.1 = 4 then 4 else 0)], .cel 0 S, .cel 0 [.str b, .int .i64 (c : Int), .int .i64 e.1], .cel 0 S])
   | (none, c, n) => QK H (.ptr H.length 0 0) (.ptr (H.length + 1) 0 0) (.ptr (H.length + 2) 0 0) (.ptr (H.length + 3) 0 0) (.int .i64 (n : Int))
     (H ++ [.cel 0 [.str b, .int .i64 (c : Int), .int .i64 0], .cel 0 S, .cel 0 [.str [], .int .i64 0, .int .i64 0], .cel 0 [.str [], .sl [] .tight, .sl [] .tight, .sl [] .tight]])) (fun s rec hi hrec => ?_) (a, 0) ⟨ha, by simp⟩ (by dsimp only; omega)
 obtain ⟨i, n⟩ := s
 obtain ⟨h1, h2⟩ := hi
 dsimp only at h1 h2 hrec ⊢
 rw [show b.length + 1 - i = (b.length - i) + 1 by omega]
 have he := fun e H => Do b i e H
 have hst := fun e H => E6 b i e H
 have hsp := DA h1 []
 have hs4 : (CJ b i []).1 ≠ 4 := by unfold CJ; split <;> simp
 have hf4 : decide ((CJ b i []).1 = 4) = false := decide_eq_false hs4
 rw [← hsp] at hst
 unfold AT BL at he hst
 have fin : Aq b i BI = false → ((Ae .none .eql (.int .i64 (n : Int)) (.int .i64 0)).bind fun x78 =>
 Aj x78 (
 bC (Ad true 3 (.ptr H.length 0 0) (H ++ [.cel 0 [.str b, .int .i64 (i : Int), .int .i64 0], .cel 0 S, .cel 0 [.str [], .int .i64 0, .int .i64 0], .cel 0 [.str [], .sl [] .tight, .sl [] .tight, .sl [] .tight]])) (fun _ => True) fun x79 =>
 AQ (Sh.f2 x79 (H ++ [.cel 0 [.str b, .int .i64 (i : Int), .int .i64 0], .cel 0 S, .cel 0 [.str [], .int .i64 0, .int .i64 0], .cel 0 [.str [], .sl [] .tight, .sl [] .tight, .sl [] .tight]])) fun x80 H81 =>
 AQ (Au (Af 3 (.ptr (H.length + 2) 0 0) x80 H81)) fun _ H83 =>
 bC (Ad true 4 (.ptr (H.length + 1) 0 0) H83) (fun x84 => Ad true 4 (.ptr (H.length + 1) 0 0) H81 = some x84 ∧ Ad true 4 (.ptr (H.length + 1) 0 0) (H ++ [.cel 0 [.str b, .int .i64 (i : Int), .int .i64 0], .cel 0 S, .cel 0 [.str [], .int .i64 0, .int .i64 0], .cel 0 [.str [], .sl [] .tight, .sl [] .tight, .sl [] .tight]]) = some x84 ∧ True) fun x84 =>
 bK H (Au (Af 4 (.ptr (H.length + 3) 0 0) x84 H83)) fun _ H86 =>
 (BM [Ad true 3 (.ptr (H.length + 2) 0 0) H86, Ad true 4 (.ptr (H.length + 3) 0 0) H86]).bind fun x87 => rK H x87 H86) (
 QK H (.ptr H.length 0 0) (.ptr (H.length + 1) 0 0) (.ptr (H.length + 2) 0 0) (.ptr (H.length + 3) 0 0) (.int .i64 (n : Int)) (H ++ [.cel 0 [.str b, .int .i64 (i : Int), .int .i64 0], .cel 0 S, .cel 0 [.str [], .int .i64 0, .int .i64 0], .cel 0 [.str [], .sl [] .tight, .sl [] .tight, .sl [] .tight]]))) =
   (match NI b ((b.length - i) + 1) i n with
   | (some e, c, _) => some (.ret (.tup [.agg [.str b, .int .i64 (c : Int), .int .i64 e.1], .agg S]), H ++ [.cel 0 [.str b, .int .i64 (c : Int), .int .i64 (if e.1 = 4 then 4 else 0)], .cel 0 S, .cel 0 [.str b, .int .i64 (c : Int), .int .i64 e.1], .cel 0 S])
   | (none, c, n) => QK H (.ptr H.length 0 0) (.ptr (H.length + 1) 0 0) (.ptr (H.length + 2) 0 0) (.ptr (H.length + 3) 0 0) (.int .i64 (n : Int))
     (H ++ [.cel 0 [.str b, .int .i64 (c : Int), .int .i64 0], .cel 0 S, .cel 0 [.str [], .int .i64 0, .int .i64 0], .cel 0 [.str [], .sl [] .tight, .sl [] .tight, .sl [] .tight]])) := by
  intro hs
  rw [levD_end hs]
  by_cases hn : n = 0
  ·have hd : decide ((n : Int) = 0) = true := decide_eq_true (by omega)
   rw [if_pos hn]
   simp only [GMb, GMc, HPa, HPc, HPd, HPe, HPz, Nat.reduceAdd, Nat.reduceLT, hd, hsc, hln, hst, if_neg hs4]
  ·have hd : decide ((n : Int) = 0) = false := decide_eq_false (by omega)
   rw [if_neg hn]
   simp only [GMb, GMc, HPa, HPc, HPd, HPe, HPz, Nat.reduceAdd, Nat.reduceLT, hd]
 unfold Sh.f4s
 by_cases hend : b.length ≤ i
 ·have hs : Aq b i BI = false := by unfold Aq; rw [List.getElem?_eq_none hend]
  have := fin hs
  have hed : decide (b.length ≤ i) = true := decide_eq_true hend
  unfold QK at this ⊢
  simp only [GMb, GMc, HPa, HPc, HPd, HPe, HPz, Nat.reduceAdd, Nat.reduceLT, Al, he, hed] at this ⊢
  exact this
 ·have hlt : i < b.length := by omega
  have hed : decide (b.length ≤ i) = false := decide_eq_false hend
  have hix := AK (K := .i64) hlt
  have hdg := R0 hlt
  cases hs : Aq b i BI with
  | false =>
   rw [hs] at hdg
   have hf := fin hs
   unfold QK at hf ⊢
   cases hge : decide ((b[i].toNat : Int) ≥ 48) with
   | true =>
    have hle : decide ((b[i].toNat : Int) ≤ 57) = false := by rw [hge] at hdg; simpa using hdg.symm
    simp only [GMb, GMc, HPa, HPc, HPd, HPe, HPz, Nat.reduceAdd, Nat.reduceLT, Al, he, hed, hix, hge, hle] at hf ⊢
    exact hf
   | false =>
    simp only [GMb, GMc, HPa, HPc, HPd, HPe, HPz, Nat.reduceAdd, Nat.reduceLT, Al, he, hed, hix, hge] at hf ⊢
    exact hf
  | true =>
   rw [hs] at hdg
   have hdg' := hdg.symm
   rw [Bool.and_eq_true] at hdg'
   obtain ⟨hge, hle⟩ := hdg'
   have d48 : decide ((b[i].toNat : Int) = 48) = Aq b i [48] := by rw [Dh hlt]; exact Qd b[i]
   obtain ⟨w1, w2⟩ := dig_bin hs hlt
   have hd9 := PR hs
   have w3 : IntKind.i64.wrap (10 * (n : Int)) = ((10 * n : Nat) : Int) := by rw [show (10 * (n : Int)) = ((10 * n : Nat) : Int) by omega, Cj (by omega)]
   have w4 : IntKind.i64.wrap (((10 * n : Nat) : Int) + (Co b i : Int)) = ((10 * n + Co b i : Nat) : Int) := Ei (by omega)
   have hwi := Ar (show i < 9223372036854775807 by omega)
   by_cases hz : n = 0 ∧ Aq b i [48] = true
   ·obtain ⟨rfl, hz2⟩ := hz
    rw [hz2] at d48
    have hd : decide (((0 : Nat) : Int) = 0) = true := rfl
    rw [levD_zero hz2]
    simp only [GMb, GMc, HPa, HPc, HPd, HPe, HPz, Nat.reduceAdd, Nat.reduceLT, Al, he, hed, hix, hge, hle, hd, d48, hsc, hln, hst, if_neg hs4]
   ·have step : 10 * n + Co b i ≠ 0 := fun hc => hz ⟨by omega, by
     obtain ⟨_, g1, g2, g3⟩ := Hy hs
     rw [← d48, decide_eq_true_eq]; omega⟩
    by_cases hbig : 1329 < 10 * n + Co b i
    ·have hbd : decide (((10 * n + Co b i : Nat) : Int) > 1329) = true := decide_eq_true (by omega)
     rw [levD_big hs hz hbig]
     by_cases hn : n = 0
     ·have hd : decide ((n : Int) = 0) = true := decide_eq_true (by omega)
      have hz2 : Aq b i [48] = false := by cases h : Aq b i [48] with
       | false => rfl
       | true => exact absurd ⟨hn, h⟩ hz
      rw [hz2] at d48
      simp only [GMb, GMc, HPa, HPc, HPd, HPe, HPz, Nat.reduceAdd, Nat.reduceLT, Al, he, hed, hix, hge, hle, hd, d48, hsc, hln, w1, w2, w3, w4, Bj, hbd, if_true]
     ·have hd : decide ((n : Int) = 0) = false := decide_eq_false (by omega)
      simp only [GMb, GMc, HPa, HPc, HPd, HPe, HPz, Nat.reduceAdd, Nat.reduceLT, Al, he, hed, hix, hge, hle, hd, hsc, hln, w1, w2, w3, w4, Bj, hbd, if_true]
    ·have hbd : decide (((10 * n + Co b i : Nat) : Int) > 1329) = false := decide_eq_false (by omega)
     rw [levD_on hs hz hbig step]
     have := hrec (i + 1, 10 * n + Co b i) ⟨hlt, by dsimp only; omega⟩ (by dsimp only; omega)
     dsimp only at this
     rw [show b.length + 1 - (i + 1) = b.length - i by omega] at this
     by_cases hn : n = 0
     ·have hd : decide ((n : Int) = 0) = true := decide_eq_true (by omega)
      have hz2 : Aq b i [48] = false := by cases h : Aq b i [48] with
       | false => rfl
       | true => exact absurd ⟨hn, h⟩ hz
      rw [hz2] at d48
      simp only [GMb, GMc, HPa, HPc, HPd, HPe, HPz, Nat.reduceAdd, Nat.reduceLT, Al, he, hed, hix, hge, hle, hd, d48, hsc, hln, w1, w2, w3, w4, Bj, hbd, hwi]
      exact this
     ·have hd : decide ((n : Int) = 0) = false := decide_eq_false (by omega)
      simp only [GMb, GMc, HPa, HPc, HPd, HPe, HPz, Nat.reduceAdd, Nat.reduceLT, Al, he, hed, hix, hge, hle, hd, hsc, hln, w1, w2, w3, w4, Bj, hbd, hwi]
      exact this
theorem r19_node (h : SR b0 st v1 v2 v3 H) (hble : b0 ≤ H.length) {b : List UInt8} {a : Nat} (ha : a ≤ b.length) (hb : b.length < 100000000000) (hn : st.nodes.length < 3000000000000) (hll : st.lines.length < 100000000000) :
  Doc b0 b H (Sh.f32 (AT b a 0) (.agg (AB st.law v1 v2 v3)) H) (NA b a st) := by
 have hsc := Dm h st.law
 have hln := BG st.law v1 v2 v3
 have key := Qy (H := H) (S := AB st.law v1 v2 v3) hsc hln ha hb
 unfold Sh.f32 Doc NA AT BL
 simp only [GMb, GMc, HPa, HPc, HPd, HPe, HPz, Nat.reduceAdd, Nat.reduceLT, hsc, hln]
 rw [key]
 have hle := NH b (b.length + 1 - a) a 0 ha
 have hok := levF_ok b (b.length + 1 - a) a 0 (by omega) ha (by omega)
 have hlv : (BK b a).2.1 ≤ b.length ∧ ((BK b a).1 = none → 0 < (BK b a).2.2 ∧ (BK b a).2.2 ≤ 1329) := by
  unfold BK
  split
  ·exact ⟨ha, fun h => by cases h⟩
  ·exact ⟨hle.2, hok⟩
 generalize BK b a = R at hlv
 obtain ⟨er, c0, v⟩ := R
 dsimp only at hlv ⊢
 cases er with
 | some e => exact ⟨st, v1, v2, v3, _, rfl, h.push _, Kp.app hble _, fun e => by cases e⟩
 | none =>
  dsimp only
  obtain ⟨hc0, hv⟩ := hlv
  obtain ⟨hv0, hv1⟩ := hv rfl
  have hbd : Ay (some [(.int .i64 0), (.int .i64 0), (.int .i64 0), (.int .i64 0), (.int .i64 0)]) [(0, 1, .int .i64 (v : Int))] = some (.agg (cNd ⟨(v : Int), 0, 0, 0, 0⟩)) := rfl
  unfold QK
  simp only [GMb, GMc, HPa, HPc, HPd, HPe, HPz, Nat.reduceAdd, Nat.reduceLT, Ba, BE, By, BC, hbd, By]
  have loop := Hq (G := fun rec2 vs H1 => Sh.f1e H rec2 (ag vs 0) (ag vs 1) (ag vs 2) (ag vs 3) (ag vs 4) (ag vs 5) (ag vs 6) H1) 4
   (fun k vs Hc => ∃ (er : Er) (c : Nat) (x x' : Nd) (rest : List UInt8), vs = [.ptr H.length 0 0, .ptr (H.length + 1) 0 0, .ptr (H.length + 2) 0 0, .ptr (H.length + 3) 0 0, .int .i64 (v : Int), .ptr (H.length + 4) 0 0, .int .i64 (k : Int)] ∧
    Hc = H ++ [.cel 0 [.str b, .int .i64 (c : Int), .int .i64 (Eq er)], .cel 0 (AB st.law v1 v2 v3), .cel 0 [.str [], .int .i64 0, .int .i64 0], .cel 0 [.str [], .sl [] .tight, .sl [] .tight, .sl [] .tight], .cel 0 (cNd x)] ∧
    c ≤ b.length ∧ x.lv = (v : Int) ∧ (∀ e, er = some e → e.1 ≠ 0) ∧
    EV b st.lines v 4 0 c0 ⟨v, 0, 0, 0, 0⟩ [32, 48, 32, 48, 32, 48] = (match er with | none => EV b st.lines v (4 - k) k c x rest | some e => (some e, c, x')))
   (by decide) (fun k vs Hc hk hI => ?_) (vs := [.ptr H.length 0 0, .ptr (H.length + 1) 0 0, .ptr (H.length + 2) 0 0, .ptr (H.length + 3) 0 0, .int .i64 (v : Int), .ptr (H.length + 4) 0 0, .int .i64 0])
   (H := H ++ [.cel 0 [.str b, .int .i64 (c0 : Int), .int .i64 0], .cel 0 (AB st.law v1 v2 v3), .cel 0 [.str [], .int .i64 0, .int .i64 0], .cel 0 [.str [], .sl [] .tight, .sl [] .tight, .sl [] .tight], .cel 0 (cNd ⟨(v : Int), 0, 0, 0, 0⟩)])
   ⟨none, c0, ⟨v, 0, 0, 0, 0⟩, ⟨v, 0, 0, 0, 0⟩, [32, 48, 32, 48, 32, 48], rfl, rfl, hc0, rfl, (fun e he => by cases he), rfl⟩
  ·obtain ⟨vs', Hc, ⟨er, c, x, x', rest, rfl, rfl, hc, hxl, hne, hkd⟩, rec, hloop⟩ := loop
   rw [hloop, hkd]
   unfold Sh.f1e
   cases er with
   | some e =>
    have hf : decide (e.1 = 0) = false := decide_eq_false (hne e rfl)
    simp only [GMb, GMc, HPa, HPc, HPd, HPe, HPz, Nat.reduceAdd, Nat.reduceLT, Ba, BE, By, BC, Al, show ¬ (((4 : Nat) : Int) < 4) from by decide, AZ, hf, hsc, hln]
    exact ⟨st, v1, v2, v3, _, rfl, h.push _, Kp.app hble _, fun e => by cases e⟩
   | none =>
    simp only [GMb, GMc, HPa, HPc, HPd, HPe, HPz, Nat.reduceAdd, Nat.reduceLT, Ba, BE, By, BC, Al, show ¬ (((4 : Nat) : Int) < 4) from by decide, BF, hsc, hln]
    have hP0 := CO H [.cel 0 [.str b, .int .i64 (c : Int), .int .i64 0], .cel 0 (AB st.law v1 v2 v3), .cel 0 [.str [], .int .i64 0, .int .i64 0], .cel 0 [.str [], .sl [] .tight, .sl [] .tight, .sl [] .tight], Blk.cel 0 (cNd x)] 0
    have hP2 := CO H [.cel 0 [.str b, .int .i64 (c : Int), .int .i64 0], .cel 0 (AB st.law v1 v2 v3), .cel 0 [.str [], .int .i64 0, .int .i64 0], .cel 0 [.str [], .sl [] .tight, .sl [] .tight, .sl [] .tight], Blk.cel 0 (cNd x)] 2
    have hP3 := CO H [.cel 0 [.str b, .int .i64 (c : Int), .int .i64 0], .cel 0 (AB st.law v1 v2 v3), .cel 0 [.str [], .int .i64 0, .int .i64 0], .cel 0 [.str [], .sl [] .tight, .sl [] .tight, .sl [] .tight], Blk.cel 0 (cNd x)] 3
    rw [Nat.add_zero] at hP0
    simp only [getB_0, getB_2, getB_3] at hP0 hP2 hP3
    have h8 := h.push [.cel 0 [.str b, .int .i64 (c : Int), .int .i64 0], .cel 0 (AB st.law v1 v2 v3), .cel 0 [.str [], .int .i64 0, .int .i64 0], .cel 0 [.str [], .sl [] .tight, .sl [] .tight, .sl [] .tight], Blk.cel 0 (cNd x)]
    have k8 : Kp b0 H (H ++ [.cel 0 [.str b, .int .i64 (c : Int), .int .i64 0], .cel 0 (AB st.law v1 v2 v3), .cel 0 [.str [], .int .i64 0, .int .i64 0], .cel 0 [.str [], .sl [] .tight, .sl [] .tight, .sl [] .tight], Blk.cel 0 (cNd x)]) := Kp.app hble _
    have hld0 : Ad true 3 (.ptr H.length 0 0) (H ++ [.cel 0 [.str b, .int .i64 (c : Int), .int .i64 0], .cel 0 (AB st.law v1 v2 v3), .cel 0 [.str [], .int .i64 0, .int .i64 0], .cel 0 [.str [], .sl [] .tight, .sl [] .tight, .sl [] .tight], Blk.cel 0 (cNd x)]) = some (.agg [.str b, .int .i64 (c : Int), .int .i64 0]) := BT hP0 rfl
    generalize H ++ [.cel 0 [.str b, .int .i64 (c : Int), .int .i64 0], .cel 0 (AB st.law v1 v2 v3), .cel 0 [.str [], .int .i64 0, .int .i64 0], .cel 0 [.str [], .sl [] .tight, .sl [] .tight, .sl [] .tight], Blk.cel 0 (cNd x)] = H8 at *
    obtain ⟨w1, w2, w3, H9, a1, a2, a3⟩ := r19_add h8 (Nat.le_trans hble k8.len) x hn (by omega) st.law
    have c9 := a3.cel _ _ hP0
    have d9 := a3.cel _ _ hP2
    have e9 := a3.cel _ _ hP3
    have hs9 := Dz (sz := 3) (ws := [.str b, .int .i64 (c : Int), .int .i64 0]) d9 rfl rfl rfl
    have l9 := (List.getElem?_eq_some_iff.1 d9).1
    have h10 := a2.put (c' := [.str b, .int .i64 (c : Int), .int .i64 0]) d9
    have k10 : Kp b0 H (H9.set (H.length + 2) (.cel 0 [.str b, .int .i64 (c : Int), .int .i64 0])) := (k8.trans a3).setN hble
    have d10 : (H9.set (H.length + 2) (.cel 0 [.str b, .int .i64 (c : Int), .int .i64 0]))[H.length + 2]? = some (.cel 0 [.str b, .int .i64 (c : Int), .int .i64 0]) := List.getElem?_set_self l9
    have e10 : (H9.set (H.length + 2) (.cel 0 [.str b, .int .i64 (c : Int), .int .i64 0]))[H.length + 3]? = some (.cel 0 [.str [], .sl [] .tight, .sl [] .tight, .sl [] .tight]) := by rw [List.getElem?_set_ne (by omega)]; exact e9
    simp only [GMb, GMc, HPa, HPc, HPd, HPe, HPz, Nat.reduceAdd, Nat.reduceLT, a1, hld0, BT (sz := 3) c9 rfl, hs9]
    generalize H9.set (H.length + 2) (.cel 0 [.str b, .int .i64 (c : Int), .int .i64 0]) = H10 at *
    have hs10 := Dz (sz := 4) (ws := AB st.law w1 w2 w3) e10 rfl rfl (Dm h10 st.law)
    have l10 := (List.getElem?_eq_some_iff.1 e10).1
    have h11 := h10.put (c' := AB st.law w1 w2 w3) e10
    have k11 : Kp b0 H (H10.set (H.length + 3) (.cel 0 (AB st.law w1 w2 w3))) := k10.setN hble
    have d11 : (H10.set (H.length + 3) (.cel 0 (AB st.law w1 w2 w3)))[H.length + 2]? = some (.cel 0 [.str b, .int .i64 (c : Int), .int .i64 0]) := by rw [List.getElem?_set_ne (by omega)]; exact d10
    have e11 : (H10.set (H.length + 3) (.cel 0 (AB st.law w1 w2 w3)))[H.length + 3]? = some (.cel 0 (AB st.law w1 w2 w3)) := List.getElem?_set_self l10
    simp only [GMb, GMc, HPa, HPc, HPd, HPe, HPz, Nat.reduceAdd, Nat.reduceLT, hs10, BT (sz := 3) d11 rfl, BT e11 (BG _ _ _ _)]
    rw [hxl] at h11
    exact ⟨⟨st.law, st.nodes ++ [x], st.lines ++ [(st.nodes.length + 1, (v : Int))]⟩, w1, w2, w3, _, rfl, h11, k11, fun _ => rfl⟩
  ·obtain ⟨er, c, x, x', rest, rfl, rfl, hc, hxl, hne, hkd⟩ := hI
   have hk' : (k : Int) < 4 := by omega
   have hws := Ar (show k < 9223372036854775807 by omega)
   have hst : ∀ (G : Aa) (z : Int) (c1 c2 c3 c4 : Blk), Af 1 (.ptr (H.length + 4) 0 (1 + k)) (.int .i64 z) (H ++ [c1, c2, c3, c4, .cel 0 (cNd x)]) = some (H ++ [c1, c2, c3, c4, .cel 0 (cNd (x.setKid k z))]) := fun _ z c1 c2 c3 c4 => by
    have hg : (H ++ [c1, c2, c3, c4, Blk.cel 0 (cNd x)])[H.length + 4]? = some (.cel 0 (cNd x)) := by rw [CO]; rfl
    rw [Cg hg hk, List.set_append_right _ _ (by omega), show H.length + 4 - H.length = 4 by omega]; rfl
   cases er with
   | some e =>
    have hlx := fun s K => r15_litX b c (hne e rfl) s K
    have hkx := fun K => r19_kidX hsc hln b c (hne e rfl) (v : Int) K
    unfold AT BL at hlx
    refine ⟨_, _, ⟨some e, c, x.setKid k 0, x', rest, rfl, rfl, hc, by rw [C8]; exact hxl, hne, hkd⟩, fun rec => ?_⟩
    unfold Sh.f1e
    simp only [GMb, GMc, HPa, HPc, HPd, HPe, HPz, Nat.reduceAdd, Nat.reduceLT, Ba, BE, By, BC, Al, hk', AZ, hlx, hkx, hsc, hln, C0 hk, hst H, hws]
   | none =>
    have hlit := fun s K => r15_lit (b := b) hc (by omega) s K
    have hmc := Mb hc [32] (48 :: rest)
    have hM := Hn (s := [32]) (rest := 48 :: rest) hc
    have hm2 : (B7 b c [32] (48 :: rest)).2 = Fv b c [32] := rfl
    have hmn := fun e => must_ne (b := b) (a := c) (s := [32]) (rest := 48 :: rest) (e := e)
    dsimp only at hkd
    rw [show 4 - k = (4 - (k + 1)) + 1 by omega] at hkd
    unfold EV at hkd
    have hl1 := fun K => hlit [32] K
    rw [← hmc, ← hm2] at hl1
    unfold AT BL at hl1
    generalize B7 b c [32] (48 :: rest) = M at hkd hM hmn hl1
    obtain ⟨er, c1⟩ := M
    dsimp only at hkd hM hl1
    cases er with
    | some e =>
     have he := hmn e rfl
     have hkx := fun K => r19_kidX hsc hln b c1 he (v : Int) K
     refine ⟨_, _, ⟨some e, c1, x.setKid k 0, x, rest, rfl, rfl, hM, by rw [C8]; exact hxl, fun e' h => by injection h with h; rw [← h]; exact he, hkd⟩, fun rec => ?_⟩
     unfold Sh.f1e
     simp only [GMb, GMc, HPa, HPc, HPd, HPe, HPz, Nat.reduceAdd, Nat.reduceLT, Ba, BE, By, BC, Al, hk', BF, AZ, hl1, hkx, hsc, hln, C0 hk, hst H, hws]
    | none =>
     have hkid := fun G => r19_kid (h.push G) st.law hM hb (level := (v : Int)) (by omega) (by omega) hll rest
     have hkl : (L2 b c1 st.lines v rest).2.1 ≤ b.length := by
      have := kidF_le b st.lines v c1 rest (b.length + 1 - c1) c1 0 hM
      unfold L2; exact this.2
     have hker := kidS_er b c1 st.lines (v : Int) rest
     unfold KK AT BL at hkid
     dsimp only at hkd
     generalize L2 b c1 st.lines v rest = R at hkd hkid hkl hker
     obtain ⟨er, c2, n⟩ := R
     dsimp only at hkd hkid hkl hker
     cases er with
     | some e =>
      have he : e.1 ≠ 0 := by have := hker e rfl; omega
      refine ⟨_, _, ⟨some e, c2, x.setKid k 0, x, rest, rfl, rfl, hkl, by rw [C8]; exact hxl, fun e' h => by injection h with h; rw [← h]; exact he, hkd⟩, fun rec => ?_⟩
      unfold Sh.f1e
      simp only [GMb, GMc, HPa, HPc, HPd, HPe, HPz, Nat.reduceAdd, Nat.reduceLT, Ba, BE, By, BC, Al, hk', BF, AZ, hl1, hkid, hsc, hln, C0 hk, hst H, hws]
     | none =>
      refine ⟨_, _, ⟨none, c2, x.setKid k (n : Int), x, rest.drop 2, rfl, rfl, hkl, by rw [C8]; exact hxl, (fun e' h => by cases h), hkd⟩, fun rec => ?_⟩
      unfold Sh.f1e
      simp only [GMb, GMc, HPa, HPc, HPd, HPe, HPz, Nat.reduceAdd, Nat.reduceLT, Ba, BE, By, BC, Al, hk', BF, AZ, hl1, hkid, hsc, hln, C0 hk, hst H, hws]

end
end Go.Gm
namespace Go.Gm
theorem kidS_le {b : List UInt8} {a : Nat} (ha : a ≤ b.length) (lines : List (Nat × Int)) (level : Int) (rest : List UInt8) : a ≤ (L2 b a lines level rest).2.1 ∧ (L2 b a lines level rest).2.1 ≤ b.length := kidF_le b lines level a rest _ a 0 ha
theorem litN_ge (b : List UInt8) (a : Nat) (s : List UInt8) : a ≤ Fv b a s := Nat.le_add_right _ _
theorem Rf (b : List UInt8) (lines : List (Nat × Int)) (level : Int) : ∀ d k a x rest, a ≤ b.length → a ≤ (EV b lines level d k a x rest).2.1 ∧ (EV b lines level d k a x rest).2.1 ≤ b.length ∧ (EV b lines level d k a x rest).2.2.lv = x.lv
 | 0, k, a, x, rest, h => ⟨Nat.le_refl _, h, rfl⟩
 | d + 1, k, a, x, rest, h => by
  unfold EV
  have h1 := litN_ge b a [32]
  have h2 := FK h [32]
  have e : (B7 b a [32] (48 :: rest)).2 = Fv b a [32] := rfl
  generalize B7 b a [32] (48 :: rest) = M at e
  obtain ⟨er, c⟩ := M
  dsimp only at e
  subst e
  cases er with
  | some e => exact ⟨h1, h2, rfl⟩
  | none =>
   dsimp only
   have h3 := kidS_le h2 lines level rest
   generalize L2 b (Fv b a [32]) lines level rest = M at h3
   obtain ⟨er, c', n⟩ := M
   dsimp only at h3
   cases er with
   | some e => exact ⟨by dsimp only; omega, by dsimp only; omega, rfl⟩
   | none =>
    have := Rf b lines level d (k + 1) c' (x.setKid k (n : Int)) (rest.drop 2) (by omega)
    rw [C8] at this
    exact ⟨by dsimp only; omega, by dsimp only; omega, by dsimp only; exact this.2.2⟩
section
variable {b0 p a : Nat} {b : List UInt8} {bx N : Int} {st : MSt} {H : Aa}
noncomputable def nodeT (H0 : Aa) (r_9 n_10 : Ab) (H13 : Aa) : Out :=
 bC (Ad true 5 n_10 H13) (fun _ => True) fun x32 =>
 AQ (Sh.fo r_9 x32 H13) fun x33 H34 =>
 (Ag r_9).bind fun x35 =>
 (Ac 6 x35).bind fun x36 =>
 bC (Ad false 1 x36 H34) (fun x37 => Ad false 1 x36 H13 = some x37 ∧ True) fun x37 =>
 (Ac 0 n_10).bind fun x38 =>
 bC (Ad false 1 x38 H34) (fun x39 => Ad false 1 x38 H13 = some x39 ∧ True) fun x39 =>
 (Ay (some [(.int .i64 0), (.int .i64 0)]) [(0, 1, x33), (1, 1, x39)]).bind fun x40 =>
 (A9 2 [x40]).bind fun x41 =>
 AQ (B4 (AA Dl 2 16 x37 x41 H34)) fun x42 H43 =>
 (Ag r_9).bind fun x44 =>
 (Ac 6 x44).bind fun x45 =>
 bK H0 (Au (Af 1 x45 x42 H43)) fun _ H47 =>
 rK H0 (.tup []) H47
theorem node_loop {v w : Ab} (h : RDx b0 p b a bx N st v w H) (ha : a ≤ b.length) (hb : b.length < 1152921504606846976) {level : Int} (h1 : 1 ≤ level) (h2 : level ≤ 1329) (hll : st.lines.length < 3000000000000) (H0 : Aa) (x : Nd) (hx : x.lv = level) (rest : List UInt8) (hr : rest.length ≤ 100) :
  Ao (fun rec1 vs H1 => Sh.f3x H0 rec1 (ag vs 0) (ag vs 1) (ag vs 2) (ag vs 3) H1) AC [.ptr p 0 0, .ptr H.length 0 0, .str rest, .int .i64 0] (H ++ [.cel 0 (cNd x)]) =
   match EV b st.lines level 4 0 a x rest with
   | (some e, c, x') => some (.pan (hv e), AO H p b (rdR bx N st.law v w) c ++ [.cel 0 (cNd x')])
   | (none, c, x') => nodeT H0 (.ptr p 0 0) (.ptr H.length 0 0) (AO H p b (rdR bx N st.law v w) c ++ [.cel 0 (cNd x')]) := by
 have key := AM (G := fun rec1 vs H1 => Sh.f3x H0 rec1 (ag vs 0) (ag vs 1) (ag vs 2) (ag vs 3) H1) (σ := Nat × Nat × Nd × List UInt8) (fun s => s.1 ≤ 4 ∧ s.2.1 ≤ b.length ∧ s.2.2.1.lv = level ∧ s.2.2.2.length ≤ 100)
  (fun s => [.ptr p 0 0, .ptr H.length 0 0, .str s.2.2.2, .int .i64 (s.1 : Int)]) (fun s => AO H p b (rdR bx N st.law v w) s.2.1 ++ [.cel 0 (cNd s.2.2.1)]) (fun s => 4 - s.1)
  (fun s => match EV b st.lines level (4 - s.1) s.1 s.2.1 s.2.2.1 s.2.2.2 with
   | (some e, c, x') => some (.pan (hv e), AO H p b (rdR bx N st.law v w) c ++ [.cel 0 (cNd x')])
   | (none, c, x') => nodeT H0 (.ptr p 0 0) (.ptr H.length 0 0) (AO H p b (rdR bx N st.law v w) c ++ [.cel 0 (cNd x')])) (fun s rec hi hrec => ?_) (0, a, x, rest) ⟨by simp, ha, hx, hr⟩ (by dsimp only; omega)
 ·rw [BV h.lx] at key; exact key
 ·obtain ⟨k, i, x, rest⟩ := s
  obtain ⟨i0, i1, i2, i3⟩ := hi
  dsimp only at i0 i1 i2 i3 hrec ⊢
  have hlen : ∀ c, (AO H p b (rdR bx N st.law v w) c).length = H.length := fun c => Ge H p c b _
  have hp := h.lt
  have hpp : ∀ c e (G : Aa), AO (AO H p b (rdR bx N st.law v w) c ++ G) p b (rdR bx N st.law v w) e = AO H p b (rdR bx N st.law v w) e ++ G := fun c e G => by
   rw [Ol (by rw [hlen]; exact hp), LU]
  have hR := fun c => (h.go c [.cel 0 (cNd x)]).1
  have hcell : ∀ c, (AO H p b (rdR bx N st.law v w) c ++ [Blk.cel 0 (cNd x)])[H.length]? = some (.cel 0 (cNd x)) := fun c => by rw [← hlen c]; exact AG
  unfold Sh.f3x
  by_cases hk : k < 4
  ·have hk' : (k : Int) < 4 := by omega
   have hcat : Ae .none .add (.str [48]) (.str rest) = some (.str (48 :: rest)) := BJ (by simp only [List.length_cons, List.length_nil]; omega)
   have hmust := NG (hR i).lx i1 hb [32] (48 :: rest) (by decide) (by simp only [List.length_cons]; omega)
   rw [hpp] at hmust
   have e : (B7 b i [32] (48 :: rest)).2 ≤ b.length := FK i1 [32]
   rw [show 4 - k = (3 - k) + 1 by omega]
   unfold EV
   simp only [hk', GMb, GMc, HPa, HPc, HPd, HPe, HPz, Nat.reduceAdd, Nat.reduceLT, hcat, hmust]
   generalize B7 b i [32] (48 :: rest) = M at e
   obtain ⟨er, c⟩ := M
   dsimp only at e ⊢
   cases er with
   | some e => simp only [B1, GMb, GMc, HPa, HPc, HPd, HPe, HPz, Nat.reduceAdd, Nat.reduceLT]
   | none =>
    obtain ⟨y, k1, k2⟩ := rd_kid (hR c) e hb h1 h2 hll rest (by omega)
    have h3 := kidS_le e st.lines level rest
    rw [hpp] at k1
    have hlv := Hr (hcell c)
    rw [i2] at hlv
    simp only [BA, GMb, GMc, HPa, HPc, HPd, HPe, HPz, Nat.reduceAdd, Nat.reduceLT, hlv, k1]
    generalize L2 b c st.lines level rest = M at h3 k2
    obtain ⟨er, c', n⟩ := M
    dsimp only at h3 k2 ⊢
    cases er with
    | some e => simp only [B1, GMb, GMc, HPa, HPc, HPd, HPe, HPz, Nat.reduceAdd, Nat.reduceLT]
    | none =>
     obtain rfl := k2 rfl
     have hst := Cg (c := (n : Int)) (hcell c') hk
     rw [← hlen c', Cd, hlen c'] at hst
     have hmin : GH ND (.int .i64 2) [.int .i64 (rest.length : Int)] = some (.int .i64 ((min 2 rest.length : Nat) : Int)) := by rw [min_int]; congr 2; omega
     have hdr : rest.drop (min 2 rest.length) = rest.drop 2 := by
      by_cases hl : 2 ≤ rest.length
      ·rw [Nat.min_eq_left hl]
      ·rw [List.drop_of_length_le (by omega), List.drop_of_length_le (by omega)]
     have := hrec (k + 1, c', x.setKid k (n : Int), rest.drop 2) ⟨by dsimp only; omega, by dsimp only; omega, by rw [C8]; exact i2, by simp only [List.length_drop]; omega⟩ (by dsimp only; omega)
     dsimp only at this
     rw [show 4 - (k + 1) = 3 - k by omega] at this
     simp only [BA, GMb, GMc, HPa, HPc, HPd, HPe, HPz, Nat.reduceAdd, Nat.reduceLT, C0 hk, hst, hmin, Cz (show min 2 rest.length ≤ rest.length by omega), hdr, Ar (show k < 9223372036854775807 by omega)]
     exact this
  ·have hk' : ¬ (k : Int) < 4 := by omega
   rw [show 4 - k = 0 by omega]
   unfold EV nodeT
   simp only [hk', GMb, GMc, HPa, HPc, HPd, HPe, HPz, Nat.reduceAdd, Nat.reduceLT]
theorem rd_node (h : RD b0 p b a bx N st H) (ha : a ≤ b.length) (hb : b.length < 1152921504606846976) (hn : st.nodes.length < 3000000000000) (hll : st.lines.length < 3000000000000) : OZ b0 p b bx N H (Sh.f29 (.ptr p 0 0) H) (.tup []) (NA b a st) := by
 obtain ⟨v, w, h⟩ := h
 unfold Sh.f29 OZ NA
 have hlev := lx_level h.lx ha hb
 have hle : (BK b a).2.1 ≤ b.length := by
  unfold BK
  split
  ·exact ha
  ·exact (NH b _ a 0 ha).2
 have hok : (BK b a).1 = none → 0 < (BK b a).2.2 ∧ (BK b a).2.2 ≤ 1329 := by
  unfold BK
  split
  ·intro e; cases e
  ·intro e; exact levF_ok b _ a 0 (by omega) ha (by omega) e
 simp only [hlev]
 generalize BK b a = M at hle hok
 obtain ⟨er, c, lv⟩ := M
 dsimp only at hle hok ⊢
 obtain ⟨h1, e1⟩ := h.go0 c
 cases er with
 | some e =>
  simp only [B1, GMb, GMc, HPa, HPc, HPd, HPe, HPz, Nat.reduceAdd, Nat.reduceLT]
  exact ⟨_, rfl, e1, _, _, h1⟩
 | none =>
  obtain ⟨l1, l2⟩ := hok rfl
  have hbd : Ay (some [(.int .i64 0), (.int .i64 0), (.int .i64 0), (.int .i64 0), (.int .i64 0)]) [(0, 1, .int .i64 (lv : Int))] = some (.agg (cNd ⟨(lv : Int), 0, 0, 0, 0⟩)) := rfl
  have hloop := node_loop h1 hle hb (level := (lv : Int)) (by omega) (by omega) hll H ⟨(lv : Int), 0, 0, 0, 0⟩ rfl [32, 48, 32, 48, 32, 48] (by decide)
  simp only [BA, GMb, GMc, hbd, F7, Ej (AG (cs := cNd nd0)) rfl, Cd]
  rw [hloop]
  have hkl := Rf b st.lines (lv : Int) 4 0 c ⟨(lv : Int), 0, 0, 0, 0⟩ [32, 48, 32, 48, 32, 48] hle
  generalize EV b st.lines (lv : Int) 4 0 c ⟨(lv : Int), 0, 0, 0, 0⟩ [32, 48, 32, 48, 32, 48] = M at hkl
  obtain ⟨er, c', x⟩ := M
  dsimp only at hkl ⊢
  obtain ⟨h2, e2⟩ := h1.go c' [.cel 0 (cNd x)]
  cases er with
  | some e => exact ⟨_, rfl, e1.trans e2, _, _, h2⟩
  | none =>
   dsimp only
   have hlen : (AO (AO H p b (rdR bx N st.law v w) c) p b (rdR bx N st.law v w) c').length = (AO H p b (rdR bx N st.law v w) c).length := Ge _ _ _ _ _
   have hcell : (AO (AO H p b (rdR bx N st.law v w) c) p b (rdR bx N st.law v w) c' ++ [Blk.cel 0 (cNd x)])[(AO H p b (rdR bx N st.law v w) c).length]? = some (.cel 0 (cNd x)) := by rw [← hlen]; exact AG
   have hqp : (AO H p b (rdR bx N st.law v w) c).length ≠ p := by have := h1.lt; omega
   have hld1 := Bf (o := 6) (sz := 1) h2.lx
   generalize AO (AO H p b (rdR bx N st.law v w) c) p b (rdR bx N st.law v w) c' ++ [Blk.cel 0 (cNd x)] = H2 at *
   generalize (AO H p b (rdR bx N st.law v w) c).length = q at *
   obtain ⟨H3, s1, s2, v3, s3⟩ := rd_put (w := w) ⟨v, h2⟩ x hn
   have hcell3 := s2.cel q _ hqp hcell
   have hld2 := Bf (o := 6) (sz := 1) s3.lx
   obtain ⟨w4, H4, t1, t2, t3, t4⟩ := rd_line s3 (st.nodes.length + 1, (lv : Int)) hll
   have hl1 := Hr hcell
   have hl2 := Hr hcell3
   rw [hkl.2.2] at hl1 hl2
   unfold nodeT
   simp only [GMb, GMc, HPa, HPc, HPd, HPe, HPz, Nat.reduceAdd, Nat.reduceLT, D3 hcell, s1, hld1, hld2, rdR, hl1, hl2, build_ln, Th, t1, t2]
   exact ⟨_, rfl, ((e1.trans e2).trans s2).trans t3, t4⟩

end
end Go.Gm
namespace Go.Gm
theorem Sy {b : List UInt8} {i : Nat} (h : i < b.length) (s : List UInt8) : Aq b i s = s.contains b[i] := by
 unfold Aq; rw [List.getElem?_eq_getElem h]
structure Nt (b : List UInt8) (a : Nat) (st : MSt) (s : (Er × Nat) × MSt) : Prop where
 le : s.1.2 ≤ b.length
 go : s.1.1 = none → a < s.1.2
 nd : s.2.nodes.length ≤ st.nodes.length + 21
 ln : s.2.lines.length ≤ st.lines.length + 1
theorem markS_ok {b : List UInt8} {a : Nat} (ha : a < b.length) (st : MSt) : Nt b a st (NF b a st) := by
 have hle : a + 1 ≤ b.length := ha
 unfold NF
 split
 ·exact ⟨PX hle, fun _ => by show a < F6 b (a + 1); unfold F6; omega, by dsimp only; omega, by dsimp only; omega⟩
 ·split
  ·have hM := FK hle [71, 32]
   have hG := litN_ge b (a + 1) [71, 32]
   have e : (B7 b (a + 1) [71, 32] [49]).2 = Fv b (a + 1) [71, 32] := rfl
   generalize B7 b (a + 1) [71, 32] [49] = M at e
   obtain ⟨er, c⟩ := M
   dsimp only at e
   subst e
   cases er with
   | some e => exact ⟨hM, fun h => (by cases h), by dsimp only; omega, by dsimp only; omega⟩
   | none => have := intS_le hM false []; exact ⟨by dsimp only; omega, fun _ => by dsimp only; omega, by dsimp only; omega, by dsimp only; omega⟩
  ·split
   ·have hM := FK hle [82, 32]
    have hG := litN_ge b (a + 1) [82, 32]
    have e : (B7 b (a + 1) [82, 32] [97]).2 = Fv b (a + 1) [82, 32] := rfl
    generalize B7 b (a + 1) [82, 32] [97] = M at e
    obtain ⟨er, c⟩ := M
    dsimp only at e
    subst e
    cases er with
    | some e => exact ⟨hM, fun h => (by cases h), by dsimp only; omega, by dsimp only; omega⟩
    | none =>
     dsimp only
     have := rulS_le (rest := []) hM
     generalize Ic b (Fv b (a + 1) [82, 32]) [] = M at this
     obtain ⟨er, d⟩ := M
     dsimp only at this
     cases er with
     | some e => exact ⟨this.2, fun h => (by cases h), by dsimp only; omega, by dsimp only; omega⟩
     | none => exact ⟨this.2, fun _ => by dsimp only; omega, by dsimp only; omega, by dsimp only; omega⟩
   ·exact ⟨hle, fun h => (by cases h), by dsimp only; omega, by dsimp only; omega⟩
theorem leafS_ok {b : List UInt8} {a : Nat} (ha : a < b.length) (st : MSt) (hs : Aq b a [46, 42, 36] = true) : Nt b a st (NJ b a st) := by
 unfold NJ
 have hle := Gj b (b.length + 1 - a) a 0 0 (List.replicate 64 false) (by omega)
 have hgo : (CR b (b.length + 1 - a) a 0 0 (List.replicate 64 false)).1 = none → a < (CR b (b.length + 1 - a) a 0 0 (List.replicate 64 false)).2.1 := by
  rw [show b.length + 1 - a = (b.length - a) + 1 by omega]
  unfold CR
  rw [hs]
  simp only [if_true]
  split
  ·intro h; cases h
  ·split
   ·have := Gj b (b.length - a) (a + 1) 0 (0 + 1) (List.replicate 64 false) (by omega); intro _; omega
   ·have := Gj b (b.length - a) (a + 1) (0 + 1) 0 ((List.replicate 64 false).set (0 * 8 + 0) (Aq b a [42])) (by omega); intro _; omega
 generalize CR b (b.length + 1 - a) a 0 0 (List.replicate 64 false) = R at hle hgo
 obtain ⟨er, c, on⟩ := R
 cases er with
 | some e => exact ⟨hle.2.1, fun h => (by cases h), by dsimp only; omega, by dsimp only; omega⟩
 | none =>
  have := LT (onQ on) 3 0 0 st.nodes
  rw [show sqM 3 = 21 from rfl] at this
  exact ⟨hle.2.1, fun _ => hgo rfl, this, by simp⟩
theorem nodeS_ok {b : List UInt8} {a : Nat} (ha : a < b.length) (st : MSt) : Nt b a st (NA b a st) := by
 unfold NA
 have hle : (BK b a).2.1 ≤ b.length := by
  unfold BK
  split
  ·exact Nat.le_of_lt ha
  ·exact (NH b _ a 0 (by omega)).2
 have hgo : (BK b a).1 = none → a < (BK b a).2.1 := by
  unfold BK
  split
  ·intro e; cases e
  ·rw [show b.length + 1 - a = (b.length - a) + 1 by omega]
   unfold Ht
   cases hs : Aq b a BI with
   | true =>
    simp only [if_true]
    split
    ·intro e; cases e
    ·have := NH b (b.length - a) (a + 1) (10 * 0 + Co b a) (by omega); intro _; omega
   | false => simp only [Bool.false_eq_true, if_false, if_true]; intro e; cases e
 generalize BK b a = M at hle hgo
 obtain ⟨er, c, lv⟩ := M
 dsimp only at hle hgo ⊢
 cases er with
 | some e => exact ⟨hle, fun h => (by cases h), by dsimp only; omega, by dsimp only; omega⟩
 | none =>
  have := hgo rfl
  have hkl := Rf b st.lines (lv : Int) 4 0 c ⟨(lv : Int), 0, 0, 0, 0⟩ [32, 48, 32, 48, 32, 48] hle
  dsimp only
  generalize EV b st.lines (lv : Int) 4 0 c ⟨(lv : Int), 0, 0, 0, 0⟩ [32, 48, 32, 48, 32, 48] = M at hkl
  obtain ⟨er, c', x⟩ := M
  dsimp only at hkl ⊢
  cases er with
  | some e => exact ⟨hkl.2.1, fun h => (by cases h), by dsimp only; omega, by dsimp only; omega⟩
  | none => exact ⟨hkl.2.1, fun _ => by dsimp only; omega, by simp, by simp⟩
theorem Ra {b : List UInt8} {a : Nat} (ha : a < b.length) (N : Int) (st : MSt) : Nt b a st (rlS b N a st) := by
 unfold rlS
 split
 ·exact markS_ok ha st
 ·split
  ·exact ⟨Nat.le_of_lt ha, fun h => (by cases h), by dsimp only; omega, by dsimp only; omega⟩
  ·split
   ·rename_i h; exact leafS_ok ha st h
   ·exact nodeS_ok ha st
theorem NW {b : List UInt8} {a : Nat} (ha : a ≤ b.length) (rest : List UInt8) : a ≤ (FO b a rest).2 ∧ (FO b a rest).2 ≤ b.length := by
 refine ⟨?_, eolN_le ha⟩
 show a ≤ MD b a
 unfold MD crN
 split
 ·exact Nat.le_refl _
 ·split <;> split <;> omega
theorem oneS_ok {b : List UInt8} {a : Nat} (ha : a < b.length) (N : Int) (st : MSt) : Nt b a st (QJ b N a st) := by
 unfold QJ
 have h := Ra ha N st
 generalize rlS b N a st = M at h
 obtain ⟨⟨er, c⟩, st'⟩ := M
 obtain ⟨h1, h2, h3, h4⟩ := h
 cases er with
 | some e => exact ⟨h1, h2, h3, h4⟩
 | none =>
  have := NW h1 []
  have := h2 rfl
  exact ⟨by dsimp only at *; omega, fun _ => by dsimp only at *; omega, h3, h4⟩
def endE (b : List UInt8) (s : (Er × Nat) × MSt) : (Er × Nat) × MSt := match s with
 | ((some e, c), st') => ((some e, c), st')
 | ((none, c), st') => (FO b c [], st')
theorem oneS_eq (b : List UInt8) (N : Int) (a : Nat) (st : MSt) : QJ b N a st = endE b (rlS b N a st) := rfl
section
variable {b0 p a : Nat} {b : List UInt8} {bx N : Int} {st : MSt} {H : Aa}
theorem one_end (hb : b.length < 1152921504606846976) {H0 : Aa} {x : Out} {s : (Er × Nat) × MSt} (he : OZ b0 p b bx N H x (.tup []) s) (hs : s.1.2 ≤ b.length) :
  OZ b0 p b bx N H (bK H0 x fun _ H' => Sh.f3y H0 (.ptr p 0 0) H') (.tup []) (endE b s) := by
 unfold endE
 obtain ⟨⟨er, c⟩, st'⟩ := s
 obtain ⟨H1, rfl, e1, h1⟩ := he
 dsimp only at hs e1 h1 ⊢
 cases er with
 | some e => exact ⟨H1, rfl, e1, h1⟩
 | none =>
  obtain ⟨v, w, h1⟩ := h1
  obtain ⟨h2, e2⟩ := h1.go0 (FO b c []).2
  have hx := lx_endS h1.lx hs hb [] (by decide)
  refine ⟨_, ?_, e1.trans e2, _, _, h2⟩
  unfold Sh.f3y
  simp only [BA, GMb, GMc, HPa, HPc, HPd, HPe, HPz, Nat.reduceAdd, Nat.reduceLT, hx]
  cases (FO b c []).1 <;> simp only [BA, B1, GMb, GMc, HPa, HPc, HPd, HPe, HPz, Nat.reduceAdd, Nat.reduceLT]
theorem rd_one (h : RD b0 p b a bx N st H) (ha : a < b.length) (hb : b.length < 1152921504606846976) (hn : st.nodes.length + 100 < 3000000000000) (hll : st.lines.length < 3000000000000) : OZ b0 p b bx N H (Sh.f2a (.ptr p 0 0) H) (.tup []) (QJ b N a st) := by
 have hok := Ra ha N st
 have key : ∀ x, OZ b0 p b bx N H x (.tup []) (rlS b N a st) → OZ b0 p b bx N H (bK H x fun _ H' => Sh.f3y H (.ptr p 0 0) H') (.tup []) (QJ b N a st) := fun x hx => one_end hb hx hok.le
 have hh := h
 obtain ⟨v, w, h⟩ := h
 have hle : a ≤ b.length := Nat.le_of_lt ha
 have hld6 := Bf (o := 6) (sz := 1) h.lx
 have hld3 := Bf (o := 3) (sz := 1) h.lx
 unfold Sh.f2a
 unfold rlS at key
 simp only [GMb, GMc, HPa, HPc, HPd, HPe, HPz, Nat.reduceAdd, Nat.reduceLT, Cs h.lx hle]
 cases h1 : Aq b a [35] with
 | true =>
  rw [h1] at key
  simp only [GMb, GMc, HPa, HPc, HPd, HPe, HPz, Nat.reduceAdd, Nat.reduceLT]
  exact key _ (rd_mark hh ha hb)
 | false =>
  rw [h1] at key
  simp only [GMb, GMc, HPa, HPc, HPd, HPe, HPz, Nat.reduceAdd, Nat.reduceLT, Cs h.lx hle, Bool.false_eq_true, if_false] at key ⊢
  cases h2 : Aq b a [46, 42, 36, 49, 50, 51, 52, 53, 54, 55, 56, 57] with
  | true =>
   rw [h2] at key
   by_cases h3 : (st.lines.length : Int) ≥ N
   ·simp only [GMb, GMc, HPa, HPc, HPd, HPe, HPz, Nat.reduceAdd, Nat.reduceLT, hld6, hld3, rdR, h.lines.len, h3, if_true] at key ⊢
    exact key (Sh.fb (.ptr p 0 0) H) ⟨H, rfl, Ext.refl _ _ _, hh⟩
   ·simp only [GMb, GMc, HPa, HPc, HPd, HPe, HPz, Nat.reduceAdd, Nat.reduceLT, hld6, hld3, rdR, h.lines.len, h3, Cs h.lx hle, Bool.false_eq_true, if_false] at key ⊢
    cases h4 : Aq b a [46, 42, 36] with
    | true =>
     rw [h4] at key
     simp only [GMb, GMc, HPa, HPc, HPd, HPe, HPz, Nat.reduceAdd, Nat.reduceLT]
     exact key _ (rd_leaf hh hle hb hn hll)
    | false =>
     rw [h4] at key
     simp only [GMb, GMc, HPa, HPc, HPd, HPe, HPz, Nat.reduceAdd, Nat.reduceLT]
     exact key _ (rd_node hh hle hb (by omega) hll)
  | false =>
   rw [h2] at key
   simp only [GMb, GMc, HPa, HPc, HPd, HPe, HPz, Nat.reduceAdd, Nat.reduceLT, Cs h.lx hle, Bool.false_eq_true, if_false] at key ⊢
   cases h4 : Aq b a [46, 42, 36] with
   | true =>
    rw [h4] at key
    simp only [GMb, GMc, HPa, HPc, HPd, HPe, HPz, Nat.reduceAdd, Nat.reduceLT]
    exact key _ (rd_leaf hh hle hb hn hll)
   | false =>
    rw [h4] at key
    simp only [GMb, GMc, HPa, HPc, HPd, HPe, HPz, Nat.reduceAdd, Nat.reduceLT]
    exact key _ (rd_node hh hle hb (by omega) hll)
theorem all_loop (hb : b.length < 1152921504606846976) (H0 : Aa) : ∀ (m a : Nat) (st : MSt) (H : Aa), a ≤ b.length → b.length - a < m → ∀ n, m ≤ n → st.nodes.length + 21 * (b.length - a) + 200 < 3000000000000 → st.lines.length + (b.length - a) + 200 < 3000000000000 → RD b0 p b a bx N st H →
  OZ b0 p b bx N H (Ao (fun rec1 vs H => Sh.f3z H0 rec1 (ag vs 0) H) n [.ptr p 0 0] H) (.tup []) (Dq b N m a st) := by
 intro m
 induction m with
 | zero => intro a st H _ h; omega
 | succ m ih =>
  intro a st H ha hm n hn h1 h2 h
  obtain ⟨n, rfl⟩ : ∃ k, n = k + 1 := ⟨n - 1, by omega⟩
  rw [El]
  generalize hg : Ao (fun rec1 vs H => Sh.f3z H0 rec1 (ag vs 0) H) n = rec
  have hh := h
  obtain ⟨v, w, h⟩ := h
  unfold Sh.f3z Dq
  simp only [GMb, GMc, HPa, HPc, HPd, HPe, HPz, Nat.reduceAdd, Nat.reduceLT, Ho h.lx]
  by_cases he : a = b.length
  ·simp only [he, GMb, GMc, HPa, HPc, HPd, HPe, HPz, Nat.reduceAdd, Nat.reduceLT, if_true]
   rw [he] at hh
   exact ⟨H, rfl, Ext.refl _ _ _, hh⟩
  ·have hlt : a < b.length := by omega
   obtain ⟨H1, r1, r2, r3⟩ := rd_one hh hlt hb (by omega) (by omega)
   have hok := oneS_ok hlt N st
   simp only [he, GMb, GMc, HPa, HPc, HPd, HPe, HPz, Nat.reduceAdd, Nat.reduceLT, r1, if_false]
   generalize QJ b N a st = M at r2 r3 hok
   obtain ⟨⟨er, c⟩, st'⟩ := M
   obtain ⟨k1, k2, k3, k4⟩ := hok
   dsimp only at r2 r3 k1 k2 k3 k4 ⊢
   cases er with
   | some e =>
    simp only [B1, GMb, GMc, HPa, HPc, HPd, HPe, HPz, Nat.reduceAdd, Nat.reduceLT]
    exact ⟨H1, rfl, r2, r3⟩
   | none =>
    have := k2 rfl
    obtain ⟨H2, s1, s2, s3⟩ := ih c st' H1 k1 (by omega) n (by omega) (by omega) (by omega) r3
    rw [hg] at s1
    simp only [BA, GMb, GMc, HPa, HPc, HPd, HPe, HPz, Nat.reduceAdd, Nat.reduceLT, s1]
    exact ⟨H2, rfl, r2.trans s2, s3⟩
theorem rd_all (h : RD b0 p b 0 bx N st H) (hb : b.length < 100000000000) (hn : st.nodes.length = 0) (hl : st.lines.length = 0) : OZ b0 p b bx N H (Sh.f1j (.ptr p 0 0) H) (.tup []) (Kb b N st) := by
 have hb' : b.length < 1152921504606846976 := by omega
 obtain ⟨v, w, h⟩ := h
 have hM := FK (Nat.zero_le b.length) CG
 have e : (B7 b 0 CG []).2 = Fv b 0 CG := rfl
 have hx := NG h.lx (Nat.zero_le _) hb' CG [] (by decide) (by decide)
 unfold Sh.f1j Kb
 unfold CG at hx
 rw [show B7 b 0 [91, 77, 50, 93] [] = B7 b 0 CG [] from rfl] at hx
 simp only [GMb, GMc, HPa, HPc, HPd, HPe, HPz, Nat.reduceAdd, Nat.reduceLT, hx]
 generalize B7 b 0 CG [] = M at e
 obtain ⟨er, c⟩ := M
 dsimp only at e ⊢
 subst e
 obtain ⟨h1, e1⟩ := h.go0 (Fv b 0 CG)
 cases er with
 | some e =>
  simp only [B1, GMb, GMc, HPa, HPc, HPd, HPe, HPz, Nat.reduceAdd, Nat.reduceLT]
  exact ⟨_, rfl, e1, _, _, h1⟩
 | none =>
  have hany := PX hM
  obtain ⟨h2, e2⟩ := h1.go0 (F6 b (Fv b 0 CG))
  have hx2 := lx_endS h2.lx hany hb' [] (by decide)
  simp only [BA, GMb, GMc, HPa, HPc, HPd, HPe, HPz, Nat.reduceAdd, Nat.reduceLT, lx_any h1.lx hM hb', hx2]
  have hle := NW hany []
  generalize FO b (F6 b (Fv b 0 CG)) [] = M at hle
  obtain ⟨er, d⟩ := M
  dsimp only at hle ⊢
  obtain ⟨h3, e3⟩ := h2.go0 d
  cases er with
  | some e =>
   simp only [B1, GMb, GMc, HPa, HPc, HPd, HPe, HPz, Nat.reduceAdd, Nat.reduceLT]
   exact ⟨_, rfl, (e1.trans e2).trans e3, _, _, h3⟩
  | none =>
   simp only [BA, GMb, GMc, HPa, HPc, HPd, HPe, HPz, Nat.reduceAdd, Nat.reduceLT]
   obtain ⟨H4, r1, r2, r3⟩ := all_loop (b0 := b0) (p := p) (bx := bx) (N := N) hb' H (b.length + 1) d st _ hle.2 (by omega) AC (by rw [Dk]; omega) (by omega) (by omega) ⟨_, _, h3⟩
   rw [r1]
   exact ⟨H4, rfl, ((e1.trans e2).trans e3).trans r2, r3⟩
def SJ (er : Er) : Ab := match er with
 | none => .agg [.int .i64 0, .str []]
 | some e => .agg [.int .i64 e.1, .str e.2]
theorem S3 (h : RD b0 p b 0 bx N st H) (hb : b.length < 100000000000) (hn : st.nodes.length = 0) (hl : st.lines.length = 0) : ∃ H', Sh.f1k (.bfn 21 [.ptr p 0 0]) H = some (.ret (SJ (Kb b N st).1.1), H') ∧ Ext b0 p H H' ∧ RD b0 p b (Kb b N st).1.2 bx N (Kb b N st).2 H' := by
 obtain ⟨H1, r1, r2, r3⟩ := rd_all h hb hn hl
 refine ⟨H1, ?_, r2, r3⟩
 have ho : ent 21 (ap1 Sh.f1j) noO 21 [.ptr p 0 0] H = Sh.f1j (.ptr p 0 0) H := by
  unfold ent; rw [if_pos rfl]; rfl
 unfold Sh.f1k PU
 simp only [ho, r1, GMb, GMc]
 cases (Kb b N st).1.1 with
 | none => rfl
 | some e => rfl

end
end Go.Gm
namespace Go.Gm
theorem c05_kid {L : List Nd} {tk : Tok} {i : Nat} (hi : i < L.length) (h1 : 1 ≤ L[i].lv) (h2 : L[i].lv ≤ 1329) (c : Int) (H : Aa) (hL : L.length < 1152921504606846976) : Sh.f2b (.sl (enL cNd L) tk) (.int .i64 (i : Int)) (.int .i64 c) H = some (.ret (.bool (Cm L i L[i] c)), H) := by
 unfold Sh.f2b
 simp only [GMb, GMc, HPa, HPc, HPd, HPe, HPz, Nat.reduceAdd, Nat.reduceLT, A2 hi, G8, Ba, BE, By, BC]
 generalize L[i] = x at h1 h2
 by_cases hc : c = 0
 ·have : Cm L i x c = true := by
   unfold Cm
   simp only [Bool.and_eq_true, decide_eq_true_eq]; exact ⟨⟨by omega, fun _ => by omega⟩, fun _ h => by omega⟩
  rw [this]
  simp only [hc, GMb, GMc, HPa, HPc, HPd, HPe, HPz, Nat.reduceAdd, Nat.reduceLT]
 ·simp only [hc, GMb, GMc, HPa, HPc, HPd, HPe, HPz, Nat.reduceAdd, Nat.reduceLT, Ba]
  by_cases hl : x.lv = 1
  ·have : Cm L i x c = (decide (c > 0) && decide (c ≤ 255)) := by
    unfold Cm
    rw [Bool.eq_iff_iff]; simp only [Bool.and_eq_true, decide_eq_true_eq]
    exact ⟨fun h => ⟨by omega, h.1.2 hl⟩, fun h => ⟨⟨by omega, fun _ => h.2⟩, fun h' => by omega⟩⟩
   rw [this]
   by_cases h0 : c > 0
   ·simp only [hl, h0, GMb, GMc, HPa, HPc, HPd, HPe, HPz, Nat.reduceAdd, Nat.reduceLT]
   ·simp only [hl, h0, GMb, GMc, HPa, HPc, HPd, HPe, HPz, Nat.reduceAdd, Nat.reduceLT]
  ·simp only [hl, GMb, GMc, HPa, HPc, HPd, HPe, HPz, Nat.reduceAdd, Nat.reduceLT]
   by_cases h0 : c > 0
   ·by_cases hci : c ≤ (i : Int)
    ·obtain ⟨m, rfl⟩ : ∃ m : Nat, c = ((m + 1 : Nat) : Int) := ⟨(c - 1).toNat, by omega⟩
     have hm : m < L.length := by omega
     have hw : IntKind.i64.wrap (((m + 1 : Nat) : Int) - 1) = (m : Int) := by rw [A1] <;> omega
     have hw2 : IntKind.i64.wrap (x.lv - 1) = x.lv - 1 := A1 (by omega) (by omega)
     have : Cm L i x ((m + 1 : Nat) : Int) = decide (L[m].lv = x.lv - 1) := by
      unfold Cm
      rw [Bool.eq_iff_iff]; simp only [Bool.and_eq_true, decide_eq_true_eq, show (((m + 1 : Nat) : Int) - 1).toNat = m by omega, List.getElem?_eq_getElem hm, Option.some.injEq]
      exact ⟨fun h => (h.2 (by omega) h0).2 _ rfl, fun h => ⟨⟨by omega, fun h' => absurd h' hl⟩, fun _ _ => ⟨hci, fun y e => by rw [← e]; exact h⟩⟩⟩
     rw [this]
     simp only [h0, hci, GMb, GMc, HPa, HPc, HPd, HPe, HPz, Nat.reduceAdd, Nat.reduceLT, hw, hw2, A2 hm, Am, Aw, Ba]
    ·have : Cm L i x c = false := by
      unfold Cm
      rw [Bool.and_eq_false_iff]; right
      rw [decide_eq_false_iff_not]; intro h; exact hci (h (by omega) h0).1
     rw [this]
     simp only [h0, hci, GMb, GMc, HPa, HPc, HPd, HPe, HPz, Nat.reduceAdd, Nat.reduceLT]
   ·have : Cm L i x c = false := by
     unfold Cm
     rw [Bool.and_eq_false_iff, Bool.and_eq_false_iff]; left; left
     rw [decide_eq_false_iff_not]; omega
    rw [this]
    simp only [h0, GMb, GMc, HPa, HPc, HPd, HPe, HPz, Nat.reduceAdd, Nat.reduceLT]
theorem c05_loose (L : List Nd) (tk : Tok) (H : Aa) (hL : L.length < 1152921504606846976) : Sh.f2c (.sl (enL cNd L) tk) H = some (.ret (.bool (AD L)), H) := by
 unfold Sh.f2c
 rw [show AD L = (List.range L.length).all (DS L) from rfl]
 simp only [GMb, GMc, HPa, HPc, HPd, HPe, HPz, Nat.reduceAdd, Nat.reduceLT, A5]
 have key : ∀ (d i : Nat) (G : Aa), i + d = L.length → (∀ j, j < i → DS L j = true) → ∀ n, d < n → Ao (fun rec1 vs H1 => Sh.f1l H rec1 (ag vs 0) (ag vs 1) (ag vs 2) (ag vs 3) H1) n [.sl (enL cNd L) tk, .sl (enL cNd L) tk, .int .i64 (L.length : Int), .int .i64 (i : Int)] (H ++ G) = some (.ret (.bool ((List.range L.length).all (DS L))), H) := by
  intro d
  induction d with
  | zero =>
   intro i G hi hall n hn
   obtain ⟨n, rfl⟩ : ∃ k, n = k + 1 := ⟨n - 1, by omega⟩
   have : (List.range L.length).all (DS L) = true := by
    rw [List.all_eq_true]; intro j hj; exact hall j (by have := List.mem_range.1 hj; omega)
   rw [El, this]
   generalize Ao (fun rec1 vs H1 => Sh.f1l H rec1 (ag vs 0) (ag vs 1) (ag vs 2) (ag vs 3) H1) n = rec
   unfold Sh.f1l
   have hi' : ¬ (i : Int) < (L.length : Int) := by omega
   simp only [GMb, GMc, HPa, HPc, HPd, HPe, HPz, Nat.reduceAdd, Nat.reduceLT, hi']
  | succ d ih =>
   intro i G hi hall n hn
   obtain ⟨n, rfl⟩ : ∃ k, n = k + 1 := ⟨n - 1, by omega⟩
   have hlt : i < L.length := by omega
   have hi' : (i : Int) < (L.length : Int) := by omega
   rw [El]
   have hno : DS L i = false → (List.range L.length).all (DS L) = false := fun h => by rw [List.all_eq_false]; exact ⟨i, by simpa using hlt, by simp [h]⟩
   have hyes : DS L i = true → ∀ G', Ao (fun rec1 vs H1 => Sh.f1l H rec1 (ag vs 0) (ag vs 1) (ag vs 2) (ag vs 3) H1) n [.sl (enL cNd L) tk, .sl (enL cNd L) tk, .int .i64 (L.length : Int), .int .i64 ((i + 1 : Nat) : Int)] (H ++ G') = some (.ret (.bool ((List.range L.length).all (DS L))), H) := fun h G' => ih (i + 1) G' (by omega) (fun j hj => by
    by_cases e : j = i
    ·rw [e]; exact h
    ·exact hall j (by omega)) n (by omega)
   generalize Ao (fun rec1 vs H1 => Sh.f1l H rec1 (ag vs 0) (ag vs 1) (ag vs 2) (ag vs 3) H1) n = rec at hyes
   unfold Sh.f1l
   have hg : L[i]? = some L[i] := List.getElem?_eq_getElem hlt
   simp only [GMb, GMc, HPa, HPc, HPd, HPe, HPz, Nat.reduceAdd, Nat.reduceLT, Al, hi', A2 hlt, G8, Ba, BE, By, BC]
   by_cases h1 : L[i].lv < 1
   ·have : DS L i = false := by simp only [DS, hg]; simp; intro; omega
    rw [hno this]
    simp only [h1, GMb, GMc, HPa, HPc, HPd, HPe, HPz, Nat.reduceAdd, Nat.reduceLT]
   ·by_cases h2 : L[i].lv > 1329
    ·have : DS L i = false := by simp only [DS, hg]; simp; intro; omega
     rw [hno this]
     simp only [h1, h2, GMb, GMc, HPa, HPc, HPd, HPe, HPz, Nat.reduceAdd, Nat.reduceLT, Ba, BE, By, BC]
    ·have hd : DS L i = (List.range 4).all fun k => Cm L i L[i] (L[i].kid k) := by
      simp only [DS, hg]; rw [decide_eq_true (by omega)]; rfl
     simp only [h1, h2, GMb, GMc, HPa, HPc, HPd, HPe, HPz, Nat.reduceAdd, Nat.reduceLT, Ba, BE, By, BC]
     have := DU 4 (fun k => Cm L i L[i] (L[i].kid k)) (fun k => [.sl (enL cNd L) tk, .int .i64 (i : Int), .sl (enL cNd L) tk, .int .i64 (L.length : Int), .int .i64 (i : Int), .agg (GC L[i]), .int .i64 (k : Int)]) (H ++ (G ++ [.cel 0 (cNd L[i])])) (rec [.sl (enL cNd L) tk, .sl (enL cNd L) tk, .int .i64 (L.length : Int), .int .i64 ((i + 1 : Nat) : Int)] (H ++ (G ++ [.cel 0 (cNd L[i])]))) (some (.ret (.bool false), H)) (by decide) (fun rec2 k hk => ?_) (fun rec2 => ?_)
      (G := fun rec2 vs H1 => Sh.f40 H rec rec2 (ag vs 0) (ag vs 1) (ag vs 2) (ag vs 3) (ag vs 4) (ag vs 5) (ag vs 6) H1)
     ·refine this.trans ?_
      rw [← hd]
      cases hb : DS L i with
      | true => simp only [if_true]; exact hyes hb _
      | false => simp only [Bool.false_eq_true, if_false]; rw [hno hb]
     ·have hk' : (k : Int) < 4 := by omega
      unfold Sh.f40
      simp only [GMb, GMc, HPa, HPc, HPd, HPe, HPz, Nat.reduceAdd, Nat.reduceLT, Al, hk', ag_kid _ hk, c05_kid hlt (by omega) (by omega) (L[i].kid k) _ hL]
      cases Cm L i L[i] (L[i].kid k) with
      | true => simp only [GMb, GMc, HPa, HPc, HPd, HPe, HPz, Nat.reduceAdd, Nat.reduceLT, Ar (show k < 9223372036854775807 by omega), if_true]
      | false => simp only [GMb, GMc, HPa, HPc, HPd, HPe, HPz, Nat.reduceAdd, Nat.reduceLT, Bool.false_eq_true, if_false]
     ·unfold Sh.f40
      simp only [GMb, GMc, HPa, HPc, HPd, HPe, HPz, Nat.reduceAdd, Nat.reduceLT, Al, show ¬ (((4 : Nat) : Int) < 4) from by decide, Ar (show i < 9223372036854775807 by omega)]
 have := key L.length 0 [] (by omega) (fun j hj => by omega) AC (by rw [Dk]; exact hL)
 rw [List.append_nil] at this
 exact this
end Go.Gm
namespace Go.Gm
def OJ (F : List Bool) (x : Nd) (k : Nat) : Bool := !decide (x.kid k = 0) && (decide (x.lv = 1) || F.getD (x.kid k).toNat false)
def fulS (F : List Bool) (x : Nd) : Bool := (List.range 4).any (OJ F x)
theorem ful_emp {E : List Bool} {x : Nd} (h1 : 1 ≤ x.lv) (hE : ∀ k, k < 4 → 1 < x.lv → (x.kid k).toNat < E.length) : fulS (E.map (!·)) x = !No E x := by
 unfold fulS No
 have each : ∀ k, k < 4 → OJ (E.map (!·)) x k = !(decide (x.kid k = 0) || (decide (1 < x.lv) && E.getD (x.kid k).toNat true)) := by
  intro k hk
  unfold OJ
  by_cases hl : x.lv = 1
  ·have : ¬ 1 < x.lv := by omega
   simp [hl]
  ·have hl1 : 1 < x.lv := by omega
   have := hE k hk hl1
   simp [hl, hl1, List.getD_eq_getElem?_getD, List.getElem?_eq_getElem this]
 show ((OJ _ x 0 || (OJ _ x 1 || (OJ _ x 2 || (OJ _ x 3 || false))))) = !(_ && (_ && (_ && (_ && true))))
 rw [each 0 (by omega), each 1 (by omega), each 2 (by omega), each 3 (by omega)]
 simp only [Bool.not_and, Bool.not_true]
theorem c05_full1 {H : Aa} {pn po q m : Nat} {x : Nd} {F : List Bool} (hn : H[pn]? = some (.cel 0 (cNd x))) (ho : H[po]? = some (.cel 0 [.ms q 0 0 m m 1 true])) (hq : H[q]? = some (.cel 0 (flat cB F))) (hm : F.length = m) {k : Nat} (hk : k < 4) (h0 : 0 ≤ x.kid k) (hb : x.lv ≠ 1 → x.kid k ≠ 0 → (x.kid k).toNat < m) :
  Sh.f3a (.int .i64 (x.kid k)) (.ptr pn 0 0) (.ptr po 0 0) H = some (.ret (.bool (OJ F x k)), H) := by
 have l1 := Hr hn
 have l2 := Bf (o := 0) (sz := 1) ho
 unfold Sh.f3a OJ
 by_cases hc : x.kid k = 0
 ·simp only [hc, GMb, GMc, HPa, HPc, HPd, HPe, HPz, Nat.reduceAdd, Nat.reduceLT]
 ·by_cases hl : x.lv = 1
  ·simp only [hc, hl, l1, GMb, GMc, HPa, HPc, HPd, HPe, HPz, Nat.reduceAdd, Nat.reduceLT]
  ·have hlt := hb hl hc
   obtain ⟨c, hcc⟩ : ∃ c : Nat, x.kid k = (c : Int) := ⟨(x.kid k).toNat, by omega⟩
   rw [hcc, Int.toNat_natCast] at hlt
   have hi := ED (sz := 1) (id := q) (g := 0) (off := 0) (n := m) (cap := m) (ex := true) (K := .i64) hlt
   have hld := G9 (f := cB) (l := F) (Bc hq) (show c < F.length by omega)
   simp only [Nat.zero_add, Nat.mul_one] at hi
   rw [hcc] at hc ⊢
   simp only [hc, hl, l1, l2, GMb, GMc, HPa, HPc, HPd, HPe, HPz, Nat.reduceAdd, Nat.reduceLT, hi, hld, Int.toNat_natCast, List.getD_eq_getElem?_getD, List.getElem?_eq_getElem (show c < F.length by omega), Option.getD_some, List.getElem?_cons_zero]
theorem c05_any {H : Aa} {pn po q m : Nat} {x : Nd} {F : List Bool} (hn : H[pn]? = some (.cel 0 (cNd x))) (ho : H[po]? = some (.cel 0 [.ms q 0 0 m m 1 true])) (hq : H[q]? = some (.cel 0 (flat cB F))) (hm : F.length = m) (h0 : ∀ k, k < 4 → 0 ≤ x.kid k) (hb : ∀ k, k < 4 → x.lv ≠ 1 → x.kid k ≠ 0 → (x.kid k).toNat < m) :
  Sh.f2e (.ms pn 0 1 4 4 1 true) (.fn 110 [.ptr pn 0 0, .ptr po 0 0]) H = some (.ret (.bool (fulS F x)), H) := by
 unfold Sh.f2e Sh.f3b
 simp only [GMb, GMc, len_ms, show ((4 : Nat) : Int) = 4 from rfl]
 have key := Is (G := fun rec1 vs H1 => Sh.f41 H rec1 (ag vs 0) (ag vs 1) (ag vs 2) (ag vs 3) H1) 4 (OJ F x) (fun k => [.ms pn 0 1 4 4 1 true, .fn 110 [.ptr pn 0 0, .ptr po 0 0], .int .i64 4, .int .i64 (k : Int)]) H (some (.ret (.int .i64 (-1)), H)) (fun k => some (.ret (.int .i64 (k : Int)), H)) (by decide) (fun rec k hk => ?_) (fun rec => ?_)
 ·rw [show (((0 : Nat) : Int)) = 0 from rfl] at key
  rw [key]
  cases hf : (List.range 4).find? (OJ F x) with
  | none =>
   have : fulS F x = false := by
    unfold fulS
    rw [List.any_eq_false]
    intro k hk
    exact List.find?_eq_none.1 hf k hk
   simp only [GMb, GMc, this, show decide ((-1 : Int) ≥ 0) = false from by decide]
  | some k =>
   have : fulS F x = true := by
    unfold fulS
    rw [List.any_eq_true]
    exact ⟨k, List.mem_of_find?_eq_some hf, List.find?_some hf⟩
   simp only [GMb, GMc, this, show decide ((k : Int) ≥ 0) = true from by simp]
 ·have hk' : (k : Int) < 4 := by omega
  have hi := ED (sz := 1) (id := pn) (g := 0) (off := 1) (n := 4) (cap := 4) (ex := true) (K := .i64) hk
  have hld := SE hn hk
  have hfull := c05_full1 hn ho hq hm hk (h0 k hk) (hb k hk)
  simp only [Nat.mul_one] at hi
  unfold Sh.f41 BN
  simp only [GMb, GMc, Al, hk', hi, hld, Te, ent, if_true, List.cons_append, List.nil_append, ap3, hfull]
  cases OJ F x k with
  | true => simp only [GMb, GMc, if_true]
  | false => simp only [GMb, GMc, Bool.false_eq_true, if_false, Ar (show k < 9223372036854775807 by omega)]
 ·unfold Sh.f41
  simp only [GMb, GMc, Al, show ¬ (((4 : Nat) : Int) < 4) from by decide]
theorem map_take_not (L : List Nd) (i : Nat) (hi : i < L.length) : ((Az (L.take i)).map (!·) ++ List.replicate (L.length - i) false).set (i + 1) (!No (Az (L.take i)) L[i]) = (Az (L.take (i + 1))).map (!·) ++ List.replicate (L.length - (i + 1)) false := by
 have hl : ((Az (L.take i)).map (!·)).length = i + 1 := by rw [List.length_map, C4, List.length_take]; omega
 rw [List.set_append_right _ _ (by omega), hl, Nat.sub_self, SY L hi, List.map_append, show L.length - i = (L.length - (i + 1)) + 1 by omega, List.replicate_succ, List.set_cons_zero, List.append_assoc]
 rfl
theorem c05_full (L : List Nd) (tk : Tok) (H : Aa) (hL : L.length < 140737488355327) (hl : AD L = true) : Sh.f10 (.sl (enL cNd L) tk) H = some (.ret (.sl (enL cB ((Az L).map (!·))) .no), H) := by
 have hmk := FX (f := cB) (a := false) (n := L.length + 1) (bytes := 1) (H := H) (by omega) (by omega)
 unfold Sh.f10
 simp only [A5, GMb, GMc, HPa, HPc, HPd, HPe, HPz, Nat.reduceAdd, Nat.reduceLT, Ar (show L.length < 9223372036854775807 by omega), hmk]
 have key := AM (G := fun rec1 vs H1 => Sh.f5d H rec1 (ag vs 0) (ag vs 1) (ag vs 2) (ag vs 3) H1) (σ := Nat × Aa) (fun s => s.1 ≤ L.length)
  (fun s => [.ptr (H.length + 1) 0 0, .sl (enL cNd L) tk, .int .i64 (L.length : Int), .int .i64 (s.1 : Int)]) (fun s => H ++ (.cel 0 (flat cB ((Az (L.take s.1)).map (!·) ++ List.replicate (L.length - s.1) false)) :: .cel 0 [.ms H.length 0 0 (L.length + 1) (L.length + 1) 1 true] :: s.2)) (fun s => L.length - s.1)
  (fun _ => some (.ret (.sl (enL cB ((Az L).map (!·))) .no), H)) (fun s rec hs hrec => ?_) (0, []) (Nat.zero_le _) (by dsimp only; omega)
 ·rw [List.take_zero] at key
  have e : (Az []).map (!·) ++ List.replicate (L.length - 0) false = List.replicate (L.length + 1) false := by simp [Az, List.replicate_succ]
  rw [e] at key
  exact key
 ·obtain ⟨i, G⟩ := s
  dsimp only at hs hrec ⊢
  unfold Sh.f5d
  by_cases hi : i < L.length
  ·have hi' : (i : Int) < (L.length : Int) := by omega
   obtain ⟨l1, l2, l3⟩ := A8 hl hi
   have hElen : (Az (L.take i)).length = i + 1 := by rw [C4, List.length_take]; omega
   have hFlen : ((Az (L.take i)).map (!·) ++ List.replicate (L.length - i) false).length = L.length + 1 := by rw [List.length_append, List.length_map, hElen, List.length_replicate]; omega
   have hfs : fulS ((Az (L.take i)).map (!·) ++ List.replicate (L.length - i) false) L[i] = !No (Az (L.take i)) L[i] := by
    rw [← ful_emp l1 (fun k hk h1 => by
     obtain ⟨q1, q2, q3⟩ := l3 k hk
     rw [hElen]
     by_cases h0 : 0 < L[i].kid k
     ·have := (q3 h1 h0).1; omega
     ·omega)]
    unfold fulS OJ
    congr 1
    funext k
    by_cases hlv : L[i].lv = 1
    ·simp [hlv]
    ·by_cases hk : k < 4
     ·obtain ⟨q1, q2, q3⟩ := l3 k hk
      have : (L[i].kid k).toNat < ((Az (L.take i)).map (!·)).length := by
       rw [List.length_map, hElen]
       by_cases h0 : 0 < L[i].kid k
       ·have := (q3 (by omega) h0).1; omega
       ·omega
      rw [List.getD_eq_getElem?_getD, List.getElem?_append_left this, List.getD_eq_getElem?_getD]
     ·have e3 : L[i].kid k = L[i].kid 3 := by
       match k, hk with
       | 0, h => exact absurd (by decide) h
       | 1, h => exact absurd (by decide) h
       | 2, h => exact absurd (by decide) h
       | n + 3, _ => rfl
      obtain ⟨q1, q2, q3⟩ := l3 3 (by decide)
      rw [e3]
      have : (L[i].kid 3).toNat < ((Az (L.take i)).map (!·)).length := by
       rw [List.length_map, hElen]
       by_cases h0 : 0 < L[i].kid 3
       ·have := (q3 (by omega) h0).1; omega
       ·omega
      rw [List.getD_eq_getElem?_getD, List.getElem?_append_left this, List.getD_eq_getElem?_getD]
   have hmt := map_take_not L i hi
   generalize hF : (Az (L.take i)).map (!·) ++ List.replicate (L.length - i) false = F at *
   have any := c05_any (H := H ++ (.cel 0 (flat cB F) :: .cel 0 [.ms H.length 0 0 (L.length + 1) (L.length + 1) 1 true] :: (G ++ [.cel 0 (cNd L[i])]))) (pn := H.length + (G.length + 1 + 1)) (po := H.length + 1) (q := H.length) (m := L.length + 1) (x := L[i]) (F := F) (by simp) (by simp) (by simp) hFlen (fun k hk => (l3 k hk).1) (fun k hk h1 h0 => by
    obtain ⟨q1, q2, q3⟩ := l3 k hk
    have := (q3 (by omega) (by omega)).1; omega)
   have hsl : Hf 4 1 (.ptr (H.length + (G.length + 1 + 1)) 0 1) none none = some (.ms (H.length + (G.length + 1 + 1)) 0 1 4 4 1 true) := by simp [Hf, Bs]
   have hix := ED (sz := 1) (id := H.length) (g := 0) (off := 0) (n := L.length + 1) (cap := L.length + 1) (ex := true) (K := .i64) (i := i + 1) (by omega)
   simp only [Nat.zero_add, Nat.mul_one] at hix
   have hst : ∀ G' t, Af 1 (.ptr H.length 0 (i + 1)) (.bool t) (H ++ (.cel 0 (flat cB F) :: G')) = some (H ++ (.cel 0 (flat cB (F.set (i + 1) t)) :: G')) := fun G' t => by
    rw [Fb, Hb rfl (by rw [show flat cB F = F.map Ab.bool from by
     clear hfs hmt any hF hFlen
     induction F with
     | nil => rfl
     | cons c l ih => rw [Cx, ih]; rfl]; simp; omega)]
    simp only [Option.map_some]
    congr 3
    have e : ∀ l : List Bool, flat cB l = l.map Ab.bool := fun l => by
     induction l with
     | nil => rfl
     | cons c l ih => rw [Cx, ih]; rfl
    rw [e, e, List.map_set]
   have next := hrec (i + 1, G ++ [.cel 0 (cNd L[i])]) hi (by dsimp only; omega)
   dsimp only at next
   rw [← hmt] at next
   simp only [GMb, GMc, HPa, HPc, HPd, HPe, HPz, Nat.reduceAdd, Nat.reduceLT, Ba, BE, By, BC, Al, hi', A2 hi, G8, hsl, any, Ar (show i < 9223372036854775807 by omega), hix, hst, hfs]
   exact next
  ·have hi' : ¬ (i : Int) < (L.length : Int) := by omega
   have : i = L.length := by omega
   subst this
   rw [List.take_length, Nat.sub_self, List.replicate_zero, List.append_nil]
   have hfall := fall_ms (f := cB) (l := (Az L).map (!·)) (H := H ++ (.cel 0 (flat cB ((Az L).map (!·))) :: .cel 0 [.ms H.length 0 0 (L.length + 1) (L.length + 1) 1 true] :: G)) (id := H.length) (b := H.length) (d := 5) (cap := L.length + 1) (ex := true) (by simp) (Nat.le_refl _)
   rw [List.length_map, C4] at hfall
   simp only [GMb, GMc, HPa, HPc, HPd, HPe, HPz, Nat.reduceAdd, Nat.reduceLT, Al, hi', hfall]
end Go.Gm
namespace Go.Gm
theorem ful_get (L : List Nd) {n : Nat} (hn : n < L.length + 1) : ((Az L).map (!·)).getD n false = !(Az L).getD n true := by
 have h : n < (Az L).length := by rw [C4]; exact hn
 rw [List.getD_eq_getElem?_getD, List.getD_eq_getElem?_getD, List.getElem?_map, List.getElem?_eq_getElem h]; rfl
theorem ful_idx (L : List Nd) {n : Nat} (hn : n < L.length + 1) (H : Aa) (K : IntKind) : ∃ e, A6 1 (.sl (enL cB ((Az L).map (!·))) .no) (.int K (n : Int)) = some e ∧ Ad false 1 e H = some (.bool (!(Az L).getD n true)) := by
 have h : n < ((Az L).map (!·)).length := by rw [List.length_map, C4]; exact hn
 refine ⟨_, A2 h, ?_⟩
 have e := ful_get L hn
 rw [List.getD_eq_getElem?_getD, List.getElem?_eq_getElem h] at e
 simp only [Aw, List.getElem?_cons_zero]
 rw [← e]; rfl
theorem Tf (L : List Nd) (tk : Tok) (n : Nat) (H : Aa) (hL : L.length < 140737488355327) (hl : AD L = true) (hn : n ≤ L.length) : Sh.f2f (.sl (enL cNd L) tk) (.int .i64 (n : Int)) H = some (.ret (.bool ((Az L).getD n true)), H) := by
 obtain ⟨e, h1, h2⟩ := ful_idx L (n := n) (by omega) H .i64
 unfold Sh.f2f
 simp only [GMb, GMc, HPa, HPc, HPd, HPe, HPz, Nat.reduceAdd, Nat.reduceLT, c05_full L tk H hL hl, h1, h2, Bool.not_not]
theorem c05_hollow (L : List Nd) (tk : Tok) (n : Nat) (H : Aa) (hL : L.length < 140737488355327) (hl : AD L = true) (hn : n ≤ L.length) : Sh.f2g (.sl (enL cNd L) tk) (.int .i64 (n : Int)) H = some (.ret (.bool (DH L n)), H) := by
 unfold Sh.f2g DH
 cases n with
 | zero => simp only [GMb, GMc, HPa, HPc, HPd, HPe, HPz, Nat.reduceAdd, Nat.reduceLT, show ((0 : Nat) : Int) = 0 from rfl, ne_eq, not_true_eq_false]
 | succ n =>
  have hi : n < L.length := hn
  have e0 : ¬ ((n + 1 : Nat) : Int) = 0 := by omega
  obtain ⟨l1, l2, l3⟩ := A8 hl hi
  rw [Cf rfl hi]
  generalize hx : L[n] = x at l1 l2 l3
  have hw : IntKind.i64.wrap (((n + 1 : Nat) : Int) - 1) = (n : Int) := by rw [A1] <;> omega
  simp only [GMb, GMc, HPa, HPc, HPd, HPe, HPz, Nat.reduceAdd, Nat.reduceLT, Ba, BE, By, BC, e0, hw, A2 hi, hx, Am, Aw]
  by_cases h2 : x.lv = 1
  ·have : ¬ 2 ≤ x.lv := by omega
   simp only [h2, GMb, GMc, HPa, HPc, HPd, HPe, HPz, Nat.reduceAdd, Nat.reduceLT, show ¬ (2 : Int) ≤ 1 from by decide]
  ·have h2' : 2 ≤ x.lv := by omega
   simp only [h2, h2', GMb, GMc, HPa, HPc, HPd, HPe, HPz, Nat.reduceAdd, Nat.reduceLT, c05_full L tk H hL hl, hw, A2 hi, hx, Am, ld_kids, ne_eq, Nat.succ_ne_zero, not_false_eq_true]
   have key := DU (G := fun rec1 vs H1 => Sh.f43 H rec1 (ag vs 0) (ag vs 1) (ag vs 2) (ag vs 3) H1) 4 (fun k => decide (x.kid k = 0) || (List.range 4).all (Rm L (Az L) x k))
    (fun k => [.sl (enL cNd L) tk, .sl (enL cB ((Az L).map (!·))) .no, .agg (GC x), .int .i64 (k : Int)]) H (some (.ret (.bool true), H)) (some (.ret (.bool false), H)) (by decide) (fun rec k hk => ?_) (fun rec => ?_)
   ·refine key.trans ?_
    rw [show hol L (Az L) x = (List.range 4).all fun k => decide (x.kid k = 0) || (List.range 4).all (Rm L (Az L) x k) from rfl]
    cases (List.range 4).all fun k => decide (x.kid k = 0) || (List.range 4).all (Rm L (Az L) x k) <;> rfl
   ·have hk' : (k : Int) < 4 := by omega
    obtain ⟨q1, q2, q3⟩ := l3 k hk
    have hws : IntKind.i64.wrap ((k : Int) + 1) = ((k + 1 : Nat) : Int) := Ar (by omega)
    unfold Sh.f43
    simp only [GMb, GMc, Al, hk', ag_kid _ hk]
    by_cases hc : x.kid k = 0
    ·simp only [hc, GMb, GMc, hws, if_true]
    ·obtain ⟨m, hm⟩ : ∃ m : Nat, x.kid k = ((m + 1 : Nat) : Int) := ⟨(x.kid k - 1).toNat, by omega⟩
     have h1 : 1 < x.lv := by omega
     obtain ⟨r1, r2⟩ := q3 h1 (by omega)
     have hml : m < L.length := by omega
     have hy := r2 L[m] (by rw [show (x.kid k - 1).toNat = m from by omega]; exact List.getElem?_eq_getElem hml)
     obtain ⟨y1, y2, y3⟩ := A8 hl hml
     have hp : Rm L (Az L) x k = fun j => decide (j = 3 - k) || (if x.lv = 2 then decide (L[m].kid j = 0) else (Az L).getD (L[m].kid j).toNat true) := by
      funext j; unfold Rm; rw [Cf hm hml]
     have hwm : IntKind.i64.wrap (((m + 1 : Nat) : Int) - 1) = (m : Int) := by rw [A1] <;> omega
     have hc' : ¬ ((m + 1 : Nat) : Int) = 0 := by omega
     rw [hm]
     simp only [hp, hc', GMb, GMc, hwm, A2 hml, Am, Nat.zero_add, ld_kids]
     refine DU (G := fun rec2 vs H1 => Sh.f42 H rec rec2 (ag vs 0) (ag vs 1) (ag vs 2) (ag vs 3) (ag vs 4) (ag vs 5) (ag vs 6) (ag vs 7) H1) 4 _
      (fun j => [.sl (enL cNd L) tk, .sl (enL cB ((Az L).map (!·))) .no, .int .i64 (k : Int), .int .i64 ((m + 1 : Nat) : Int), .agg (GC x), .int .i64 (k : Int), .agg (GC L[m]), .int .i64 (j : Int)]) H _ _ (by decide) (fun rec2 j hj => ?_) (fun rec2 => ?_)
     ·have hj' : (j : Int) < 4 := by omega
      have hw3 : IntKind.i64.wrap (3 - (k : Int)) = 3 - (k : Int) := A1 (by omega) (by omega)
      have hjs : IntKind.i64.wrap ((j : Int) + 1) = ((j + 1 : Nat) : Int) := Ar (by omega)
      have hj3 : decide ((j : Int) = 3 - (k : Int)) = decide (j = 3 - k) := by rw [Bool.eq_iff_iff]; simp only [decide_eq_true_eq]; omega
      unfold Sh.f42
      simp only [GMb, GMc, Al, hj', ag_kid _ hj, hw3, hj3]
      by_cases hjk : j = 3 - k
      ·simp only [hjk, GMb, GMc, if_true]
       simp only [← hjk, hjs]
      ·by_cases hg : L[m].kid j = 0
       ·have : (if x.lv = 2 then decide (L[m].kid j = 0) else (Az L).getD (L[m].kid j).toNat true) = true := by
         split
         ·simp [hg]
         ·rw [hg]; exact Fz L
        simp only [hjk, this, GMb, GMc, if_true]
        simp only [hg, hjs, GMb, GMc]
       ·by_cases hl1 : L[m].lv = 1
        ·have h22 : x.lv = 2 := by omega
         simp only [hjk, h22, GMb, GMc, hg, hwm, A2 hml, Am, Aw, Nat.zero_add, Ba, hl1, Bool.false_eq_true, if_true, if_false]
        ·have h22 : ¬ x.lv = 2 := by omega
         obtain ⟨s1, s2, s3⟩ := y3 j hj
         have hlt := (s3 (by omega) (by omega)).1
         obtain ⟨g, hgg⟩ : ∃ g : Nat, L[m].kid j = (g : Int) := ⟨(L[m].kid j).toNat, by omega⟩
         obtain ⟨e, f1, f2⟩ := ful_idx L (n := g) (by omega) H .i64
         rw [hgg] at hg
         simp only [hjk, h22, GMb, GMc, hgg, hg, hwm, A2 hml, Am, Aw, Nat.zero_add, Ba, hl1, if_false, f1, f2, Int.toNat_natCast]
         cases (Az L).getD g true with
         | true => simp only [GMb, GMc, if_true, hjs]
         | false => simp only [GMb, GMc, Bool.false_eq_true, if_false]
     ·unfold Sh.f42
      simp only [GMb, GMc, Al, show ¬ (((4 : Nat) : Int) < 4) from by decide, hws]
   ·unfold Sh.f43
    simp only [GMb, GMc, Al, show ¬ (((4 : Nat) : Int) < 4) from by decide]
theorem c06_inner (L : List Nd) (tk : Tok) (n k : Nat) (H : Aa) (hL : L.length < 140737488355327) (hl : AD L = true) (hn : n < L.length) (h2 : 2 ≤ L[n].lv) (hk : k < 4) :
  Sh.f2h (.sl (enL cNd L) tk) (.int .i64 ((n + 1 : Nat) : Int)) (.int .i64 (k : Int)) H = some (.ret (.int .i64 (Hv L L[n] k)), H) := by
 obtain ⟨l1, l2, l3⟩ := A8 hl hn
 obtain ⟨q1, q2, q3⟩ := l3 k hk
 have hw : IntKind.i64.wrap (((n + 1 : Nat) : Int) - 1) = (n : Int) := by rw [A1] <;> omega
 unfold Sh.f2h Hv
 simp only [GMb, GMc, hw, A2 hn, Am, CY hk, Aw, Nat.zero_add, Nat.mul_one, CI hk]
 by_cases hc : L[n].kid k = 0
 ·simp only [hc, GMb, GMc, show ¬ ((0 : Int) > 0) from by decide, if_true]
 ·obtain ⟨m, hm⟩ : ∃ m : Nat, L[n].kid k = ((m + 1 : Nat) : Int) := ⟨(L[n].kid k - 1).toNat, by omega⟩
  obtain ⟨r1, r2⟩ := q3 (by omega) (by omega)
  have hml : m < L.length := by omega
  have hwm : IntKind.i64.wrap (((m + 1 : Nat) : Int) - 1) = (m : Int) := by rw [A1] <;> omega
  have hw3 : IntKind.i64.wrap (3 - (k : Int)) = ((3 - k : Nat) : Int) := by rw [A1] <;> omega
  have hgt : ((m + 1 : Nat) : Int) > 0 := by omega
  have hc' : ¬ ((m + 1 : Nat) : Int) = 0 := by omega
  simp only [Cf (c := ((m + 1 : Nat) : Int)) rfl hml, hm, hgt, hc', GMb, GMc, hwm, hw3, A2 hml, Am, Nat.zero_add, CY (show 3 - k < 4 by omega), Aw, Nat.mul_one, CI (show 3 - k < 4 by omega), if_false]
theorem c_clone (L : List Nd) (tk : Tok) (H : Aa) (hL : L.length < 3518437208883) : Sh.f2d (.sl (enL cNd L) tk) H = some (if L = [] then (.ret (.sl [] .tight), H) else (.ret (.sl (enL cNd L) (.own H.length)), H ++ [.tok L.length At 5])) := by
 have hb : A9 5 [] = some (.sl (enL cNd []) .tight) := rfl
 unfold Sh.f2d
 cases L with
 | nil =>
  have ha : AA At 5 40 (.sl (enL cNd []) .tight) (.sl (enL cNd []) tk) H = some (.sl (enL cNd []) .tight, H) := Gu (by simp [BZ, enL])
  have hn : nilA .eql (.sl (enL cNd []) tk) = some .ubool := rfl
  have hu : ∀ x : Out, Aj .ubool x x = x := fun x => if_pos rfl
  simp only [hn, GMb, GMc, hb, ha]
  exact hu _
 | cons x l =>
  have ha : AA At 5 40 (.sl (enL cNd []) .tight) (.sl (enL cNd (x :: l)) tk) H = some (.sl (enL cNd (x :: l)) (.own H.length), H ++ [.tok (x :: l).length At 5]) := by
   have := CD (f := cNd) (l := []) (m := x :: l) (ty := At) (bytes := 40) (tk := tk) (H := H) (by simp) (by simp only [List.length_nil]; omega) (by simp only [List.length_nil]; omega)
   simpa using this
  have hn : nilA .eql (.sl (enL cNd (x :: l)) tk) = some (.bool false) := rfl
  simp only [hn, GMb, GMc, hb, ha, reduceCtorEq, if_false]
end Go.Gm
namespace Go.Gm
theorem c06_shrink (L : List Nd) (tk : Tok) (n : Nat) (H : Aa) (hL : L.length < 3518437200000) (hl : AD L = true) (hn : n ≤ L.length) :
  Sh.f2i (.sl (enL cNd L) tk) (.int .i64 (n : Int)) H = some (.ret (.tup [.sl (enL cNd (CU L n).1) .no, .int .i64 ((CU L n).2 : Int)]), H) := by
 unfold Sh.f2i
 rw [c_clone L tk H (by omega)]
 by_cases h0 : L = []
 ·subst h0
  have hn0 : n = 0 := by simpa using hn
  subst hn0
  have he := Tf [] .tight 0 H (by simp) hl (Nat.le_refl _)
  have he0 : (Az ([] : List Nd)).getD 0 true = true := rfl
  have hs : CU [] 0 = ([], 0) := rfl
  rw [show Ab.sl (enL cNd []) .tight = Ab.sl [] .tight from rfl, he0] at he
  rw [hs]
  have := rPN_self (H0 := H) (v := .tup [.sl [] .tight, .int .i64 0])
  simp only [GMb, GMc, HPa, HPc, HPd, HPe, HPz, Nat.reduceAdd, Nat.reduceLT, if_true, he, this]
  rfl
 ·simp only [GMb, GMc, h0, if_false, Tf L _ n _ (show L.length < 140737488355327 by omega) hl hn]
  unfold CU
  cases hem : (Az L).getD n true with
  | true => simp only [GMb, GMc, HPa, HPc, HPd, HPe, HPz, Nat.reduceAdd, Nat.reduceLT, if_true]; rfl
  | false =>
   simp only [GMb, GMc, HPa, HPc, HPd, HPe, HPz, Nat.reduceAdd, Nat.reduceLT, Bool.false_eq_true, if_false]
   have hlv : (A4 L n).lv ≤ 1329 := by
    cases n with
    | zero => exfalso; rw [Fz] at hem; cases hem
    | succ m => rw [Bb hn]; exact (A8 hl hn).2.1
   have key := AM (G := fun rec1 vs H1 => Sh.f5e H rec1 (ag vs 0) (ag vs 1) H1) (σ := List Nd × Nat × Aa) (fun s => AD s.1 = true ∧ s.2.1 ≤ s.1.length ∧ s.1.length + (A4 s.1 s.2.1).lv.toNat < 3518437208883 ∧ s.1.length + (A4 s.1 s.2.1).lv.toNat < 3518437208883)
    (fun s => [.sl (enL cNd s.1) (.own H.length), .int .i64 (s.2.1 : Int)]) (fun s => H ++ .tok s.1.length At 5 :: s.2.2) (fun s => (A4 s.1 s.2.1).lv.toNat)
    (fun s => some (.ret (.tup [.sl (enL cNd (Ca (A4 s.1 s.2.1).lv.toNat s.1 s.2.1).1) .no, .int .i64 ((Ca (A4 s.1 s.2.1).lv.toNat s.1 s.2.1).2 : Int)]), H)) (fun s rec hs hrec => ?_) (L, n, []) ⟨hl, hn, by dsimp only; omega, by dsimp only; omega⟩ (by dsimp only; omega)
   ·exact key
   ·obtain ⟨M, i, G⟩ := s
    obtain ⟨hs1, hs2, hs3, hs4⟩ := hs
    simp only at hs1 hs2 hs3 hs4 hrec ⊢
    unfold Sh.f5e
    simp only [GMb, GMc, Al, c05_hollow M _ i _ (show M.length < 140737488355327 by omega) hs1 hs2]
    cases hh : DH M i with
    | false =>
     have : Ca (A4 M i).lv.toNat M i = (M, i) := by
      cases (A4 M i).lv.toNat with
      | zero => rfl
      | succ f => simp [Ca, hh]
     simp only [GMb, GMc, HPa, HPc, HPd, HPe, HPz, Nat.reduceAdd, Nat.reduceLT, this]
    | true =>
     obtain ⟨hi0, hlv2⟩ := O2 hh
     obtain ⟨m, rfl⟩ : ∃ m, i = m + 1 := ⟨i - 1, by omega⟩
     have hm : m < M.length := hs2
     obtain ⟨l1, l2, l3⟩ := A8 hs1 hm
     have hx : A4 M ((m + 1 : Nat) : Int) = M[m] := Bb hm
     rw [hx] at hlv2 hs3 hrec ⊢
     have hwm : IntKind.i64.wrap (((m + 1 : Nat) : Int) - 1) = (m : Int) := by rw [A1] <;> omega
     have hwl : IntKind.i64.wrap (M[m].lv - 1) = M[m].lv - 1 := A1 (by omega) (by omega)
     have hsf : Ca M[m].lv.toNat M (m + 1) = Ca (M[m].lv - 1).toNat (M ++ [DW M (m + 1)]) (M.length + 1) := by
      rw [show M[m].lv.toNat = (M[m].lv - 1).toNat + 1 from by omega]
      simp only [Ca, hh, if_true]
     generalize hB : H ++ .tok M.length At 5 :: G = B
     simp only [GMb, GMc, Am, Ai, Aw, Nat.zero_add, Nat.add_zero, Nat.mul_one, Ba, hwm, A2 hm, hwl, build_lv, F7, Ej (AG (B := B) (cs := cNd nd0)) rfl, Cd]
     refine Ct (G := fun rec2 vs H1 => Sh.f44 H rec rec2 (ag vs 0) (ag vs 1) (ag vs 2) (ag vs 3) H1) 4 (fun k => [.sl (enL cNd M) (.own H.length), .int .i64 ((m + 1 : Nat) : Int), .ptr B.length 0 0, .int .i64 (k : Int)]) (fun k => B ++ [.cel 0 (cNd (Su (Hv M M[m]) ⟨M[m].lv - 1, 0, 0, 0, 0⟩ k))]) _ (by decide) (fun rec2 k hk => ?_) (fun rec2 => ?_)
     ·have hk' : (k : Int) < 4 := by omega
      unfold Sh.f44
      have hinn := c06_inner M (.own H.length) m k (B ++ [.cel 0 (cNd (Su (Hv M M[m]) ⟨M[m].lv - 1, 0, 0, 0, 0⟩ k))]) (by omega) hs1 hm hlv2 hk
      simp only [GMb, GMc, Al, hk', hinn, Ai, Nat.zero_add, C0 hk, Cg (AG (B := B)) hk, Cd, Ar (show k < 9223372036854775807 by omega)]
      rfl
     ·have hf : ¬ (((4 : Nat) : Int) < 4) := by decide
      have hel : (⟨M[m].lv - 1, Hv M M[m] 0, Hv M M[m] 1, Hv M M[m] 2, Hv M M[m] 3⟩ : Nd) = DW M (m + 1) := by unfold DW; rw [hx]
      unfold Sh.f44
      rw [Ss]
      simp only [GMb, GMc, Al, hf, D3 (AG (B := B)), EN]
      rw [← hB, List.append_assoc, List.cons_append, Tj (by omega)]
      simp only [GMb, GMc, A5, List.length_append, List.length_singleton, hel]
      have hlv' : (A4 (M ++ [DW M (m + 1)]) ((M.length + 1 : Nat) : Int)).lv = M[m].lv - 1 := by
       rw [Bb (by simp), show (M ++ [DW M (m + 1)])[M.length]'(by simp) = DW M (m + 1) from by simp]
       show (A4 M ((m + 1 : Nat) : Int)).lv - 1 = _
       rw [hx]
      have := hrec (M ++ [DW M (m + 1)], M.length + 1, G ++ [.cel 0 (cNd (DW M (m + 1)))]) ⟨O1 hs1 hm hlv2, by simp, by dsimp only; rw [hlv']; simp; omega, by dsimp only; rw [hlv']; simp; omega⟩ (by dsimp only; rw [hlv']; omega)
      simp only [List.length_append, List.length_singleton] at this
      rw [this, hlv', hsf]
end Go.Gm
namespace Go.Gm
theorem nodup_le : ∀ (N : Nat) (l : List Nat), l.Nodup → (∀ x ∈ l, x < N) → l.length ≤ N := by
 intro N
 induction N with
 | zero =>
  intro l _ h
  cases l with
  | nil => simp
  | cons a l => have := h a (by simp); omega
 | succ N ih =>
  intro l hn h
  by_cases hN : N ∈ l
  ·have h1 := List.length_erase_of_mem hN
   have h2 := ih (l.erase N) (hn.erase N) (fun x hx => by
    rw [hn.mem_erase_iff] at hx
    have := h x hx.2; omega)
   have := List.length_pos_of_mem hN
   omega
  ·have := ih l hn (fun x hx => by
    have := h x hx
    have : x ≠ N := fun e => hN (e ▸ hx)
    omega)
   omega
def knF : Nat → List Nd → List (Ab × Ab)
 | _, [] => []
 | s, x :: l => (.agg (cNd x), .int .i64 ((s + 1 : Nat) : Int)) :: knF (s + 1) l
theorem Rs (a : Nd) (l : List Nd) (y : Nd) : BO (a :: l) y = if a = y then 1 else if BO l y = 0 then 0 else BO l y + 1 := by
 by_cases h : a = y
 ·rw [if_pos h, Fe]; exact ⟨by simp [h], fun j hj => by omega⟩
 ·rw [if_neg h]
  cases hf : BO l y with
  | zero =>
   rw [if_pos rfl, Iz]
   rw [Iz] at hf
   intro hm
   rcases List.mem_cons.1 hm with e | e
   ·exact h e.symm
   ·exact hf e
  | succ i =>
   rw [if_neg (by omega), Fe]
   rw [Fe] at hf
   refine ⟨by simpa using hf.1, fun j hj => ?_⟩
   cases j with
   | zero => simpa using h
   | succ j => simpa using hf.2 j (by omega)
theorem key_nd (y : Nd) : CN true 5 (.agg (cNd y)) = some (cNd y) := (rfl)
theorem SC (y : Nd) : ∀ (l : List Nd) (s : Nat), Dv true 5 (knF s l) (cNd y) = some (if BO l y = 0 then none else some (.int .i64 ((s + BO l y : Nat) : Int)))
 | [], s => by
  have : BO [] y = 0 := by rw [Iz]; simp
  simp [knF, Dv, this]
 | a :: l, s => by
  have ih := SC y l (s + 1)
  simp only [knF, Dv, key_nd, Bw, NY]
  rw [Rs]
  by_cases h : a = y
  ·subst h; simp
  ·have h' : ¬ y = a := fun e => h e.symm
   rw [decide_eq_false h', if_neg h]
   simp only [Bool.false_eq_true, if_false, ih]
   by_cases h0 : BO l y = 0
   ·simp [h0]
   ·rw [if_neg h0, if_neg (by rw [if_neg h0]; omega), if_neg h0]
    congr 3; omega
theorem Sj (y : Nd) : ∀ (l : List Nd) (s : Nat), BO l y = 0 → CA true 5 (knF s l) (.agg (cNd y)) (cNd y) (.int .i64 ((s + l.length + 1 : Nat) : Int)) = some (knF s (l ++ [y]))
 | [], s, _ => rfl
 | a :: l, s, h => by
  rw [Rs] at h
  by_cases ha : a = y
  ·rw [if_pos ha] at h; omega
  ·rw [if_neg ha] at h
   have h0 : BO l y = 0 := by
    by_cases h0 : BO l y = 0
    ·exact h0
    ·rw [if_neg h0] at h; omega
   have h' : ¬ y = a := fun e => ha e.symm
   have ih := Sj y l (s + 1) h0
   simp only [knF, CA, key_nd, Bw, NY, List.cons_append]
   rw [decide_eq_false h']
   simp only [Bool.false_eq_true, if_false]
   rw [List.length_cons, show s + (l.length + 1) + 1 = s + 1 + l.length + 1 by omega, ih]
   rfl
def dnM (D : List (Nat × Nat)) : List (Ab × Ab) := D.map fun p => (.int .i64 (p.1 : Int), .int .i64 (p.2 : Int))
def lkD (D : List (Nat × Nat)) (n : Nat) : Option Nat := match D with
 | [] => none
 | p :: r => if p.1 = n then some p.2 else lkD r n
theorem lkD_mem {n m : Nat} : ∀ {D : List (Nat × Nat)}, lkD D n = some m → (n, m) ∈ D
 | [], h => by cases h
 | p :: r, h => by
  unfold lkD at h
  by_cases hp : p.1 = n
  ·rw [if_pos hp] at h; injection h with h; subst hp; subst h; exact List.mem_cons_self
  ·rw [if_neg hp] at h; exact List.mem_cons_of_mem _ (lkD_mem h)
theorem lkD_none {n : Nat} : ∀ {D : List (Nat × Nat)}, lkD D n = none → n ∉ D.map (·.1)
 | [], h => by simp
 | p :: r, h => by
  unfold lkD at h
  by_cases hp : p.1 = n
  ·rw [if_pos hp] at h; cases h
  ·rw [if_neg hp] at h
   have := lkD_none h
   simp only [List.map_cons, List.mem_cons, not_or]
   exact ⟨fun e => hp e.symm, this⟩
theorem lkD_app {n : Nat} {p : Nat × Nat} : ∀ {D : List (Nat × Nat)}, lkD (D ++ [p]) n = (match lkD D n with | some m => some m | none => if p.1 = n then some p.2 else none)
 | [] => by simp [lkD]
 | q :: r => by
  have ih := lkD_app (n := n) (p := p) (D := r)
  simp only [List.cons_append, lkD]
  by_cases hq : q.1 = n
  ·simp only [if_pos hq]
  ·simp only [if_neg hq, ih]
theorem nat_cell (a b : Nat) : Bz [.int .i64 (a : Int)] [.int .i64 (b : Int)] = some (decide (a = b)) := by
 simp only [Bz, Fj, if_true, Bw]
 congr 1
 rw [Bool.eq_iff_iff]; simp; omega
theorem PM (a : Int) : CN false 1 (.int .i64 a) = some [.int .i64 a] := (rfl)
theorem SD (n : Nat) : ∀ D : List (Nat × Nat), Dv false 1 (dnM D) [.int .i64 (n : Int)] = some ((lkD D n).map fun m => Ab.int .i64 (m : Int))
 | [] => rfl
 | p :: r => by
  have ih := SD n r
  simp only [dnM, List.map_cons, Dv, PM, Bw, nat_cell, lkD]
  by_cases hp : p.1 = n
  ·subst hp; simp
  ·have : ¬ n = p.1 := fun e => hp e.symm
   rw [decide_eq_false this, if_neg hp]
   simpa [dnM] using ih
theorem Sk (n m : Nat) : ∀ D : List (Nat × Nat), lkD D n = none → CA false 1 (dnM D) (.int .i64 (n : Int)) [.int .i64 (n : Int)] (.int .i64 (m : Int)) = some (dnM (D ++ [(n, m)]))
 | [], _ => rfl
 | p :: r, h => by
  unfold lkD at h
  by_cases hp : p.1 = n
  ·rw [if_pos hp] at h; cases h
  ·rw [if_neg hp] at h
   have ih := Sk n m r h
   have : ¬ n = p.1 := fun e => hp e.symm
   simp only [dnM, List.map_cons, CA, PM, Bw, nat_cell, List.cons_append] at ih ⊢
   rw [decide_eq_false this]
   simp only [Bool.false_eq_true, if_false, ih]
   rfl
theorem lookA_dn {H : Aa} {id : Nat} {D : List (Nat × Nat)} (h : H[id]? = some (.map (dnM D))) (n : Nat) : DF false 1 (some (.int .i64 0)) true (.mp id) (.int .i64 (n : Int)) H = some (match lkD D n with | some m => .tup [.int .i64 (m : Int), .bool true] | none => .tup [.int .i64 0, .bool false]) := by
 unfold DF
 simp only [Bw, PM, h, SD, Option.map_some]
 cases lkD D n <;> rfl
theorem updA_dn {H : Aa} {id : Nat} {D : List (Nat × Nat)} (h : H[id]? = some (.map (dnM D))) {n : Nat} (m : Nat) (hn : lkD D n = none) : CT false 1 (.mp id) (.int .i64 (n : Int)) (.int .i64 (m : Int)) H = some (H.set id (.map (dnM (D ++ [(n, m)])))) := by
 unfold CT
 simp only [Bw, PM, h, Sk n m D hn, Option.map_some]
theorem lookA_kn {H : Aa} {id : Nat} {out : List Nd} (h : H[id]? = some (.map (knF 0 out))) (y : Nd) : DF true 5 (some (.int .i64 0)) true (.mp id) (.agg (cNd y)) H = some (if BO out y = 0 then .tup [.int .i64 0, .bool false] else .tup [.int .i64 (BO out y : Int), .bool true]) := by
 unfold DF
 simp only [Bw, key_nd, h, SC, Option.map_some, Nat.zero_add]
 by_cases h0 : BO out y = 0 <;> simp [h0]
theorem updA_kn {H : Aa} {id : Nat} {out : List Nd} (h : H[id]? = some (.map (knF 0 out))) {y : Nd} (hn : BO out y = 0) : CT true 5 (.mp id) (.agg (cNd y)) (.int .i64 ((out.length + 1 : Nat) : Int)) H = some (H.set id (.map (knF 0 (out ++ [y])))) := by
 have := Sj y out 0 hn
 rw [Nat.zero_add] at this
 unfold CT
 simp only [Bw, key_nd, h, this, Option.map_some]
def Ir (y : Nd) : Bool := decide (y.k0 = 0) && (decide (y.k1 = 0) && (decide (y.k2 = 0) && decide (y.k3 = 0)))
theorem eq_kids (y : Nd) : Ae (.flat 4) .eql (.agg (GC y)) (.agg [.int .i64 0, .int .i64 0, .int .i64 0, .int .i64 0]) = some (.bool (Ir y)) := by
 show (eqA (.flat 4) (.agg (GC y)) (.agg [.int .i64 0, .int .i64 0, .int .i64 0, .int .i64 0])).map Ab.bool = _
 have h : eqA (.flat 4) (.agg (GC y)) (.agg [.int .i64 0, .int .i64 0, .int .i64 0, .int .i64 0]) = some (Ir y) := by
  unfold eqA
  simp only []
  rw [if_pos (show (GC y).length = 4 from rfl)]
  simp only [GC, Bz, Fj, if_true, Bw, Bool.and_true, EO]
  rfl
 rw [h]; rfl
def FL (out : List Nd) (y : Nd) : List Nd × Nat := if Ir y then (out, 0) else C5 out y
structure AR (b ar km : Nat) (out : List Nd) (v : Ab) (H : Aa) : Prop where
 cell : H[ar]? = some (.cel 0 [v, .mp km])
 row : RS cNd At 5 b out v H
 known : H[km]? = some (.map (knF 0 out))
structure AX (b ar km : Nat) (H H' : Aa) : Prop where
 len : H.length ≤ H'.length
 cel : ∀ (i : Nat) (cs : List Ab), i ≠ ar → H[i]? = some (.cel 0 cs) → H'[i]? = some (.cel 0 cs)
 map : ∀ (i : Nat) (es : List (Ab × Ab)), i ≠ km → H[i]? = some (.map es) → H'[i]? = some (.map es)
 old : ∀ i, i < b → H'[i]? = H[i]?
theorem AX.refl (b ar km : Nat) (H : Aa) : AX b ar km H H := ⟨Nat.le_refl _, fun _ _ _ h => h, fun _ _ _ h => h, fun _ _ => rfl⟩
theorem AX.trans {b ar km : Nat} {H H1 H2 : Aa} (h : AX b ar km H H1) (k : AX b ar km H1 H2) : AX b ar km H H2 :=
 ⟨Nat.le_trans h.len k.len, fun i cs hi hc => k.cel i cs hi (h.cel i cs hi hc), fun i es hi hc => k.map i es hi (h.map i es hi hc), fun i hi => (k.old i hi).trans (h.old i hi)⟩
theorem AX.push {b ar km : Nat} {H : Aa} (hb : b ≤ H.length) (G : Aa) : AX b ar km H (H ++ G) :=
 ⟨by simp, fun i cs _ h => B3 h, fun i es _ h => B3 h, fun i hi => List.getElem?_append_left (by omega)⟩
theorem AR.push {b ar km : Nat} {out : List Nd} {v : Ab} {H : Aa} (h : AR b ar km out v H) (G : Aa) : AR b ar km out v (H ++ G) :=
 ⟨B3 h.cell, h.row.left G, B3 h.known⟩
theorem c06_intern {b ar km : Nat} {out : List Nd} {v : Ab} {H : Aa} (h : AR b ar km out v H) (hba : b ≤ ar) (hbk : b ≤ km) (hb : b ≤ H.length) (y : Nd) (ho : out.length < 3000000000000) :
  ∃ v' H', Sh.f2j (.ptr ar 0 0) (.agg (cNd y)) H = some (.ret (.int .i64 ((FL out y).2 : Int)), H') ∧ AR b ar km (FL out y).1 v' H' ∧ AX b ar km H H' := by
 have hB : b ≤ (H ++ [Blk.cel 0 (cNd y)]).length := by simp; omega
 have h1 := h.push [.cel 0 (cNd y)]
 have e1 : AX b ar km H (H ++ [.cel 0 (cNd y)]) := AX.push hb _
 have hbd : Ay (some [(.int .i64 0), (.int .i64 0), (.int .i64 0), (.int .i64 0)]) [] = some (.agg [.int .i64 0, .int .i64 0, .int .i64 0, .int .i64 0]) := rfl
 unfold Sh.f2j FL
 have l0 := Bf (o := 0) (sz := 1) h1.cell
 have l1 := Bf (o := 1) (sz := 1) h1.cell
 cases hz : Ir y with
 | true =>
  simp only [GMb, GMc, HPa, HPc, HPd, HPe, HPz, Nat.reduceAdd, Nat.reduceLT, Ba, BE, By, BC, hbd, eq_kids, hz, if_true]
  exact ⟨v, _, rfl, h1, e1⟩
 | false =>
  simp only [GMb, GMc, HPa, HPc, HPd, HPe, HPz, Nat.reduceAdd, Nat.reduceLT, Ba, BE, By, BC, hbd, eq_kids, hz, l1, AP, Bl, lookA_kn h1.known, Bool.false_eq_true, if_false]
  unfold C5
  by_cases h0 : BO out y = 0
  ·obtain ⟨v', H2, ha, hr, hk, hg⟩ := RS.snoc2 (bytes := 40) h1.row hB y .tight (by omega) (by omega)
   have hc2 := hk.cel _ _ h1.cell
   have hst := Gd (o := 0) (v := v') hc2 hr.one (by simp)
   have hka : km ≠ ar := fun e => by have := h.known; rw [e, h.cell] at this; cases this
   have har : ar < H.length := (List.getElem?_eq_some_iff.1 h.cell).1
   have hkl : km < H.length := (List.getElem?_eq_some_iff.1 h.known).1
   have hkn : ∀ es, v ≠ .sl es (.own km) := h.row.notok (B := .map (knF 0 out)) h.known (fun _ _ _ e => by cases e)
   have hk2 : H2[km]? = some (.map (knF 0 out)) := by rw [hg.keep km (by simp; omega) hkn]; exact h1.known
   have hH1 : H.length ≠ ar := by omega
   have hbox : H2[H.length]? = some (.cel 0 (cNd y)) := hk.cel _ _ AG
   have hl2 : ar < H2.length := (List.getElem?_eq_some_iff.1 hc2).1
   have hkl2 : km < H2.length := (List.getElem?_eq_some_iff.1 hk2).1
   obtain ⟨H3, hH3⟩ : ∃ H3, H3 = H2.set ar (.cel 0 ([v, .mp km].set 0 v')) := ⟨_, rfl⟩
   rw [← hH3] at hst
   have hc3 : H3[ar]? = some (.cel 0 [v', .mp km]) := by rw [hH3, List.getElem?_set_self hl2]; rfl
   have hk3 : H3[km]? = some (.map (knF 0 out)) := by rw [hH3, List.getElem?_set_ne (Ne.symm hka)]; exact hk2
   have hb3 : H3[H.length]? = some (.cel 0 (cNd y)) := by rw [hH3, List.getElem?_set_ne (Ne.symm hH1)]; exact hbox
   have l30 := Bf (o := 0) (sz := 1) hc3
   have l31 := Bf (o := 1) (sz := 1) hc3
   have hup := updA_kn hk3 h0
   obtain ⟨H4, hH4⟩ : ∃ H4, H4 = H3.set km (.map (knF 0 (out ++ [y]))) := ⟨_, rfl⟩
   rw [← hH4] at hup
   have hc4 : H4[ar]? = some (.cel 0 [v', .mp km]) := by rw [hH4, List.getElem?_set_ne hka]; exact hc3
   have l40 := Bf (o := 0) (sz := 1) hc4
   have hlen := hr.len
   rw [List.length_append, List.length_singleton] at hlen
   refine ⟨v', H4, ?_, ⟨hc4, ?_, ?_⟩, e1.trans ⟨?_, fun i cs hi hc => ?_, fun i es hi hc => ?_, fun i hi => ?_⟩⟩
   ·simp only [h0, if_true, GMb, GMc, HPa, HPc, HPd, HPe, HPz, Nat.reduceAdd, Nat.reduceLT, l0, AP, Bl, Ba, BE, By, BC, EN, ha, hst, l30, l31, D3 hb3, hlen, hup, l40]
   ·have r3 : RS cNd At 5 b (out ++ [y]) v' H3 := by rw [hH3]; exact hr.put hc2
    rw [hH4, if_pos h0]
    exact r3.setB hk3 (fun _ _ _ e => by cases e)
   ·rw [hH4, List.getElem?_set_self (by rw [hH3, List.length_set]; exact hkl2)]; simp only [h0, if_true]
   ·rw [hH4, List.length_set, hH3, List.length_set]; exact hk.len
   ·have c2 := hk.cel i cs hc
    have hik : i ≠ km := fun e => by rw [e, hk2] at c2; cases c2
    rw [hH4, List.getElem?_set_ne (Ne.symm hik), hH3, List.getElem?_set_ne (Ne.symm hi)]; exact c2
   ·have hia : i ≠ ar := fun e => by rw [e, h1.cell] at hc; cases hc
    have hil : i < (H ++ [Blk.cel 0 (cNd y)]).length := (List.getElem?_eq_some_iff.1 hc).1
    have hin : ∀ es', v ≠ .sl es' (.own i) := h1.row.notok hc (fun _ _ _ e => by cases e)
    rw [hH4, List.getElem?_set_ne (Ne.symm hi), hH3, List.getElem?_set_ne (Ne.symm hia), hg.keep i hil hin]; exact hc
   ·rw [hH4, List.getElem?_set_ne (by omega), hH3, List.getElem?_set_ne (by omega)]; exact hk.old i hi
  ·simp only [h0, if_false, GMb, GMc, HPa, HPc, HPd, HPe, HPz, Nat.reduceAdd, Nat.reduceLT]
   exact ⟨v, _, rfl, h1, e1⟩
end Go.Gm
