/- Texts of this proof, joined. -/
import Derived.Test.YtenmplcmmdaibaaGreatDoorJ4
import Derived.Test.YtenmplcmmdaibaaGreatDoorJ5
set_option linter.unusedVariables false
set_option linter.unusedSimpArgs false
namespace Go.Gm
def F6 (er : Er) : Prop := ∀ e, er = some e → 0 < e.1 ∧ e.1 ≤ 4
theorem F6.none : F6 none := fun e h => by cases h
theorem F6.stp (b : List UInt8) (a : Nat) (s : List UInt8) : F6 (some (FF b a s)) := fun e h => by
 injection h with h; subst h; unfold FF; split <;> simp
theorem F6.lim : F6 (some (4, [])) := fun e h => by injection h with h; subst h; simp
theorem Mq (b : List UInt8) (a : Nat) (s rest : List UInt8) : F6 (BD b a s rest).1 := by
 unfold BD; split
 ·exact .stp _ _ _
 ·exact .none
theorem endS_er (b : List UInt8) (a : Nat) (rest : List UInt8) : F6 (HQ b a rest).1 := by
 unfold HQ; split
 ·exact .none
 ·split
  ·exact .none
  ·exact .stp _ _ _
theorem rulS_er (b : List UInt8) (f : Nat) (rest : List UInt8) : F6 (Mc b f rest).1 := by
 unfold Mc; split
 ·exact .stp _ _ _
 ·exact .none
theorem numS_er (b : List UInt8) (f : Nat) (rest : List UInt8) : ∀ n a, F6 (LI b f rest n a).1
 | 0, a => .none
 | n + 1, a => by
  unfold LI
  split
  ·split
   ·exact .stp _ _ _
   ·split
    ·exact .lim
    ·exact numS_er b f rest n (a + 1)
  ·split
   ·exact .stp _ _ _
   ·exact .none
theorem intS_er (b : List UInt8) (a : Nat) (neg : Bool) (rest : List UInt8) : F6 (G6 b a neg rest).1 := by
 unfold G6; split
 ·exact .stp _ _ _
 ·exact numS_er _ _ _ _ _
theorem markS_er (b : List UInt8) (a : Nat) (st : MSt) : F6 (NY b a st).1.1 := by
 unfold NY
 split
 ·exact .none
 ·split
  ·have := Mq b (a + 1) [71, 32] [49]
   generalize BD b (a + 1) [71, 32] [49] = M at this
   obtain ⟨er, c⟩ := M
   cases er with
   | some e => exact this
   | none => exact intS_er _ _ _ _
  ·split
   ·have := Mq b (a + 1) [82, 32] [97]
    generalize BD b (a + 1) [82, 32] [97] = M at this
    obtain ⟨er, c⟩ := M
    cases er with
    | some e => exact this
    | none =>
     have := rulS_er b c []
     dsimp only
     generalize Mc b c [] = M at this
     obtain ⟨er, d⟩ := M
     cases er with
     | some e => exact this
     | none => exact .none
   ·exact .stp _ _ _
theorem PU (b : List UInt8) : ∀ n a x y on, F6 (Cy b n a x y on).1
 | 0, a, x, y, on => .none
 | n + 1, a, x, y, on => by
  unfold Cy
  split
  ·split
   ·exact .stp _ _ _
   ·split
    ·exact PU b n _ _ _ _
    ·exact PU b n _ _ _ _
  ·exact .none
theorem leafS_er (b : List UInt8) (a : Nat) (st : MSt) : F6 (My b a st).1.1 := by
 unfold My
 have := PU b (b.length + 1 - a) a 0 0 (List.replicate 64 false)
 generalize Cy b (b.length + 1 - a) a 0 0 (List.replicate 64 false) = M at this
 obtain ⟨er, c, on⟩ := M
 cases er with
 | some e => exact this
 | none => exact .none
theorem levF_er (b : List UInt8) : ∀ k a n, F6 (Gh b k a n).1
 | 0, a, n => .none
 | k + 1, a, n => by
  unfold Gh
  split
  ·split
   ·exact .lim
   ·exact levF_er b k _ _
  ·split
   ·exact .stp _ _ _
   ·exact .none
theorem levelS_er (b : List UInt8) (a : Nat) : F6 (Cc b a).1 := by
 unfold Cc; split
 ·exact .stp _ _ _
 ·exact levF_er _ _ _ _
theorem kidF_er (b : List UInt8) (lines : List (Nat × Int)) (level : Int) (f : Nat) (rest : List UInt8) : ∀ k a n, F6 (GS b lines level f rest k a n).1
 | 0, a, n => .none
 | k + 1, a, n => by
  unfold GS
  split
  ·split
   ·exact .stp _ _ _
   ·split
    ·exact kidF_er b lines level f rest k _ _
    ·exact .stp _ _ _
  ·split
   ·exact .stp _ _ _
   ·split
    ·exact .none
    ·exact .stp _ _ _
theorem kidS_er (b : List UInt8) (a : Nat) (lines : List (Nat × Int)) (level : Int) (rest : List UInt8) : F6 (M0 b a lines level rest).1 := kidF_er _ _ _ _ _ _ _ _
theorem kidsF_er (b : List UInt8) (lines : List (Nat × Int)) (level : Int) : ∀ d k a x rest, F6 (Eu b lines level d k a x rest).1
 | 0, k, a, x, rest => .none
 | d + 1, k, a, x, rest => by
  unfold Eu
  have := Mq b a [32] (48 :: rest)
  generalize BD b a [32] (48 :: rest) = M at this
  obtain ⟨er, c⟩ := M
  cases er with
  | some e => exact this
  | none =>
   dsimp only
   have := kidS_er b c lines level rest
   generalize M0 b c lines level rest = M at this
   obtain ⟨er, c', n⟩ := M
   cases er with
   | some e => exact this
   | none => exact kidsF_er b lines level d _ _ _ _
theorem nodeS_er (b : List UInt8) (a : Nat) (st : MSt) : F6 (Mm b a st).1.1 := by
 unfold Mm
 have := levelS_er b a
 generalize Cc b a = M at this
 obtain ⟨er, c, v⟩ := M
 cases er with
 | some e => exact this
 | none =>
  dsimp only
  have := kidsF_er b st.lines v 4 0 c ⟨v, 0, 0, 0, 0⟩ [32, 48, 32, 48, 32, 48]
  generalize Eu b st.lines v 4 0 c ⟨v, 0, 0, 0, 0⟩ [32, 48, 32, 48, 32, 48] = M at this
  obtain ⟨er, c', x⟩ := M
  cases er with
  | some e => exact this
  | none => exact .none
theorem lineS_er (b : List UInt8) (N : Int) (a : Nat) (st : MSt) : F6 (rlS b N a st).1.1 := by
 unfold rlS
 split
 ·exact markS_er _ _ _
 ·split
  ·exact .lim
  ·split
   ·exact leafS_er _ _ _
   ·exact nodeS_er _ _ _
theorem oneS_er (b : List UInt8) (N : Int) (a : Nat) (st : MSt) : F6 (Kk b N a st).1.1 := by
 unfold Kk
 have := lineS_er b N a st
 generalize rlS b N a st = M at this
 obtain ⟨⟨er, c⟩, st'⟩ := M
 cases er with
 | some e => exact this
 | none => exact endS_er _ _ _
theorem Rs (b : List UInt8) (N : Int) : ∀ k a st, F6 (C1 b N k a st).1.1
 | 0, a, st => .none
 | k + 1, a, st => by
  unfold C1
  split
  ·exact .none
  ·have := oneS_er b N a st
   generalize Kk b N a st = M at this
   obtain ⟨⟨er, c⟩, st'⟩ := M
   cases er with
   | some e => exact this
   | none => exact Rs b N k _ _
theorem allS_er (b : List UInt8) (N : Int) (st : MSt) : F6 (Jn b N st).1.1 := by
 unfold Jn
 have := Mq b 0 D7 []
 generalize BD b 0 D7 [] = M at this
 obtain ⟨er, c⟩ := M
 cases er with
 | some e => exact this
 | none =>
  dsimp only
  have := endS_er b (Gi b c) []
  generalize HQ b (Gi b c) [] = M at this
  obtain ⟨er, d⟩ := M
  cases er with
  | some e => exact this
  | none => exact Rs _ _ _ _ _
end Go.Gm
namespace Go.Gm
end Go.Gm
namespace Go.Gm
def ats (st : MSt) : List Nat := st.lines.map (·.1)
def lvs (st : MSt) : List Int := st.lines.map (·.2)
def sttC (law : List UInt8) (v1 v2 v3 : Aa) : List Aa := [.str law, v1, v2, v3]
structure SR (b0 : Nat) (st : MSt) (v1 v2 v3 : Aa) (H : Ab) : Prop where
 nodes : RS cNd As 5 b0 st.nodes v1 H
 ats : RS cN D8 1 b0 (ats st) v2 H
 lvs : RS cI D8 1 b0 (lvs st) v3 H
 apart : ∀ i es es', v2 = .sl es (.own i) → v3 ≠ .sl es' (.own i)
theorem SR.push {b0 : Nat} {st : MSt} {v1 v2 v3 : Aa} {H : Ab} (h : SR b0 st v1 v2 v3 H) (G : Ab) : SR b0 st v1 v2 v3 (H ++ G) :=
 ⟨h.nodes.left G, h.ats.left G, h.lvs.left G, h.apart⟩
theorem SR.put {b0 p : Nat} {st : MSt} {v1 v2 v3 : Aa} {H : Ab} {c c' : List Aa} (h : SR b0 st v1 v2 v3 H) (hp : H[p]? = some (.cel 0 c)) : SR b0 st v1 v2 v3 (H.set p (.cel 0 c')) :=
 ⟨h.nodes.put hp, h.ats.put hp, h.lvs.put hp, h.apart⟩
theorem SR.law {b0 : Nat} {st : MSt} {v1 v2 v3 : Aa} {H : Ab} (h : SR b0 st v1 v2 v3 H) (law : List UInt8) : SR b0 { st with law := law } v1 v2 v3 H := ⟨h.nodes, h.ats, h.lvs, h.apart⟩
end Go.Gm
namespace Go.Gm
section
variable {lines : List (Nat × Int)} {level : Int}
end
end Go.Gm
namespace Go.Gm
theorem Hj.refl (v : Aa) (H : Ab) : Hj v v H H := ⟨Nat.le_refl _, fun _ _ _ => rfl, fun i es h => .inr ⟨es, h⟩⟩
theorem Hj.trans {v v' v'' : Aa} {H H' H'' : Ab} (h : Hj v v' H H') (h' : Hj v' v'' H' H'') : Hj v v'' H H'' :=
 ⟨Nat.le_trans h.len h'.len, fun i hi hn => by
  rw [h'.keep i (Nat.lt_of_lt_of_le hi h.len) fun es e => ?_, h.keep i hi hn]
  rcases h.own i es e with h1 | ⟨es', h1⟩
  ·omega
  ·exact hn es' h1,
  fun i es e => by
  rcases h'.own i es e with h1 | ⟨es', h1⟩
  ·exact .inl (Nat.le_trans h.len h1)
  ·exact h.own i es' h1⟩
theorem Hj.app (v : Aa) (H G : Ab) : Hj v v H (H ++ G) := ⟨by simp, fun i hi _ => List.getElem?_append_left hi, fun i es h => .inr ⟨es, h⟩⟩
theorem Hj.set {v v' : Aa} {H H' : Ab} {p : Nat} {B : Blk} (h : Hj v v' H H') (hp : H.length ≤ p) : Hj v v' H (H'.set p B) :=
 ⟨by rw [List.length_set]; exact h.len, fun i hi hn => by rw [List.getElem?_set_ne (by omega)]; exact h.keep i hi hn, h.own⟩
section
variable {α β : Type} {f : α → List Aa} {ty : TypeId} {sz : Nat}
theorem RS.lt {b i : Nat} {out : List α} {v : Aa} {H : Ab} {es : List (List Aa)} (h : RS f ty sz b out v H) (e : v = .sl es (.own i)) : i < H.length := by
 rcases h with ⟨_, k⟩ | ⟨t, _, k2, k3⟩
 ·rw [k] at e; injection e with _ e; cases e
 ·rw [k2] at e; injection e with _ e; injection e with e
  rw [← e]; exact (List.getElem?_eq_some_iff.1 k3).1

end
section
variable {b0 : Nat} {st : MSt} {v1 v2 v3 : Aa} {H : Ab}
end
end Go.Gm
namespace Go.Gm
def cW (t : Bool) : List Aa := [.int .i64 (if t then 1 else 0)]
instance : Sz cW 1 := ⟨fun _ => rfl⟩
instance : Pl cW := ⟨fun _ => rfl⟩
section
variable {b0 : Nat}
end
end Go.Gm
namespace Go.Gm
section
variable {b0 : Nat} {st : MSt} {v1 v2 v3 : Aa} {H : Ab}
end
end Go.Gm
namespace Go.Gm
section
variable {b0 : Nat} {st : MSt} {v1 v2 v3 : Aa} {H : Ab}
end
end Go.Gm
namespace Go.Gm
theorem kidS_le {b : List UInt8} {a : Nat} (ha : a ≤ b.length) (lines : List (Nat × Int)) (level : Int) (rest : List UInt8) : a ≤ (M0 b a lines level rest).2.1 ∧ (M0 b a lines level rest).2.1 ≤ b.length := kidF_le b lines level a rest _ a 0 ha
theorem litN_ge (b : List UInt8) (a : Nat) (s : List UInt8) : a ≤ GQ b a s := Nat.le_add_right _ _
theorem PV (b : List UInt8) (lines : List (Nat × Int)) (level : Int) : ∀ d k a x rest, a ≤ b.length → a ≤ (Eu b lines level d k a x rest).2.1 ∧ (Eu b lines level d k a x rest).2.1 ≤ b.length ∧ (Eu b lines level d k a x rest).2.2.lv = x.lv
 | 0, k, a, x, rest, h => ⟨Nat.le_refl _, h, rfl⟩
 | d + 1, k, a, x, rest, h => by
  unfold Eu
  have h1 := litN_ge b a [32]
  have h2 := HK h [32]
  have e : (BD b a [32] (48 :: rest)).2 = GQ b a [32] := rfl
  generalize BD b a [32] (48 :: rest) = M at e
  obtain ⟨er, c⟩ := M
  dsimp only at e
  subst e
  cases er with
  | some e => exact ⟨h1, h2, rfl⟩
  | none =>
   dsimp only
   have h3 := kidS_le h2 lines level rest
   generalize M0 b (GQ b a [32]) lines level rest = M at h3
   obtain ⟨er, c', n⟩ := M
   dsimp only at h3
   cases er with
   | some e => exact ⟨by dsimp only; omega, by dsimp only; omega, rfl⟩
   | none =>
    have := PV b lines level d (k + 1) c' (x.setKid k (n : Int)) (rest.drop 2) (by omega)
    rw [Ci] at this
    exact ⟨by dsimp only; omega, by dsimp only; omega, by dsimp only; exact this.2.2⟩
section
variable {b0 p a : Nat} {b : List UInt8} {bx N : Int} {st : MSt} {H : Ab}
noncomputable def nodeT (H0 : Ab) (r_9 n_10 : Aa) (H13 : Ab) : Out :=
 bC (Ad true 5 n_10 H13) (fun _ => True) fun x32 =>
 Cg (Sh.fh r_9 x32 H13) fun x33 H34 =>
 (Ae r_9).bind fun x35 =>
 (Ac 6 x35).bind fun x36 =>
 bC (Ad false 1 x36 H34) (fun x37 => Ad false 1 x36 H13 = some x37 ∧ True) fun x37 =>
 (Ac 0 n_10).bind fun x38 =>
 bC (Ad false 1 x38 H34) (fun x39 => Ad false 1 x38 H13 = some x39 ∧ True) fun x39 =>
 (A6 (some [(.int .i64 0), (.int .i64 0)]) [(0, 1, x33), (1, 1, x39)]).bind fun x40 =>
 (AH 2 [x40]).bind fun x41 =>
 Cg (BF (AI CQ 2 16 x37 x41 H34)) fun x42 H43 =>
 (Ae r_9).bind fun x44 =>
 (Ac 6 x44).bind fun x45 =>
 bK H0 (AN (Al 1 x45 x42 H43)) fun _ H47 =>
 rK H0 (.tup []) H47
theorem node_loop {v w : Aa} (h : RDx b0 p b a bx N st v w H) (ha : a ≤ b.length) (hb : b.length < 1152921504606846976) {level : Int} (h1 : 1 ≤ level) (h2 : level ≤ 1329) (hll : st.lines.length < 3000000000000) (H0 : Ab) (x : Nd) (hx : x.lv = level) (rest : List UInt8) (hr : rest.length ≤ 100) :
  Ap (fun rec1 vs H1 => Sh.f33 H0 rec1 (ag vs 0) (ag vs 1) (ag vs 2) (ag vs 3) H1) AM [.ptr p 0 0, .ptr H.length 0 0, .str rest, .int .i64 0] (H ++ [.cel 0 (cNd x)]) =
   match Eu b st.lines level 4 0 a x rest with
   | (some e, c, x') => some (.pan (hv e), AK H p b (rdR bx N st.law v w) c ++ [.cel 0 (cNd x')])
   | (none, c, x') => nodeT H0 (.ptr p 0 0) (.ptr H.length 0 0) (AK H p b (rdR bx N st.law v w) c ++ [.cel 0 (cNd x')]) := by
 have key := Bt (G := fun rec1 vs H1 => Sh.f33 H0 rec1 (ag vs 0) (ag vs 1) (ag vs 2) (ag vs 3) H1) (σ := Nat × Nat × Nd × List UInt8) (fun s => s.1 ≤ 4 ∧ s.2.1 ≤ b.length ∧ s.2.2.1.lv = level ∧ s.2.2.2.length ≤ 100)
  (fun s => [.ptr p 0 0, .ptr H.length 0 0, .str s.2.2.2, .int .i64 (s.1 : Int)]) (fun s => AK H p b (rdR bx N st.law v w) s.2.1 ++ [.cel 0 (cNd s.2.2.1)]) (fun s => 4 - s.1)
  (fun s => match Eu b st.lines level (4 - s.1) s.1 s.2.1 s.2.2.1 s.2.2.2 with
   | (some e, c, x') => some (.pan (hv e), AK H p b (rdR bx N st.law v w) c ++ [.cel 0 (cNd x')])
   | (none, c, x') => nodeT H0 (.ptr p 0 0) (.ptr H.length 0 0) (AK H p b (rdR bx N st.law v w) c ++ [.cel 0 (cNd x')])) (fun s rec hi hrec => ?_) (0, a, x, rest) ⟨by simp, ha, hx, hr⟩ (by dsimp only; omega)
 ·rw [BG h.lx] at key; exact key
 ·obtain ⟨k, i, x, rest⟩ := s
  obtain ⟨i0, i1, i2, i3⟩ := hi
  dsimp only at i0 i1 i2 i3 hrec ⊢
  have hlen : ∀ c, (AK H p b (rdR bx N st.law v w) c).length = H.length := fun c => FI H p c b _
  have hp := h.lt
  have hpp : ∀ c e (G : Ab), AK (AK H p b (rdR bx N st.law v w) c ++ G) p b (rdR bx N st.law v w) e = AK H p b (rdR bx N st.law v w) e ++ G := fun c e G => by
   rw [MY (by rw [hlen]; exact hp), KB]
  have hR := fun c => (h.go c [.cel 0 (cNd x)]).1
  have hcell : ∀ c, (AK H p b (rdR bx N st.law v w) c ++ [Blk.cel 0 (cNd x)])[H.length]? = some (.cel 0 (cNd x)) := fun c => by rw [← hlen c]; exact AD
  unfold Sh.f33
  by_cases hk : k < 4
  ·have hk' : (k : Int) < 4 := by omega
   have hcat : Af .none .add (.str [48]) (.str rest) = some (.str (48 :: rest)) := B5 (by simp only [List.length_cons, List.length_nil]; omega)
   have hmust := Mw (hR i).lx i1 hb [32] (48 :: rest) (by decide) (by simp only [List.length_cons]; omega)
   rw [hpp] at hmust
   have e : (BD b i [32] (48 :: rest)).2 ≤ b.length := HK i1 [32]
   rw [show 4 - k = (3 - k) + 1 by omega]
   unfold Eu
   simp only [hk', GMb, GMc, HPa, HPc, HPd, HPe, HPz, Nat.reduceAdd, Nat.reduceLT, hcat, hmust]
   generalize BD b i [32] (48 :: rest) = M at e
   obtain ⟨er, c⟩ := M
   dsimp only at e ⊢
   cases er with
   | some e => simp only [Bo, GMb, GMc, HPa, HPc, HPd, HPe, HPz, Nat.reduceAdd, Nat.reduceLT]
   | none =>
    obtain ⟨y, k1, k2⟩ := rd_kid (hR c) e hb h1 h2 hll rest (by omega)
    have h3 := kidS_le e st.lines level rest
    rw [hpp] at k1
    have hlv := GO (hcell c)
    rw [i2] at hlv
    simp only [Bz, GMb, GMc, HPa, HPc, HPd, HPe, HPz, Nat.reduceAdd, Nat.reduceLT, hlv, k1]
    generalize M0 b c st.lines level rest = M at h3 k2
    obtain ⟨er, c', n⟩ := M
    dsimp only at h3 k2 ⊢
    cases er with
    | some e => simp only [Bo, GMb, GMc, HPa, HPc, HPd, HPe, HPz, Nat.reduceAdd, Nat.reduceLT]
    | none =>
     obtain rfl := k2 rfl
     have hst := C6 (c := (n : Int)) (hcell c') hk
     rw [← hlen c', Cd, hlen c'] at hst
     have hmin : Gw Mt (.int .i64 2) [.int .i64 (rest.length : Int)] = some (.int .i64 ((min 2 rest.length : Nat) : Int)) := by rw [min_int]; congr 2; omega
     have hdr : rest.drop (min 2 rest.length) = rest.drop 2 := by
      by_cases hl : 2 ≤ rest.length
      ·rw [Nat.min_eq_left hl]
      ·rw [List.drop_of_length_le (by omega), List.drop_of_length_le (by omega)]
     have := hrec (k + 1, c', x.setKid k (n : Int), rest.drop 2) ⟨by dsimp only; omega, by dsimp only; omega, by rw [Ci]; exact i2, by simp only [List.length_drop]; omega⟩ (by dsimp only; omega)
     dsimp only at this
     rw [show 4 - (k + 1) = 3 - k by omega] at this
     simp only [Bz, GMb, GMc, HPa, HPc, HPd, HPe, HPz, Nat.reduceAdd, Nat.reduceLT, Ex hk, hst, hmin, Df (show min 2 rest.length ≤ rest.length by omega), hdr, Aw (show k < 9223372036854775807 by omega)]
     exact this
  ·have hk' : ¬ (k : Int) < 4 := by omega
   rw [show 4 - k = 0 by omega]
   unfold Eu nodeT
   simp only [hk', GMb, GMc, HPa, HPc, HPd, HPe, HPz, Nat.reduceAdd, Nat.reduceLT]
theorem rd_node (h : RD b0 p b a bx N st H) (ha : a ≤ b.length) (hb : b.length < 1152921504606846976) (hn : st.nodes.length < 3000000000000) (hll : st.lines.length < 3000000000000) : NN b0 p b bx N H (Sh.f1o (.ptr p 0 0) H) (.tup []) (Mm b a st) := by
 obtain ⟨v, w, h⟩ := h
 unfold Sh.f1o NN Mm
 have hlev := lx_level h.lx ha hb
 have hle : (Cc b a).2.1 ≤ b.length := by
  unfold Cc
  split
  ·exact ha
  ·exact (OM b _ a 0 ha).2
 have hok : (Cc b a).1 = none → 0 < (Cc b a).2.2 ∧ (Cc b a).2.2 ≤ 1329 := by
  unfold Cc
  split
  ·intro e; cases e
  ·intro e; exact levF_ok b _ a 0 (by omega) ha (by omega) e
 simp only [hlev]
 generalize Cc b a = M at hle hok
 obtain ⟨er, c, lv⟩ := M
 dsimp only at hle hok ⊢
 obtain ⟨h1, e1⟩ := h.go0 c
 cases er with
 | some e =>
  simp only [Bo, GMb, GMc, HPa, HPc, HPd, HPe, HPz, Nat.reduceAdd, Nat.reduceLT]
  exact ⟨_, rfl, e1, _, _, h1⟩
 | none =>
  obtain ⟨l1, l2⟩ := hok rfl
  have hbd : A6 (some [(.int .i64 0), (.int .i64 0), (.int .i64 0), (.int .i64 0), (.int .i64 0)]) [(0, 1, .int .i64 (lv : Int))] = some (.agg (cNd ⟨(lv : Int), 0, 0, 0, 0⟩)) := rfl
  have hloop := node_loop h1 hle hb (level := (lv : Int)) (by omega) (by omega) hll H ⟨(lv : Int), 0, 0, 0, 0⟩ rfl [32, 48, 32, 48, 32, 48] (by decide)
  simp only [Bz, GMb, GMc, hbd, FW, EM (AD (cs := cNd nd0)) rfl, Cd]
  rw [hloop]
  have hkl := PV b st.lines (lv : Int) 4 0 c ⟨(lv : Int), 0, 0, 0, 0⟩ [32, 48, 32, 48, 32, 48] hle
  generalize Eu b st.lines (lv : Int) 4 0 c ⟨(lv : Int), 0, 0, 0, 0⟩ [32, 48, 32, 48, 32, 48] = M at hkl
  obtain ⟨er, c', x⟩ := M
  dsimp only at hkl ⊢
  obtain ⟨h2, e2⟩ := h1.go c' [.cel 0 (cNd x)]
  cases er with
  | some e => exact ⟨_, rfl, e1.trans e2, _, _, h2⟩
  | none =>
   dsimp only
   have hlen : (AK (AK H p b (rdR bx N st.law v w) c) p b (rdR bx N st.law v w) c').length = (AK H p b (rdR bx N st.law v w) c).length := FI _ _ _ _ _
   have hcell : (AK (AK H p b (rdR bx N st.law v w) c) p b (rdR bx N st.law v w) c' ++ [Blk.cel 0 (cNd x)])[(AK H p b (rdR bx N st.law v w) c).length]? = some (.cel 0 (cNd x)) := by rw [← hlen]; exact AD
   have hqp : (AK H p b (rdR bx N st.law v w) c).length ≠ p := by have := h1.lt; omega
   have hld1 := B7 (o := 6) (sz := 1) h2.lx
   generalize AK (AK H p b (rdR bx N st.law v w) c) p b (rdR bx N st.law v w) c' ++ [Blk.cel 0 (cNd x)] = H2 at *
   generalize (AK H p b (rdR bx N st.law v w) c).length = q at *
   obtain ⟨H3, s1, s2, v3, s3⟩ := rd_put (w := w) ⟨v, h2⟩ x hn
   have hcell3 := s2.cel q _ hqp hcell
   have hld2 := B7 (o := 6) (sz := 1) s3.lx
   obtain ⟨w4, H4, t1, t2, t3, t4⟩ := rd_line s3 (st.nodes.length + 1, (lv : Int)) hll
   have hl1 := GO hcell
   have hl2 := GO hcell3
   rw [hkl.2.2] at hl1 hl2
   unfold nodeT
   simp only [GMb, GMc, HPa, HPc, HPd, HPe, HPz, Nat.reduceAdd, Nat.reduceLT, DG hcell, s1, hld1, hld2, rdR, hl1, hl2, build_ln, RR, t1, t2]
   exact ⟨_, rfl, ((e1.trans e2).trans s2).trans t3, t4⟩

end
end Go.Gm
namespace Go.Gm
structure Q1 (b : List UInt8) (a : Nat) (st : MSt) (s : (Er × Nat) × MSt) : Prop where
 le : s.1.2 ≤ b.length
 go : s.1.1 = none → a < s.1.2
 nd : s.2.nodes.length ≤ st.nodes.length + 21
 ln : s.2.lines.length ≤ st.lines.length + 1
theorem markS_ok {b : List UInt8} {a : Nat} (ha : a < b.length) (st : MSt) : Q1 b a st (NY b a st) := by
 have hle : a + 1 ≤ b.length := ha
 unfold NY
 split
 ·exact ⟨anyN_le hle, fun _ => by show a < Gi b (a + 1); unfold Gi; omega, by dsimp only; omega, by dsimp only; omega⟩
 ·split
  ·have hM := HK hle [71, 32]
   have hG := litN_ge b (a + 1) [71, 32]
   have e : (BD b (a + 1) [71, 32] [49]).2 = GQ b (a + 1) [71, 32] := rfl
   generalize BD b (a + 1) [71, 32] [49] = M at e
   obtain ⟨er, c⟩ := M
   dsimp only at e
   subst e
   cases er with
   | some e => exact ⟨hM, fun h => (by cases h), by dsimp only; omega, by dsimp only; omega⟩
   | none => have := intS_le hM false []; exact ⟨by dsimp only; omega, fun _ => by dsimp only; omega, by dsimp only; omega, by dsimp only; omega⟩
  ·split
   ·have hM := HK hle [82, 32]
    have hG := litN_ge b (a + 1) [82, 32]
    have e : (BD b (a + 1) [82, 32] [97]).2 = GQ b (a + 1) [82, 32] := rfl
    generalize BD b (a + 1) [82, 32] [97] = M at e
    obtain ⟨er, c⟩ := M
    dsimp only at e
    subst e
    cases er with
    | some e => exact ⟨hM, fun h => (by cases h), by dsimp only; omega, by dsimp only; omega⟩
    | none =>
     dsimp only
     have := rulS_le (rest := []) hM
     generalize Mc b (GQ b (a + 1) [82, 32]) [] = M at this
     obtain ⟨er, d⟩ := M
     dsimp only at this
     cases er with
     | some e => exact ⟨this.2, fun h => (by cases h), by dsimp only; omega, by dsimp only; omega⟩
     | none => exact ⟨this.2, fun _ => by dsimp only; omega, by dsimp only; omega, by dsimp only; omega⟩
   ·exact ⟨hle, fun h => (by cases h), by dsimp only; omega, by dsimp only; omega⟩
theorem leafS_ok {b : List UInt8} {a : Nat} (ha : a < b.length) (st : MSt) (hs : A8 b a [46, 42, 36] = true) : Q1 b a st (My b a st) := by
 unfold My
 have hle := GR b (b.length + 1 - a) a 0 0 (List.replicate 64 false) (by omega)
 have hgo : (Cy b (b.length + 1 - a) a 0 0 (List.replicate 64 false)).1 = none → a < (Cy b (b.length + 1 - a) a 0 0 (List.replicate 64 false)).2.1 := by
  rw [show b.length + 1 - a = (b.length - a) + 1 by omega]
  unfold Cy
  rw [hs]
  simp only [if_true]
  split
  ·intro h; cases h
  ·split
   ·have := GR b (b.length - a) (a + 1) 0 (0 + 1) (List.replicate 64 false) (by omega); intro _; omega
   ·have := GR b (b.length - a) (a + 1) (0 + 1) 0 ((List.replicate 64 false).set (0 * 8 + 0) (A8 b a [42])) (by omega); intro _; omega
 generalize Cy b (b.length + 1 - a) a 0 0 (List.replicate 64 false) = R at hle hgo
 obtain ⟨er, c, on⟩ := R
 cases er with
 | some e => exact ⟨hle.2.1, fun h => (by cases h), by dsimp only; omega, by dsimp only; omega⟩
 | none =>
  have := OH (onQ on) 3 0 0 st.nodes
  rw [show sqM 3 = 21 from rfl] at this
  exact ⟨hle.2.1, fun _ => hgo rfl, this, by simp⟩
theorem nodeS_ok {b : List UInt8} {a : Nat} (ha : a < b.length) (st : MSt) : Q1 b a st (Mm b a st) := by
 unfold Mm
 have hle : (Cc b a).2.1 ≤ b.length := by
  unfold Cc
  split
  ·exact Nat.le_of_lt ha
  ·exact (OM b _ a 0 (by omega)).2
 have hgo : (Cc b a).1 = none → a < (Cc b a).2.1 := by
  unfold Cc
  split
  ·intro e; cases e
  ·rw [show b.length + 1 - a = (b.length - a) + 1 by omega]
   unfold Gh
   cases hs : A8 b a BT with
   | true =>
    simp only [if_true]
    split
    ·intro e; cases e
    ·have := OM b (b.length - a) (a + 1) (10 * 0 + D3 b a) (by omega); intro _; omega
   | false => simp only [Bool.false_eq_true, if_false, if_true]; intro e; cases e
 generalize Cc b a = M at hle hgo
 obtain ⟨er, c, lv⟩ := M
 dsimp only at hle hgo ⊢
 cases er with
 | some e => exact ⟨hle, fun h => (by cases h), by dsimp only; omega, by dsimp only; omega⟩
 | none =>
  have := hgo rfl
  have hkl := PV b st.lines (lv : Int) 4 0 c ⟨(lv : Int), 0, 0, 0, 0⟩ [32, 48, 32, 48, 32, 48] hle
  dsimp only
  generalize Eu b st.lines (lv : Int) 4 0 c ⟨(lv : Int), 0, 0, 0, 0⟩ [32, 48, 32, 48, 32, 48] = M at hkl
  obtain ⟨er, c', x⟩ := M
  dsimp only at hkl ⊢
  cases er with
  | some e => exact ⟨hkl.2.1, fun h => (by cases h), by dsimp only; omega, by dsimp only; omega⟩
  | none => exact ⟨hkl.2.1, fun _ => by dsimp only; omega, by simp, by simp⟩
theorem lineS_ok {b : List UInt8} {a : Nat} (ha : a < b.length) (N : Int) (st : MSt) : Q1 b a st (rlS b N a st) := by
 unfold rlS
 split
 ·exact markS_ok ha st
 ·split
  ·exact ⟨Nat.le_of_lt ha, fun h => (by cases h), by dsimp only; omega, by dsimp only; omega⟩
  ·split
   ·rename_i h; exact leafS_ok ha st h
   ·exact nodeS_ok ha st
theorem endS_le {b : List UInt8} {a : Nat} (ha : a ≤ b.length) (rest : List UInt8) : a ≤ (HQ b a rest).2 ∧ (HQ b a rest).2 ≤ b.length := by
 refine ⟨?_, eolN_le ha⟩
 show a ≤ eolN b a
 unfold eolN crN
 split
 ·exact Nat.le_refl _
 ·split <;> split <;> omega
theorem oneS_ok {b : List UInt8} {a : Nat} (ha : a < b.length) (N : Int) (st : MSt) : Q1 b a st (Kk b N a st) := by
 unfold Kk
 have h := lineS_ok ha N st
 generalize rlS b N a st = M at h
 obtain ⟨⟨er, c⟩, st'⟩ := M
 obtain ⟨h1, h2, h3, h4⟩ := h
 cases er with
 | some e => exact ⟨h1, h2, h3, h4⟩
 | none =>
  have := endS_le h1 []
  have := h2 rfl
  exact ⟨by dsimp only at *; omega, fun _ => by dsimp only at *; omega, h3, h4⟩
def endE (b : List UInt8) (s : (Er × Nat) × MSt) : (Er × Nat) × MSt := match s with
 | ((some e, c), st') => ((some e, c), st')
 | ((none, c), st') => (HQ b c [], st')
section
variable {b0 p a : Nat} {b : List UInt8} {bx N : Int} {st : MSt} {H : Ab}
theorem one_end (hb : b.length < 1152921504606846976) {H0 : Ab} {x : Out} {s : (Er × Nat) × MSt} (he : NN b0 p b bx N H x (.tup []) s) (hs : s.1.2 ≤ b.length) :
  NN b0 p b bx N H (bK H0 x fun _ H' => Sh.f34 H0 (.ptr p 0 0) H') (.tup []) (endE b s) := by
 unfold endE
 obtain ⟨⟨er, c⟩, st'⟩ := s
 obtain ⟨H1, rfl, e1, h1⟩ := he
 dsimp only at hs e1 h1 ⊢
 cases er with
 | some e => exact ⟨H1, rfl, e1, h1⟩
 | none =>
  obtain ⟨v, w, h1⟩ := h1
  obtain ⟨h2, e2⟩ := h1.go0 (HQ b c []).2
  have hx := lx_endS h1.lx hs hb [] (by decide)
  refine ⟨_, ?_, e1.trans e2, _, _, h2⟩
  unfold Sh.f34
  simp only [Bz, GMb, GMc, HPa, HPc, HPd, HPe, HPz, Nat.reduceAdd, Nat.reduceLT, hx]
  cases (HQ b c []).1 <;> simp only [Bz, Bo, GMb, GMc, HPa, HPc, HPd, HPe, HPz, Nat.reduceAdd, Nat.reduceLT]
theorem rd_one (h : RD b0 p b a bx N st H) (ha : a < b.length) (hb : b.length < 1152921504606846976) (hn : st.nodes.length + 100 < 3000000000000) (hll : st.lines.length < 3000000000000) : NN b0 p b bx N H (Sh.f1p (.ptr p 0 0) H) (.tup []) (Kk b N a st) := by
 have hok := lineS_ok ha N st
 have key : ∀ x, NN b0 p b bx N H x (.tup []) (rlS b N a st) → NN b0 p b bx N H (bK H x fun _ H' => Sh.f34 H (.ptr p 0 0) H') (.tup []) (Kk b N a st) := fun x hx => one_end hb hx hok.le
 have hh := h
 obtain ⟨v, w, h⟩ := h
 have hle : a ≤ b.length := Nat.le_of_lt ha
 have hld6 := B7 (o := 6) (sz := 1) h.lx
 have hld3 := B7 (o := 3) (sz := 1) h.lx
 unfold Sh.f1p
 unfold rlS at key
 simp only [GMb, GMc, HPa, HPc, HPd, HPe, HPz, Nat.reduceAdd, Nat.reduceLT, BW h.lx hle]
 cases h1 : A8 b a [35] with
 | true =>
  rw [h1] at key
  simp only [GMb, GMc, HPa, HPc, HPd, HPe, HPz, Nat.reduceAdd, Nat.reduceLT]
  exact key _ (rd_mark hh ha hb)
 | false =>
  rw [h1] at key
  simp only [GMb, GMc, HPa, HPc, HPd, HPe, HPz, Nat.reduceAdd, Nat.reduceLT, BW h.lx hle, Bool.false_eq_true, if_false] at key ⊢
  cases h2 : A8 b a [46, 42, 36, 49, 50, 51, 52, 53, 54, 55, 56, 57] with
  | true =>
   rw [h2] at key
   by_cases h3 : (st.lines.length : Int) ≥ N
   ·simp only [GMb, GMc, HPa, HPc, HPd, HPe, HPz, Nat.reduceAdd, Nat.reduceLT, hld6, hld3, rdR, h.lines.len, h3, if_true] at key ⊢
    exact key (Sh.f6 (.ptr p 0 0) H) ⟨H, rfl, Ext.refl _ _ _, hh⟩
   ·simp only [GMb, GMc, HPa, HPc, HPd, HPe, HPz, Nat.reduceAdd, Nat.reduceLT, hld6, hld3, rdR, h.lines.len, h3, BW h.lx hle, Bool.false_eq_true, if_false] at key ⊢
    cases h4 : A8 b a [46, 42, 36] with
    | true =>
     rw [h4] at key
     simp only [GMb, GMc, HPa, HPc, HPd, HPe, HPz, Nat.reduceAdd, Nat.reduceLT]
     exact key _ (rd_leaf hh hle hb hn hll)
    | false =>
     rw [h4] at key
     simp only [GMb, GMc, HPa, HPc, HPd, HPe, HPz, Nat.reduceAdd, Nat.reduceLT]
     exact key _ (rd_node hh hle hb (by omega) hll)
  | false =>
   rw [h2] at key
   simp only [GMb, GMc, HPa, HPc, HPd, HPe, HPz, Nat.reduceAdd, Nat.reduceLT, BW h.lx hle, Bool.false_eq_true, if_false] at key ⊢
   cases h4 : A8 b a [46, 42, 36] with
   | true =>
    rw [h4] at key
    simp only [GMb, GMc, HPa, HPc, HPd, HPe, HPz, Nat.reduceAdd, Nat.reduceLT]
    exact key _ (rd_leaf hh hle hb hn hll)
   | false =>
    rw [h4] at key
    simp only [GMb, GMc, HPa, HPc, HPd, HPe, HPz, Nat.reduceAdd, Nat.reduceLT]
    exact key _ (rd_node hh hle hb (by omega) hll)
theorem all_loop (hb : b.length < 1152921504606846976) (H0 : Ab) : ∀ (m a : Nat) (st : MSt) (H : Ab), a ≤ b.length → b.length - a < m → ∀ n, m ≤ n → st.nodes.length + 21 * (b.length - a) + 200 < 3000000000000 → st.lines.length + (b.length - a) + 200 < 3000000000000 → RD b0 p b a bx N st H →
  NN b0 p b bx N H (Ap (fun rec1 vs H => Sh.f35 H0 rec1 (ag vs 0) H) n [.ptr p 0 0] H) (.tup []) (C1 b N m a st) := by
 intro m
 induction m with
 | zero => intro a st H _ h; omega
 | succ m ih =>
  intro a st H ha hm n hn h1 h2 h
  obtain ⟨n, rfl⟩ : ∃ k, n = k + 1 := ⟨n - 1, by omega⟩
  rw [Ea]
  generalize hg : Ap (fun rec1 vs H => Sh.f35 H0 rec1 (ag vs 0) H) n = rec
  have hh := h
  obtain ⟨v, w, h⟩ := h
  unfold Sh.f35 C1
  simp only [GMb, GMc, HPa, HPc, HPd, HPe, HPz, Nat.reduceAdd, Nat.reduceLT, GN h.lx]
  by_cases he : a = b.length
  ·simp only [he, GMb, GMc, HPa, HPc, HPd, HPe, HPz, Nat.reduceAdd, Nat.reduceLT, if_true]
   rw [he] at hh
   exact ⟨H, rfl, Ext.refl _ _ _, hh⟩
  ·have hlt : a < b.length := by omega
   obtain ⟨H1, r1, r2, r3⟩ := rd_one hh hlt hb (by omega) (by omega)
   have hok := oneS_ok hlt N st
   simp only [he, GMb, GMc, HPa, HPc, HPd, HPe, HPz, Nat.reduceAdd, Nat.reduceLT, r1, if_false]
   generalize Kk b N a st = M at r2 r3 hok
   obtain ⟨⟨er, c⟩, st'⟩ := M
   obtain ⟨k1, k2, k3, k4⟩ := hok
   dsimp only at r2 r3 k1 k2 k3 k4 ⊢
   cases er with
   | some e =>
    simp only [Bo, GMb, GMc, HPa, HPc, HPd, HPe, HPz, Nat.reduceAdd, Nat.reduceLT]
    exact ⟨H1, rfl, r2, r3⟩
   | none =>
    have := k2 rfl
    obtain ⟨H2, s1, s2, s3⟩ := ih c st' H1 k1 (by omega) n (by omega) (by omega) (by omega) r3
    rw [hg] at s1
    simp only [Bz, GMb, GMc, HPa, HPc, HPd, HPe, HPz, Nat.reduceAdd, Nat.reduceLT, s1]
    exact ⟨H2, rfl, r2.trans s2, s3⟩
theorem rd_all (h : RD b0 p b 0 bx N st H) (hb : b.length < 100000000000) (hn : st.nodes.length = 0) (hl : st.lines.length = 0) : NN b0 p b bx N H (Sh.fy (.ptr p 0 0) H) (.tup []) (Jn b N st) := by
 have hb' : b.length < 1152921504606846976 := by omega
 obtain ⟨v, w, h⟩ := h
 have hM := HK (Nat.zero_le b.length) D7
 have e : (BD b 0 D7 []).2 = GQ b 0 D7 := rfl
 have hx := Mw h.lx (Nat.zero_le _) hb' D7 [] (by decide) (by decide)
 unfold Sh.fy Jn
 unfold D7 at hx
 rw [show BD b 0 [91, 77, 50, 93] [] = BD b 0 D7 [] from rfl] at hx
 simp only [GMb, GMc, HPa, HPc, HPd, HPe, HPz, Nat.reduceAdd, Nat.reduceLT, hx]
 generalize BD b 0 D7 [] = M at e
 obtain ⟨er, c⟩ := M
 dsimp only at e ⊢
 subst e
 obtain ⟨h1, e1⟩ := h.go0 (GQ b 0 D7)
 cases er with
 | some e =>
  simp only [Bo, GMb, GMc, HPa, HPc, HPd, HPe, HPz, Nat.reduceAdd, Nat.reduceLT]
  exact ⟨_, rfl, e1, _, _, h1⟩
 | none =>
  have hany := anyN_le hM
  obtain ⟨h2, e2⟩ := h1.go0 (Gi b (GQ b 0 D7))
  have hx2 := lx_endS h2.lx hany hb' [] (by decide)
  simp only [Bz, GMb, GMc, HPa, HPc, HPd, HPe, HPz, Nat.reduceAdd, Nat.reduceLT, lx_any h1.lx hM hb', hx2]
  have hle := endS_le hany []
  generalize HQ b (Gi b (GQ b 0 D7)) [] = M at hle
  obtain ⟨er, d⟩ := M
  dsimp only at hle ⊢
  obtain ⟨h3, e3⟩ := h2.go0 d
  cases er with
  | some e =>
   simp only [Bo, GMb, GMc, HPa, HPc, HPd, HPe, HPz, Nat.reduceAdd, Nat.reduceLT]
   exact ⟨_, rfl, (e1.trans e2).trans e3, _, _, h3⟩
  | none =>
   simp only [Bz, GMb, GMc, HPa, HPc, HPd, HPe, HPz, Nat.reduceAdd, Nat.reduceLT]
   obtain ⟨H4, r1, r2, r3⟩ := all_loop (b0 := b0) (p := p) (bx := bx) (N := N) hb' H (b.length + 1) d st _ hle.2 (by omega) AM (by rw [Dm]; omega) (by omega) (by omega) ⟨_, _, h3⟩
   rw [r1]
   exact ⟨H4, rfl, ((e1.trans e2).trans e3).trans r2, r3⟩
def Rz (er : Er) : Aa := match er with
 | none => .agg [.int .i64 0, .str []]
 | some e => .agg [.int .i64 e.1, .str e.2]
theorem Rd (h : RD b0 p b 0 bx N st H) (hb : b.length < 100000000000) (hn : st.nodes.length = 0) (hl : st.lines.length = 0) : ∃ H', Sh.fz (.bfn 21 [.ptr p 0 0]) H = some (.ret (Rz (Jn b N st).1.1), H') ∧ Ext b0 p H H' ∧ RD b0 p b (Jn b N st).1.2 bx N (Jn b N st).2 H' := by
 obtain ⟨H1, r1, r2, r3⟩ := rd_all h hb hn hl
 refine ⟨H1, ?_, r2, r3⟩
 have ho : ent 21 (ap1 Sh.fy) noO 21 [.ptr p 0 0] H = Sh.fy (.ptr p 0 0) H := by
  unfold ent; rw [if_pos rfl]; rfl
 unfold Sh.fz OT
 simp only [ho, r1, GMb, GMc]
 cases (Jn b N st).1.1 with
 | none => rfl
 | some e => rfl

end
end Go.Gm
namespace Go.Gm
theorem c05_kid {L : List Nd} {tk : Tok} {i : Nat} (hi : i < L.length) (h1 : 1 ≤ L[i].lv) (h2 : L[i].lv ≤ 1329) (c : Int) (H : Ab) (hL : L.length < 1152921504606846976) : Sh.f1q (.sl (enL cNd L) tk) (.int .i64 (i : Int)) (.int .i64 c) H = some (.ret (.bool (BS L i L[i] c)), H) := by
 unfold Sh.f1q
 simp only [GMb, GMc, HPa, HPc, HPd, HPe, HPz, Nat.reduceAdd, Nat.reduceLT, Av hi, Gn, Bl, DM, CP, DH]
 generalize L[i] = x at h1 h2
 by_cases hc : c = 0
 ·have : BS L i x c = true := by
   unfold BS
   simp only [Bool.and_eq_true, decide_eq_true_eq]; exact ⟨⟨by omega, fun _ => by omega⟩, fun _ h => by omega⟩
  rw [this]
  simp only [hc, GMb, GMc, HPa, HPc, HPd, HPe, HPz, Nat.reduceAdd, Nat.reduceLT]
 ·simp only [hc, GMb, GMc, HPa, HPc, HPd, HPe, HPz, Nat.reduceAdd, Nat.reduceLT, Bl]
  by_cases hl : x.lv = 1
  ·have : BS L i x c = (decide (c > 0) && decide (c ≤ 255)) := by
    unfold BS
    rw [Bool.eq_iff_iff]; simp only [Bool.and_eq_true, decide_eq_true_eq]
    exact ⟨fun h => ⟨by omega, h.1.2 hl⟩, fun h => ⟨⟨by omega, fun _ => h.2⟩, fun h' => by omega⟩⟩
   rw [this]
   by_cases h0 : c > 0
   ·simp only [hl, h0, GMb, GMc, HPa, HPc, HPd, HPe, HPz, Nat.reduceAdd, Nat.reduceLT]
   ·simp only [hl, h0, GMb, GMc, HPa, HPc, HPd, HPe, HPz, Nat.reduceAdd, Nat.reduceLT]
  ·simp only [hl, GMb, GMc, HPa, HPc, HPd, HPe, HPz, Nat.reduceAdd, Nat.reduceLT]
   by_cases h0 : c > 0
   ·by_cases hci : c ≤ (i : Int)
    ·obtain ⟨m, rfl⟩ : ∃ m : Nat, c = ((m + 1 : Nat) : Int) := ⟨(c - 1).toNat, by omega⟩
     have hm : m < L.length := by omega
     have hw : IntKind.i64.wrap (((m + 1 : Nat) : Int) - 1) = (m : Int) := by rw [A0] <;> omega
     have hw2 : IntKind.i64.wrap (x.lv - 1) = x.lv - 1 := A0 (by omega) (by omega)
     have : BS L i x ((m + 1 : Nat) : Int) = decide (L[m].lv = x.lv - 1) := by
      unfold BS
      rw [Bool.eq_iff_iff]; simp only [Bool.and_eq_true, decide_eq_true_eq, show (((m + 1 : Nat) : Int) - 1).toNat = m by omega, List.getElem?_eq_getElem hm, Option.some.injEq]
      exact ⟨fun h => (h.2 (by omega) h0).2 _ rfl, fun h => ⟨⟨by omega, fun h' => absurd h' hl⟩, fun _ _ => ⟨hci, fun y e => by rw [← e]; exact h⟩⟩⟩
     rw [this]
     simp only [h0, hci, GMb, GMc, HPa, HPc, HPd, HPe, HPz, Nat.reduceAdd, Nat.reduceLT, hw, hw2, Av hm, Ah, Au, Bl]
    ·have : BS L i x c = false := by
      unfold BS
      rw [Bool.and_eq_false_iff]; right
      rw [decide_eq_false_iff_not]; intro h; exact hci (h (by omega) h0).1
     rw [this]
     simp only [h0, hci, GMb, GMc, HPa, HPc, HPd, HPe, HPz, Nat.reduceAdd, Nat.reduceLT]
   ·have : BS L i x c = false := by
     unfold BS
     rw [Bool.and_eq_false_iff, Bool.and_eq_false_iff]; left; left
     rw [decide_eq_false_iff_not]; omega
    rw [this]
    simp only [h0, GMb, GMc, HPa, HPc, HPd, HPe, HPz, Nat.reduceAdd, Nat.reduceLT]
theorem c05_loose (L : List Nd) (tk : Tok) (H : Ab) (hL : L.length < 1152921504606846976) : Sh.f1r (.sl (enL cNd L) tk) H = some (.ret (.bool (Ao L)), H) := by
 unfold Sh.f1r
 rw [show Ao L = (List.range L.length).all (DD L) from rfl]
 simp only [GMb, GMc, HPa, HPc, HPd, HPe, HPz, Nat.reduceAdd, Nat.reduceLT, A3]
 have key : ∀ (d i : Nat) (G : Ab), i + d = L.length → (∀ j, j < i → DD L j = true) → ∀ n, d < n → Ap (fun rec1 vs H1 => Sh.f10 H rec1 (ag vs 0) (ag vs 1) (ag vs 2) (ag vs 3) H1) n [.sl (enL cNd L) tk, .sl (enL cNd L) tk, .int .i64 (L.length : Int), .int .i64 (i : Int)] (H ++ G) = some (.ret (.bool ((List.range L.length).all (DD L))), H) := by
  intro d
  induction d with
  | zero =>
   intro i G hi hall n hn
   obtain ⟨n, rfl⟩ : ∃ k, n = k + 1 := ⟨n - 1, by omega⟩
   have : (List.range L.length).all (DD L) = true := by
    rw [List.all_eq_true]; intro j hj; exact hall j (by have := List.mem_range.1 hj; omega)
   rw [Ea, this]
   generalize Ap (fun rec1 vs H1 => Sh.f10 H rec1 (ag vs 0) (ag vs 1) (ag vs 2) (ag vs 3) H1) n = rec
   unfold Sh.f10
   have hi' : ¬ (i : Int) < (L.length : Int) := by omega
   simp only [GMb, GMc, HPa, HPc, HPd, HPe, HPz, Nat.reduceAdd, Nat.reduceLT, hi']
  | succ d ih =>
   intro i G hi hall n hn
   obtain ⟨n, rfl⟩ : ∃ k, n = k + 1 := ⟨n - 1, by omega⟩
   have hlt : i < L.length := by omega
   have hi' : (i : Int) < (L.length : Int) := by omega
   rw [Ea]
   have hno : DD L i = false → (List.range L.length).all (DD L) = false := fun h => by rw [List.all_eq_false]; exact ⟨i, by simpa using hlt, by simp [h]⟩
   have hyes : DD L i = true → ∀ G', Ap (fun rec1 vs H1 => Sh.f10 H rec1 (ag vs 0) (ag vs 1) (ag vs 2) (ag vs 3) H1) n [.sl (enL cNd L) tk, .sl (enL cNd L) tk, .int .i64 (L.length : Int), .int .i64 ((i + 1 : Nat) : Int)] (H ++ G') = some (.ret (.bool ((List.range L.length).all (DD L))), H) := fun h G' => ih (i + 1) G' (by omega) (fun j hj => by
    by_cases e : j = i
    ·rw [e]; exact h
    ·exact hall j (by omega)) n (by omega)
   generalize Ap (fun rec1 vs H1 => Sh.f10 H rec1 (ag vs 0) (ag vs 1) (ag vs 2) (ag vs 3) H1) n = rec at hyes
   unfold Sh.f10
   have hg : L[i]? = some L[i] := List.getElem?_eq_getElem hlt
   simp only [GMb, GMc, HPa, HPc, HPd, HPe, HPz, Nat.reduceAdd, Nat.reduceLT, Az, hi', Av hlt, Gn, Bl, DM, CP, DH]
   by_cases h1 : L[i].lv < 1
   ·have : DD L i = false := by simp only [DD, hg]; simp; intro; omega
    rw [hno this]
    simp only [h1, GMb, GMc, HPa, HPc, HPd, HPe, HPz, Nat.reduceAdd, Nat.reduceLT]
   ·by_cases h2 : L[i].lv > 1329
    ·have : DD L i = false := by simp only [DD, hg]; simp; intro; omega
     rw [hno this]
     simp only [h1, h2, GMb, GMc, HPa, HPc, HPd, HPe, HPz, Nat.reduceAdd, Nat.reduceLT, Bl, DM, CP, DH]
    ·have hd : DD L i = (List.range 4).all fun k => BS L i L[i] (L[i].kid k) := by
      simp only [DD, hg]; rw [decide_eq_true (by omega)]; rfl
     simp only [h1, h2, GMb, GMc, HPa, HPc, HPd, HPe, HPz, Nat.reduceAdd, Nat.reduceLT, Bl, DM, CP, DH]
     have := DF 4 (fun k => BS L i L[i] (L[i].kid k)) (fun k => [.sl (enL cNd L) tk, .int .i64 (i : Int), .sl (enL cNd L) tk, .int .i64 (L.length : Int), .int .i64 (i : Int), .agg (Gq L[i]), .int .i64 (k : Int)]) (H ++ (G ++ [.cel 0 (cNd L[i])])) (rec [.sl (enL cNd L) tk, .sl (enL cNd L) tk, .int .i64 (L.length : Int), .int .i64 ((i + 1 : Nat) : Int)] (H ++ (G ++ [.cel 0 (cNd L[i])]))) (some (.ret (.bool false), H)) (by decide) (fun rec2 k hk => ?_) (fun rec2 => ?_)
      (G := fun rec2 vs H1 => Sh.f36 H rec rec2 (ag vs 0) (ag vs 1) (ag vs 2) (ag vs 3) (ag vs 4) (ag vs 5) (ag vs 6) H1)
     ·refine this.trans ?_
      rw [← hd]
      cases hb : DD L i with
      | true => simp only [if_true]; exact hyes hb _
      | false => simp only [Bool.false_eq_true, if_false]; rw [hno hb]
     ·have hk' : (k : Int) < 4 := by omega
      unfold Sh.f36
      simp only [GMb, GMc, HPa, HPc, HPd, HPe, HPz, Nat.reduceAdd, Nat.reduceLT, Az, hk', ag_kid _ hk, c05_kid hlt (by omega) (by omega) (L[i].kid k) _ hL]
      cases BS L i L[i] (L[i].kid k) with
      | true => simp only [GMb, GMc, HPa, HPc, HPd, HPe, HPz, Nat.reduceAdd, Nat.reduceLT, Aw (show k < 9223372036854775807 by omega), if_true]
      | false => simp only [GMb, GMc, HPa, HPc, HPd, HPe, HPz, Nat.reduceAdd, Nat.reduceLT, Bool.false_eq_true, if_false]
     ·unfold Sh.f36
      simp only [GMb, GMc, HPa, HPc, HPd, HPe, HPz, Nat.reduceAdd, Nat.reduceLT, Az, show ¬ (((4 : Nat) : Int) < 4) from by decide, Aw (show i < 9223372036854775807 by omega)]
 have := key L.length 0 [] (by omega) (fun j hj => by omega) AM (by rw [Dm]; exact hL)
 rw [List.append_nil] at this
 exact this
end Go.Gm
namespace Go.Gm
def N8 (F : List Bool) (x : Nd) (k : Nat) : Bool := !decide (x.kid k = 0) && (decide (x.lv = 1) || F.getD (x.kid k).toNat false)
def fulS (F : List Bool) (x : Nd) : Bool := (List.range 4).any (N8 F x)
theorem ful_emp {E : List Bool} {x : Nd} (h1 : 1 ≤ x.lv) (hE : ∀ k, k < 4 → 1 < x.lv → (x.kid k).toNat < E.length) : fulS (E.map (!·)) x = !Kv E x := by
 unfold fulS Kv
 have each : ∀ k, k < 4 → N8 (E.map (!·)) x k = !(decide (x.kid k = 0) || (decide (1 < x.lv) && E.getD (x.kid k).toNat true)) := by
  intro k hk
  unfold N8
  by_cases hl : x.lv = 1
  ·have : ¬ 1 < x.lv := by omega
   simp [hl]
  ·have hl1 : 1 < x.lv := by omega
   have := hE k hk hl1
   simp [hl, hl1, List.getD_eq_getElem?_getD, List.getElem?_eq_getElem this]
 show ((N8 _ x 0 || (N8 _ x 1 || (N8 _ x 2 || (N8 _ x 3 || false))))) = !(_ && (_ && (_ && (_ && true))))
 rw [each 0 (by omega), each 1 (by omega), each 2 (by omega), each 3 (by omega)]
 simp only [Bool.not_and, Bool.not_true]
theorem c05_full1 {H : Ab} {pn po q m : Nat} {x : Nd} {F : List Bool} (hn : H[pn]? = some (.cel 0 (cNd x))) (ho : H[po]? = some (.cel 0 [.ms q 0 0 m m 1 true])) (hq : H[q]? = some (.cel 0 (flat cB F))) (hm : F.length = m) {k : Nat} (hk : k < 4) (h0 : 0 ≤ x.kid k) (hb : x.lv ≠ 1 → x.kid k ≠ 0 → (x.kid k).toNat < m) :
  Sh.f2j (.int .i64 (x.kid k)) (.ptr pn 0 0) (.ptr po 0 0) H = some (.ret (.bool (N8 F x k)), H) := by
 have l1 := GO hn
 have l2 := B7 (o := 0) (sz := 1) ho
 unfold Sh.f2j N8
 by_cases hc : x.kid k = 0
 ·simp only [hc, GMb, GMc, HPa, HPc, HPd, HPe, HPz, Nat.reduceAdd, Nat.reduceLT]
 ·by_cases hl : x.lv = 1
  ·simp only [hc, hl, l1, GMb, GMc, HPa, HPc, HPd, HPe, HPz, Nat.reduceAdd, Nat.reduceLT]
  ·have hlt := hb hl hc
   obtain ⟨c, hcc⟩ : ∃ c : Nat, x.kid k = (c : Int) := ⟨(x.kid k).toNat, by omega⟩
   rw [hcc, Int.toNat_natCast] at hlt
   have hi := Ew (sz := 1) (id := q) (g := 0) (off := 0) (n := m) (cap := m) (ex := true) (K := .i64) hlt
   have hld := HJ (f := cB) (l := F) (AY hq) (show c < F.length by omega)
   simp only [Nat.zero_add, Nat.mul_one] at hi
   rw [hcc] at hc ⊢
   simp only [hc, hl, l1, l2, GMb, GMc, HPa, HPc, HPd, HPe, HPz, Nat.reduceAdd, Nat.reduceLT, hi, hld, Int.toNat_natCast, List.getD_eq_getElem?_getD, List.getElem?_eq_getElem (show c < F.length by omega), Option.getD_some, List.getElem?_cons_zero]
theorem c05_any {H : Ab} {pn po q m : Nat} {x : Nd} {F : List Bool} (hn : H[pn]? = some (.cel 0 (cNd x))) (ho : H[po]? = some (.cel 0 [.ms q 0 0 m m 1 true])) (hq : H[q]? = some (.cel 0 (flat cB F))) (hm : F.length = m) (h0 : ∀ k, k < 4 → 0 ≤ x.kid k) (hb : ∀ k, k < 4 → x.lv ≠ 1 → x.kid k ≠ 0 → (x.kid k).toNat < m) :
  Sh.f1t (.ms pn 0 1 4 4 1 true) (.fn 110 [.ptr pn 0 0, .ptr po 0 0]) H = some (.ret (.bool (fulS F x)), H) := by
 unfold Sh.f1t Sh.f2k
 simp only [GMb, GMc, len_ms, show ((4 : Nat) : Int) = 4 from rfl]
 have key := HH (G := fun rec1 vs H1 => Sh.f37 H rec1 (ag vs 0) (ag vs 1) (ag vs 2) (ag vs 3) H1) 4 (N8 F x) (fun k => [.ms pn 0 1 4 4 1 true, .fn 110 [.ptr pn 0 0, .ptr po 0 0], .int .i64 4, .int .i64 (k : Int)]) H (some (.ret (.int .i64 (-1)), H)) (fun k => some (.ret (.int .i64 (k : Int)), H)) (by decide) (fun rec k hk => ?_) (fun rec => ?_)
 ·rw [show (((0 : Nat) : Int)) = 0 from rfl] at key
  rw [key]
  cases hf : (List.range 4).find? (N8 F x) with
  | none =>
   have : fulS F x = false := by
    unfold fulS
    rw [List.any_eq_false]
    intro k hk
    exact List.find?_eq_none.1 hf k hk
   simp only [GMb, GMc, this, show decide ((-1 : Int) ≥ 0) = false from by decide]
  | some k =>
   have : fulS F x = true := by
    unfold fulS
    rw [List.any_eq_true]
    exact ⟨k, List.mem_of_find?_eq_some hf, List.find?_some hf⟩
   simp only [GMb, GMc, this, show decide ((k : Int) ≥ 0) = true from by simp]
 ·have hk' : (k : Int) < 4 := by omega
  have hi := Ew (sz := 1) (id := pn) (g := 0) (off := 1) (n := 4) (cap := 4) (ex := true) (K := .i64) hk
  have hld := Rr hn hk
  have hfull := c05_full1 hn ho hq hm hk (h0 k hk) (hb k hk)
  simp only [Nat.mul_one] at hi
  unfold Sh.f37 B8
  simp only [GMb, GMc, Az, hk', hi, hld, RO, ent, if_true, List.cons_append, List.nil_append, ap3, hfull]
  cases N8 F x k with
  | true => simp only [GMb, GMc, if_true]
  | false => simp only [GMb, GMc, Bool.false_eq_true, if_false, Aw (show k < 9223372036854775807 by omega)]
 ·unfold Sh.f37
  simp only [GMb, GMc, Az, show ¬ (((4 : Nat) : Int) < 4) from by decide]
theorem map_take_not (L : List Nd) (i : Nat) (hi : i < L.length) : ((Aq (L.take i)).map (!·) ++ List.replicate (L.length - i) false).set (i + 1) (!Kv (Aq (L.take i)) L[i]) = (Aq (L.take (i + 1))).map (!·) ++ List.replicate (L.length - (i + 1)) false := by
 have hl : ((Aq (L.take i)).map (!·)).length = i + 1 := by rw [List.length_map, BN, List.length_take]; omega
 rw [List.set_append_right _ _ (by omega), hl, Nat.sub_self, RE L hi, List.map_append, show L.length - i = (L.length - (i + 1)) + 1 by omega, List.replicate_succ, List.set_cons_zero, List.append_assoc]
 rfl
theorem c05_full (L : List Nd) (tk : Tok) (H : Ab) (hL : L.length < 140737488355327) (hl : Ao L = true) : Sh.fp (.sl (enL cNd L) tk) H = some (.ret (.sl (enL cB ((Aq L).map (!·))) .no), H) := by
 have hmk := FA (f := cB) (a := false) (n := L.length + 1) (bytes := 1) (H := H) (by omega) (by omega)
 unfold Sh.fp
 simp only [A3, GMb, GMc, HPa, HPc, HPd, HPe, HPz, Nat.reduceAdd, Nat.reduceLT, Aw (show L.length < 9223372036854775807 by omega), hmk]
 have key := Bt (G := fun rec1 vs H1 => Sh.f4c H rec1 (ag vs 0) (ag vs 1) (ag vs 2) (ag vs 3) H1) (σ := Nat × Ab) (fun s => s.1 ≤ L.length)
  (fun s => [.ptr (H.length + 1) 0 0, .sl (enL cNd L) tk, .int .i64 (L.length : Int), .int .i64 (s.1 : Int)]) (fun s => H ++ (.cel 0 (flat cB ((Aq (L.take s.1)).map (!·) ++ List.replicate (L.length - s.1) false)) :: .cel 0 [.ms H.length 0 0 (L.length + 1) (L.length + 1) 1 true] :: s.2)) (fun s => L.length - s.1)
  (fun _ => some (.ret (.sl (enL cB ((Aq L).map (!·))) .no), H)) (fun s rec hs hrec => ?_) (0, []) (Nat.zero_le _) (by dsimp only; omega)
 ·rw [List.take_zero] at key
  have e : (Aq []).map (!·) ++ List.replicate (L.length - 0) false = List.replicate (L.length + 1) false := by simp [Aq, List.replicate_succ]
  rw [e] at key
  exact key
 ·obtain ⟨i, G⟩ := s
  dsimp only at hs hrec ⊢
  unfold Sh.f4c
  by_cases hi : i < L.length
  ·have hi' : (i : Int) < (L.length : Int) := by omega
   obtain ⟨l1, l2, l3⟩ := Ax hl hi
   have hElen : (Aq (L.take i)).length = i + 1 := by rw [BN, List.length_take]; omega
   have hFlen : ((Aq (L.take i)).map (!·) ++ List.replicate (L.length - i) false).length = L.length + 1 := by rw [List.length_append, List.length_map, hElen, List.length_replicate]; omega
   have hfs : fulS ((Aq (L.take i)).map (!·) ++ List.replicate (L.length - i) false) L[i] = !Kv (Aq (L.take i)) L[i] := by
    rw [← ful_emp l1 (fun k hk h1 => by
     obtain ⟨q1, q2, q3⟩ := l3 k hk
     rw [hElen]
     by_cases h0 : 0 < L[i].kid k
     ·have := (q3 h1 h0).1; omega
     ·omega)]
    unfold fulS N8
    congr 1
    funext k
    by_cases hlv : L[i].lv = 1
    ·simp [hlv]
    ·by_cases hk : k < 4
     ·obtain ⟨q1, q2, q3⟩ := l3 k hk
      have : (L[i].kid k).toNat < ((Aq (L.take i)).map (!·)).length := by
       rw [List.length_map, hElen]
       by_cases h0 : 0 < L[i].kid k
       ·have := (q3 (by omega) h0).1; omega
       ·omega
      rw [List.getD_eq_getElem?_getD, List.getElem?_append_left this, List.getD_eq_getElem?_getD]
     ·have e3 : L[i].kid k = L[i].kid 3 := by
       match k, hk with
       | 0, h => exact absurd (by decide) h
       | 1, h => exact absurd (by decide) h
       | 2, h => exact absurd (by decide) h
       | n + 3, _ => rfl
      obtain ⟨q1, q2, q3⟩ := l3 3 (by decide)
      rw [e3]
      have : (L[i].kid 3).toNat < ((Aq (L.take i)).map (!·)).length := by
       rw [List.length_map, hElen]
       by_cases h0 : 0 < L[i].kid 3
       ·have := (q3 (by omega) h0).1; omega
       ·omega
      rw [List.getD_eq_getElem?_getD, List.getElem?_append_left this, List.getD_eq_getElem?_getD]
   have hmt := map_take_not L i hi
   generalize hF : (Aq (L.take i)).map (!·) ++ List.replicate (L.length - i) false = F at *
   have any := c05_any (H := H ++ (.cel 0 (flat cB F) :: .cel 0 [.ms H.length 0 0 (L.length + 1) (L.length + 1) 1 true] :: (G ++ [.cel 0 (cNd L[i])]))) (pn := H.length + (G.length + 1 + 1)) (po := H.length + 1) (q := H.length) (m := L.length + 1) (x := L[i]) (F := F) (by simp) (by simp) (by simp) hFlen (fun k hk => (l3 k hk).1) (fun k hk h1 h0 => by
    obtain ⟨q1, q2, q3⟩ := l3 k hk
    have := (q3 (by omega) (by omega)).1; omega)
   have hsl : GG 4 1 (.ptr (H.length + (G.length + 1 + 1)) 0 1) none none = some (.ms (H.length + (G.length + 1 + 1)) 0 1 4 4 1 true) := by simp [GG, Bc]
   have hix := Ew (sz := 1) (id := H.length) (g := 0) (off := 0) (n := L.length + 1) (cap := L.length + 1) (ex := true) (K := .i64) (i := i + 1) (by omega)
   simp only [Nat.zero_add, Nat.mul_one] at hix
   have hst : ∀ G' t, Al 1 (.ptr H.length 0 (i + 1)) (.bool t) (H ++ (.cel 0 (flat cB F) :: G')) = some (H ++ (.cel 0 (flat cB (F.set (i + 1) t)) :: G')) := fun G' t => by
    rw [FH, K9 rfl (by rw [show flat cB F = F.map Aa.bool from by
     clear hfs hmt any hF hFlen
     induction F with
     | nil => rfl
     | cons c l ih => rw [Ck, ih]; rfl]; simp; omega)]
    simp only [Option.map_some]
    congr 3
    have e : ∀ l : List Bool, flat cB l = l.map Aa.bool := fun l => by
     induction l with
     | nil => rfl
     | cons c l ih => rw [Ck, ih]; rfl
    rw [e, e, List.map_set]
   have next := hrec (i + 1, G ++ [.cel 0 (cNd L[i])]) hi (by dsimp only; omega)
   dsimp only at next
   rw [← hmt] at next
   simp only [GMb, GMc, HPa, HPc, HPd, HPe, HPz, Nat.reduceAdd, Nat.reduceLT, Bl, DM, CP, DH, Az, hi', Av hi, Gn, hsl, any, Aw (show i < 9223372036854775807 by omega), hix, hst, hfs]
   exact next
  ·have hi' : ¬ (i : Int) < (L.length : Int) := by omega
   have : i = L.length := by omega
   subst this
   rw [List.take_length, Nat.sub_self, List.replicate_zero, List.append_nil]
   have hfall := fall_ms (f := cB) (l := (Aq L).map (!·)) (H := H ++ (.cel 0 (flat cB ((Aq L).map (!·))) :: .cel 0 [.ms H.length 0 0 (L.length + 1) (L.length + 1) 1 true] :: G)) (id := H.length) (b := H.length) (d := 5) (cap := L.length + 1) (ex := true) (by simp) (Nat.le_refl _)
   rw [List.length_map, BN] at hfall
   simp only [GMb, GMc, HPa, HPc, HPd, HPe, HPz, Nat.reduceAdd, Nat.reduceLT, Az, hi', hfall]
end Go.Gm
namespace Go.Gm
theorem ful_get (L : List Nd) {n : Nat} (hn : n < L.length + 1) : ((Aq L).map (!·)).getD n false = !(Aq L).getD n true := by
 have h : n < (Aq L).length := by rw [BN]; exact hn
 rw [List.getD_eq_getElem?_getD, List.getD_eq_getElem?_getD, List.getElem?_map, List.getElem?_eq_getElem h]; rfl
theorem ful_idx (L : List Nd) {n : Nat} (hn : n < L.length + 1) (H : Ab) (K : IntKind) : ∃ e, A5 1 (.sl (enL cB ((Aq L).map (!·))) .no) (.int K (n : Int)) = some e ∧ Ad false 1 e H = some (.bool (!(Aq L).getD n true)) := by
 have h : n < ((Aq L).map (!·)).length := by rw [List.length_map, BN]; exact hn
 refine ⟨_, Av h, ?_⟩
 have e := ful_get L hn
 rw [List.getD_eq_getElem?_getD, List.getElem?_eq_getElem h] at e
 simp only [Au, List.getElem?_cons_zero]
 rw [← e]; rfl
theorem RP (L : List Nd) (tk : Tok) (n : Nat) (H : Ab) (hL : L.length < 140737488355327) (hl : Ao L = true) (hn : n ≤ L.length) : Sh.f1u (.sl (enL cNd L) tk) (.int .i64 (n : Int)) H = some (.ret (.bool ((Aq L).getD n true)), H) := by
 obtain ⟨e, h1, h2⟩ := ful_idx L (n := n) (by omega) H .i64
 unfold Sh.f1u
 simp only [GMb, GMc, HPa, HPc, HPd, HPe, HPz, Nat.reduceAdd, Nat.reduceLT, c05_full L tk H hL hl, h1, h2, Bool.not_not]
theorem c05_hollow (L : List Nd) (tk : Tok) (n : Nat) (H : Ab) (hL : L.length < 140737488355327) (hl : Ao L = true) (hn : n ≤ L.length) : Sh.f1v (.sl (enL cNd L) tk) (.int .i64 (n : Int)) H = some (.ret (.bool (Ct L n)), H) := by
 unfold Sh.f1v Ct
 cases n with
 | zero => simp only [GMb, GMc, HPa, HPc, HPd, HPe, HPz, Nat.reduceAdd, Nat.reduceLT, show ((0 : Nat) : Int) = 0 from rfl, ne_eq, not_true_eq_false]
 | succ n =>
  have hi : n < L.length := hn
  have e0 : ¬ ((n + 1 : Nat) : Int) = 0 := by omega
  obtain ⟨l1, l2, l3⟩ := Ax hl hi
  rw [B9 rfl hi]
  generalize hx : L[n] = x at l1 l2 l3
  have hw : IntKind.i64.wrap (((n + 1 : Nat) : Int) - 1) = (n : Int) := by rw [A0] <;> omega
  simp only [GMb, GMc, HPa, HPc, HPd, HPe, HPz, Nat.reduceAdd, Nat.reduceLT, Bl, DM, CP, DH, e0, hw, Av hi, hx, Ah, Au]
  by_cases h2 : x.lv = 1
  ·have : ¬ 2 ≤ x.lv := by omega
   simp only [h2, GMb, GMc, HPa, HPc, HPd, HPe, HPz, Nat.reduceAdd, Nat.reduceLT, show ¬ (2 : Int) ≤ 1 from by decide]
  ·have h2' : 2 ≤ x.lv := by omega
   simp only [h2, h2', GMb, GMc, HPa, HPc, HPd, HPe, HPz, Nat.reduceAdd, Nat.reduceLT, c05_full L tk H hL hl, hw, Av hi, hx, Ah, ld_kids, ne_eq, Nat.succ_ne_zero, not_false_eq_true]
   have key := DF (G := fun rec1 vs H1 => Sh.f39 H rec1 (ag vs 0) (ag vs 1) (ag vs 2) (ag vs 3) H1) 4 (fun k => decide (x.kid k = 0) || (List.range 4).all (M3 L (Aq L) x k))
    (fun k => [.sl (enL cNd L) tk, .sl (enL cB ((Aq L).map (!·))) .no, .agg (Gq x), .int .i64 (k : Int)]) H (some (.ret (.bool true), H)) (some (.ret (.bool false), H)) (by decide) (fun rec k hk => ?_) (fun rec => ?_)
   ·refine key.trans ?_
    rw [show hol L (Aq L) x = (List.range 4).all fun k => decide (x.kid k = 0) || (List.range 4).all (M3 L (Aq L) x k) from rfl]
    cases (List.range 4).all fun k => decide (x.kid k = 0) || (List.range 4).all (M3 L (Aq L) x k) <;> rfl
   ·have hk' : (k : Int) < 4 := by omega
    obtain ⟨q1, q2, q3⟩ := l3 k hk
    have hws : IntKind.i64.wrap ((k : Int) + 1) = ((k + 1 : Nat) : Int) := Aw (by omega)
    unfold Sh.f39
    simp only [GMb, GMc, Az, hk', ag_kid _ hk]
    by_cases hc : x.kid k = 0
    ·simp only [hc, GMb, GMc, hws, if_true]
    ·obtain ⟨m, hm⟩ : ∃ m : Nat, x.kid k = ((m + 1 : Nat) : Int) := ⟨(x.kid k - 1).toNat, by omega⟩
     have h1 : 1 < x.lv := by omega
     obtain ⟨r1, r2⟩ := q3 h1 (by omega)
     have hml : m < L.length := by omega
     have hy := r2 L[m] (by rw [show (x.kid k - 1).toNat = m from by omega]; exact List.getElem?_eq_getElem hml)
     obtain ⟨y1, y2, y3⟩ := Ax hl hml
     have hp : M3 L (Aq L) x k = fun j => decide (j = 3 - k) || (if x.lv = 2 then decide (L[m].kid j = 0) else (Aq L).getD (L[m].kid j).toNat true) := by
      funext j; unfold M3; rw [B9 hm hml]
     have hwm : IntKind.i64.wrap (((m + 1 : Nat) : Int) - 1) = (m : Int) := by rw [A0] <;> omega
     have hc' : ¬ ((m + 1 : Nat) : Int) = 0 := by omega
     rw [hm]
     simp only [hp, hc', GMb, GMc, hwm, Av hml, Ah, Nat.zero_add, ld_kids]
     refine DF (G := fun rec2 vs H1 => Sh.f38 H rec rec2 (ag vs 0) (ag vs 1) (ag vs 2) (ag vs 3) (ag vs 4) (ag vs 5) (ag vs 6) (ag vs 7) H1) 4 _
      (fun j => [.sl (enL cNd L) tk, .sl (enL cB ((Aq L).map (!·))) .no, .int .i64 (k : Int), .int .i64 ((m + 1 : Nat) : Int), .agg (Gq x), .int .i64 (k : Int), .agg (Gq L[m]), .int .i64 (j : Int)]) H _ _ (by decide) (fun rec2 j hj => ?_) (fun rec2 => ?_)
     ·have hj' : (j : Int) < 4 := by omega
      have hw3 : IntKind.i64.wrap (3 - (k : Int)) = 3 - (k : Int) := A0 (by omega) (by omega)
      have hjs : IntKind.i64.wrap ((j : Int) + 1) = ((j + 1 : Nat) : Int) := Aw (by omega)
      have hj3 : decide ((j : Int) = 3 - (k : Int)) = decide (j = 3 - k) := by rw [Bool.eq_iff_iff]; simp only [decide_eq_true_eq]; omega
      unfold Sh.f38
      simp only [GMb, GMc, Az, hj', ag_kid _ hj, hw3, hj3]
      by_cases hjk : j = 3 - k
      ·simp only [hjk, GMb, GMc, if_true]
       simp only [← hjk, hjs]
      ·by_cases hg : L[m].kid j = 0
       ·have : (if x.lv = 2 then decide (L[m].kid j = 0) else (Aq L).getD (L[m].kid j).toNat true) = true := by
         split
         ·simp [hg]
         ·rw [hg]; exact CO L
        simp only [hjk, this, GMb, GMc, if_true]
        simp only [hg, hjs, GMb, GMc]
       ·by_cases hl1 : L[m].lv = 1
        ·have h22 : x.lv = 2 := by omega
         simp only [hjk, h22, GMb, GMc, hg, hwm, Av hml, Ah, Au, Nat.zero_add, Bl, hl1, Bool.false_eq_true, if_true, if_false]
        ·have h22 : ¬ x.lv = 2 := by omega
         obtain ⟨s1, s2, s3⟩ := y3 j hj
         have hlt := (s3 (by omega) (by omega)).1
         obtain ⟨g, hgg⟩ : ∃ g : Nat, L[m].kid j = (g : Int) := ⟨(L[m].kid j).toNat, by omega⟩
         obtain ⟨e, f1, f2⟩ := ful_idx L (n := g) (by omega) H .i64
         rw [hgg] at hg
         simp only [hjk, h22, GMb, GMc, hgg, hg, hwm, Av hml, Ah, Au, Nat.zero_add, Bl, hl1, if_false, f1, f2, Int.toNat_natCast]
         cases (Aq L).getD g true with
         | true => simp only [GMb, GMc, if_true, hjs]
         | false => simp only [GMb, GMc, Bool.false_eq_true, if_false]
     ·unfold Sh.f38
      simp only [GMb, GMc, Az, show ¬ (((4 : Nat) : Int) < 4) from by decide, hws]
   ·unfold Sh.f39
    simp only [GMb, GMc, Az, show ¬ (((4 : Nat) : Int) < 4) from by decide]
theorem c06_inner (L : List Nd) (tk : Tok) (n k : Nat) (H : Ab) (hL : L.length < 140737488355327) (hl : Ao L = true) (hn : n < L.length) (h2 : 2 ≤ L[n].lv) (hk : k < 4) :
  Sh.f1w (.sl (enL cNd L) tk) (.int .i64 ((n + 1 : Nat) : Int)) (.int .i64 (k : Int)) H = some (.ret (.int .i64 (FM L L[n] k)), H) := by
 obtain ⟨l1, l2, l3⟩ := Ax hl hn
 obtain ⟨q1, q2, q3⟩ := l3 k hk
 have hw : IntKind.i64.wrap (((n + 1 : Nat) : Int) - 1) = (n : Int) := by rw [A0] <;> omega
 unfold Sh.f1w FM
 simp only [GMb, GMc, hw, Av hn, Ah, CC hk, Au, Nat.zero_add, Nat.mul_one, C0 hk]
 by_cases hc : L[n].kid k = 0
 ·simp only [hc, GMb, GMc, show ¬ ((0 : Int) > 0) from by decide, if_true]
 ·obtain ⟨m, hm⟩ : ∃ m : Nat, L[n].kid k = ((m + 1 : Nat) : Int) := ⟨(L[n].kid k - 1).toNat, by omega⟩
  obtain ⟨r1, r2⟩ := q3 (by omega) (by omega)
  have hml : m < L.length := by omega
  have hwm : IntKind.i64.wrap (((m + 1 : Nat) : Int) - 1) = (m : Int) := by rw [A0] <;> omega
  have hw3 : IntKind.i64.wrap (3 - (k : Int)) = ((3 - k : Nat) : Int) := by rw [A0] <;> omega
  have hgt : ((m + 1 : Nat) : Int) > 0 := by omega
  have hc' : ¬ ((m + 1 : Nat) : Int) = 0 := by omega
  simp only [B9 (c := ((m + 1 : Nat) : Int)) rfl hml, hm, hgt, hc', GMb, GMc, hwm, hw3, Av hml, Ah, Nat.zero_add, CC (show 3 - k < 4 by omega), Au, Nat.mul_one, C0 (show 3 - k < 4 by omega), if_false]
theorem c_clone (L : List Nd) (tk : Tok) (H : Ab) (hL : L.length < 3518437208883) : Sh.f1s (.sl (enL cNd L) tk) H = some (if L = [] then (.ret (.sl [] .tight), H) else (.ret (.sl (enL cNd L) (.own H.length)), H ++ [.tok L.length As 5])) := by
 have hb : AH 5 [] = some (.sl (enL cNd []) .tight) := rfl
 unfold Sh.f1s
 cases L with
 | nil =>
  have ha : AI As 5 40 (.sl (enL cNd []) .tight) (.sl (enL cNd []) tk) H = some (.sl (enL cNd []) .tight, H) := FV (by simp [BI, enL])
  have hn : nilA .eql (.sl (enL cNd []) tk) = some .ubool := rfl
  have hu : ∀ x : Out, Am .ubool x x = x := fun x => if_pos rfl
  simp only [hn, GMb, GMc, hb, ha]
  exact hu _
 | cons x l =>
  have ha : AI As 5 40 (.sl (enL cNd []) .tight) (.sl (enL cNd (x :: l)) tk) H = some (.sl (enL cNd (x :: l)) (.own H.length), H ++ [.tok (x :: l).length As 5]) := by
   have := Cu (f := cNd) (l := []) (m := x :: l) (ty := As) (bytes := 40) (tk := tk) (H := H) (by simp) (by simp only [List.length_nil]; omega) (by simp only [List.length_nil]; omega)
   simpa using this
  have hn : nilA .eql (.sl (enL cNd (x :: l)) tk) = some (.bool false) := rfl
  simp only [hn, GMb, GMc, hb, ha, reduceCtorEq, if_false]
end Go.Gm
namespace Go.Gm
theorem c06_shrink (L : List Nd) (tk : Tok) (n : Nat) (H : Ab) (hL : L.length < 3518437200000) (hl : Ao L = true) (hn : n ≤ L.length) :
  Sh.f1x (.sl (enL cNd L) tk) (.int .i64 (n : Int)) H = some (.ret (.tup [.sl (enL cNd (Cv L n).1) .no, .int .i64 ((Cv L n).2 : Int)]), H) := by
 unfold Sh.f1x
 rw [c_clone L tk H (by omega)]
 by_cases h0 : L = []
 ·subst h0
  have hn0 : n = 0 := by simpa using hn
  subst hn0
  have he := RP [] .tight 0 H (by simp) hl (Nat.le_refl _)
  have he0 : (Aq ([] : List Nd)).getD 0 true = true := rfl
  have hs : Cv [] 0 = ([], 0) := rfl
  rw [show Aa.sl (enL cNd []) .tight = Aa.sl [] .tight from rfl, he0] at he
  rw [hs]
  have := rPN_self (H0 := H) (v := .tup [.sl [] .tight, .int .i64 0])
  simp only [GMb, GMc, HPa, HPc, HPd, HPe, HPz, Nat.reduceAdd, Nat.reduceLT, if_true, he, this]
  rfl
 ·simp only [GMb, GMc, h0, if_false, RP L _ n _ (show L.length < 140737488355327 by omega) hl hn]
  unfold Cv
  cases hem : (Aq L).getD n true with
  | true => simp only [GMb, GMc, HPa, HPc, HPd, HPe, HPz, Nat.reduceAdd, Nat.reduceLT, if_true]; rfl
  | false =>
   simp only [GMb, GMc, HPa, HPc, HPd, HPe, HPz, Nat.reduceAdd, Nat.reduceLT, Bool.false_eq_true, if_false]
   have hlv : (Ak L n).lv ≤ 1329 := by
    cases n with
    | zero => exfalso; rw [CO] at hem; cases hem
    | succ m => rw [A1 hn]; exact (Ax hl hn).2.1
   have key := Bt (G := fun rec1 vs H1 => Sh.f4d H rec1 (ag vs 0) (ag vs 1) H1) (σ := List Nd × Nat × Ab) (fun s => Ao s.1 = true ∧ s.2.1 ≤ s.1.length ∧ s.1.length + (Ak s.1 s.2.1).lv.toNat < 3518437208883 ∧ s.1.length + (Ak s.1 s.2.1).lv.toNat < 3518437208883)
    (fun s => [.sl (enL cNd s.1) (.own H.length), .int .i64 (s.2.1 : Int)]) (fun s => H ++ .tok s.1.length As 5 :: s.2.2) (fun s => (Ak s.1 s.2.1).lv.toNat)
    (fun s => some (.ret (.tup [.sl (enL cNd (Bm (Ak s.1 s.2.1).lv.toNat s.1 s.2.1).1) .no, .int .i64 ((Bm (Ak s.1 s.2.1).lv.toNat s.1 s.2.1).2 : Int)]), H)) (fun s rec hs hrec => ?_) (L, n, []) ⟨hl, hn, by dsimp only; omega, by dsimp only; omega⟩ (by dsimp only; omega)
   ·exact key
   ·obtain ⟨M, i, G⟩ := s
    obtain ⟨hs1, hs2, hs3, hs4⟩ := hs
    simp only at hs1 hs2 hs3 hs4 hrec ⊢
    unfold Sh.f4d
    simp only [GMb, GMc, Az, c05_hollow M _ i _ (show M.length < 140737488355327 by omega) hs1 hs2]
    cases hh : Ct M i with
    | false =>
     have : Bm (Ak M i).lv.toNat M i = (M, i) := by
      cases (Ak M i).lv.toNat with
      | zero => rfl
      | succ f => simp [Bm, hh]
     simp only [GMb, GMc, HPa, HPc, HPd, HPe, HPz, Nat.reduceAdd, Nat.reduceLT, this]
    | true =>
     obtain ⟨hi0, hlv2⟩ := KI hh
     obtain ⟨m, rfl⟩ : ∃ m, i = m + 1 := ⟨i - 1, by omega⟩
     have hm : m < M.length := hs2
     obtain ⟨l1, l2, l3⟩ := Ax hs1 hm
     have hx : Ak M ((m + 1 : Nat) : Int) = M[m] := A1 hm
     rw [hx] at hlv2 hs3 hrec ⊢
     have hwm : IntKind.i64.wrap (((m + 1 : Nat) : Int) - 1) = (m : Int) := by rw [A0] <;> omega
     have hwl : IntKind.i64.wrap (M[m].lv - 1) = M[m].lv - 1 := A0 (by omega) (by omega)
     have hsf : Bm M[m].lv.toNat M (m + 1) = Bm (M[m].lv - 1).toNat (M ++ [Bw M (m + 1)]) (M.length + 1) := by
      rw [show M[m].lv.toNat = (M[m].lv - 1).toNat + 1 from by omega]
      simp only [Bm, hh, if_true]
     generalize hB : H ++ .tok M.length As 5 :: G = B
     simp only [GMb, GMc, Ah, Aj, Au, Nat.zero_add, Nat.add_zero, Nat.mul_one, Bl, hwm, Av hm, hwl, build_lv, FW, EM (AD (B := B) (cs := cNd nd0)) rfl, Cd]
     refine Cp (G := fun rec2 vs H1 => Sh.f3a H rec rec2 (ag vs 0) (ag vs 1) (ag vs 2) (ag vs 3) H1) 4 (fun k => [.sl (enL cNd M) (.own H.length), .int .i64 ((m + 1 : Nat) : Int), .ptr B.length 0 0, .int .i64 (k : Int)]) (fun k => B ++ [.cel 0 (cNd (QW (FM M M[m]) ⟨M[m].lv - 1, 0, 0, 0, 0⟩ k))]) _ (by decide) (fun rec2 k hk => ?_) (fun rec2 => ?_)
     ·have hk' : (k : Int) < 4 := by omega
      unfold Sh.f3a
      have hinn := c06_inner M (.own H.length) m k (B ++ [.cel 0 (cNd (QW (FM M M[m]) ⟨M[m].lv - 1, 0, 0, 0, 0⟩ k))]) (by omega) hs1 hm hlv2 hk
      simp only [GMb, GMc, Az, hk', hinn, Aj, Nat.zero_add, Ex hk, C6 (AD (B := B)) hk, Cd, Aw (show k < 9223372036854775807 by omega)]
      rfl
     ·have hf : ¬ (((4 : Nat) : Int) < 4) := by decide
      have hel : (⟨M[m].lv - 1, FM M M[m] 0, FM M M[m] 1, FM M M[m] 2, FM M M[m] 3⟩ : Nd) = Bw M (m + 1) := by unfold Bw; rw [hx]
      unfold Sh.f3a
      rw [QV]
      simp only [GMb, GMc, Az, hf, DG (AD (B := B)), FU]
      rw [← hB, List.append_assoc, List.cons_append, RU (by omega)]
      simp only [GMb, GMc, A3, List.length_append, List.length_singleton, hel]
      have hlv' : (Ak (M ++ [Bw M (m + 1)]) ((M.length + 1 : Nat) : Int)).lv = M[m].lv - 1 := by
       rw [A1 (by simp), show (M ++ [Bw M (m + 1)])[M.length]'(by simp) = Bw M (m + 1) from by simp]
       show (Ak M ((m + 1 : Nat) : Int)).lv - 1 = _
       rw [hx]
      have := hrec (M ++ [Bw M (m + 1)], M.length + 1, G ++ [.cel 0 (cNd (Bw M (m + 1)))]) ⟨KH hs1 hm hlv2, by simp, by dsimp only; rw [hlv']; simp; omega, by dsimp only; rw [hlv']; simp; omega⟩ (by dsimp only; rw [hlv']; omega)
      simp only [List.length_append, List.length_singleton] at this
      rw [this, hlv', hsf]
end Go.Gm
namespace Go.Gm
theorem nodup_le : ∀ (N : Nat) (l : List Nat), l.Nodup → (∀ x ∈ l, x < N) → l.length ≤ N := by
 intro N
 induction N with
 | zero =>
  intro l _ h
  cases l with
  | nil => simp
  | cons a l => have := h a (by simp); omega
 | succ N ih =>
  intro l hn h
  by_cases hN : N ∈ l
  ·have h1 := List.length_erase_of_mem hN
   have h2 := ih (l.erase N) (hn.erase N) (fun x hx => by
    rw [hn.mem_erase_iff] at hx
    have := h x hx.2; omega)
   have := List.length_pos_of_mem hN
   omega
  ·have := ih l hn (fun x hx => by
    have := h x hx
    have : x ≠ N := fun e => hN (e ▸ hx)
    omega)
   omega
def knF : Nat → List Nd → List (Aa × Aa)
 | _, [] => []
 | s, x :: l => (.agg (cNd x), .int .i64 ((s + 1 : Nat) : Int)) :: knF (s + 1) l
theorem Qh (a : Nd) (l : List Nd) (y : Nd) : B1 (a :: l) y = if a = y then 1 else if B1 l y = 0 then 0 else B1 l y + 1 := by
 by_cases h : a = y
 ·rw [if_pos h, CD]; exact ⟨by simp [h], fun j hj => by omega⟩
 ·rw [if_neg h]
  cases hf : B1 l y with
  | zero =>
   rw [if_pos rfl, FO]
   rw [FO] at hf
   intro hm
   rcases List.mem_cons.1 hm with e | e
   ·exact h e.symm
   ·exact hf e
  | succ i =>
   rw [if_neg (by omega), CD]
   rw [CD] at hf
   refine ⟨by simpa using hf.1, fun j hj => ?_⟩
   cases j with
   | zero => simpa using h
   | succ j => simpa using hf.2 j (by omega)
theorem key_nd (y : Nd) : C2 true 5 (.agg (cNd y)) = some (cNd y) := (rfl)
theorem Rp (y : Nd) : ∀ (l : List Nd) (s : Nat), CZ true 5 (knF s l) (cNd y) = some (if B1 l y = 0 then none else some (.int .i64 ((s + B1 l y : Nat) : Int)))
 | [], s => by
  have : B1 [] y = 0 := by rw [FO]; simp
  simp [knF, CZ, this]
 | a :: l, s => by
  have ih := Rp y l (s + 1)
  simp only [knF, CZ, key_nd, Bs, MH]
  rw [Qh]
  by_cases h : a = y
  ·subst h; simp
  ·have h' : ¬ y = a := fun e => h e.symm
   rw [decide_eq_false h', if_neg h]
   simp only [Bool.false_eq_true, if_false, ih]
   by_cases h0 : B1 l y = 0
   ·simp [h0]
   ·rw [if_neg h0, if_neg (by rw [if_neg h0]; omega), if_neg h0]
    congr 3; omega
theorem QM (y : Nd) : ∀ (l : List Nd) (s : Nat), B1 l y = 0 → Cm true 5 (knF s l) (.agg (cNd y)) (cNd y) (.int .i64 ((s + l.length + 1 : Nat) : Int)) = some (knF s (l ++ [y]))
 | [], s, _ => rfl
 | a :: l, s, h => by
  rw [Qh] at h
  by_cases ha : a = y
  ·rw [if_pos ha] at h; omega
  ·rw [if_neg ha] at h
   have h0 : B1 l y = 0 := by
    by_cases h0 : B1 l y = 0
    ·exact h0
    ·rw [if_neg h0] at h; omega
   have h' : ¬ y = a := fun e => ha e.symm
   have ih := QM y l (s + 1) h0
   simp only [knF, Cm, key_nd, Bs, MH, List.cons_append]
   rw [decide_eq_false h']
   simp only [Bool.false_eq_true, if_false]
   rw [List.length_cons, show s + (l.length + 1) + 1 = s + 1 + l.length + 1 by omega, ih]
   rfl
def dnM (D : List (Nat × Nat)) : List (Aa × Aa) := D.map fun p => (.int .i64 (p.1 : Int), .int .i64 (p.2 : Int))
def lkD (D : List (Nat × Nat)) (n : Nat) : Option Nat := match D with
 | [] => none
 | p :: r => if p.1 = n then some p.2 else lkD r n
theorem lkD_mem {n m : Nat} : ∀ {D : List (Nat × Nat)}, lkD D n = some m → (n, m) ∈ D
 | [], h => by cases h
 | p :: r, h => by
  unfold lkD at h
  by_cases hp : p.1 = n
  ·rw [if_pos hp] at h; injection h with h; subst hp; subst h; exact List.mem_cons_self
  ·rw [if_neg hp] at h; exact List.mem_cons_of_mem _ (lkD_mem h)
theorem lkD_none {n : Nat} : ∀ {D : List (Nat × Nat)}, lkD D n = none → n ∉ D.map (·.1)
 | [], h => by simp
 | p :: r, h => by
  unfold lkD at h
  by_cases hp : p.1 = n
  ·rw [if_pos hp] at h; cases h
  ·rw [if_neg hp] at h
   have := lkD_none h
   simp only [List.map_cons, List.mem_cons, not_or]
   exact ⟨fun e => hp e.symm, this⟩
theorem lkD_app {n : Nat} {p : Nat × Nat} : ∀ {D : List (Nat × Nat)}, lkD (D ++ [p]) n = (match lkD D n with | some m => some m | none => if p.1 = n then some p.2 else none)
 | [] => by simp [lkD]
 | q :: r => by
  have ih := lkD_app (n := n) (p := p) (D := r)
  simp only [List.cons_append, lkD]
  by_cases hq : q.1 = n
  ·simp only [if_pos hq]
  ·simp only [if_neg hq, ih]
theorem nat_cell (a b : Nat) : Bn [.int .i64 (a : Int)] [.int .i64 (b : Int)] = some (decide (a = b)) := by
 simp only [Bn, EV, if_true, Bs]
 congr 1
 rw [Bool.eq_iff_iff]; simp; omega
theorem ON (a : Int) : C2 false 1 (.int .i64 a) = some [.int .i64 a] := (rfl)
theorem Rq (n : Nat) : ∀ D : List (Nat × Nat), CZ false 1 (dnM D) [.int .i64 (n : Int)] = some ((lkD D n).map fun m => Aa.int .i64 (m : Int))
 | [] => rfl
 | p :: r => by
  have ih := Rq n r
  simp only [dnM, List.map_cons, CZ, ON, Bs, nat_cell, lkD]
  by_cases hp : p.1 = n
  ·subst hp; simp
  ·have : ¬ n = p.1 := fun e => hp e.symm
   rw [decide_eq_false this, if_neg hp]
   simpa [dnM] using ih
theorem QN (n m : Nat) : ∀ D : List (Nat × Nat), lkD D n = none → Cm false 1 (dnM D) (.int .i64 (n : Int)) [.int .i64 (n : Int)] (.int .i64 (m : Int)) = some (dnM (D ++ [(n, m)]))
 | [], _ => rfl
 | p :: r, h => by
  unfold lkD at h
  by_cases hp : p.1 = n
  ·rw [if_pos hp] at h; cases h
  ·rw [if_neg hp] at h
   have ih := QN n m r h
   have : ¬ n = p.1 := fun e => hp e.symm
   simp only [dnM, List.map_cons, Cm, ON, Bs, nat_cell, List.cons_append] at ih ⊢
   rw [decide_eq_false this]
   simp only [Bool.false_eq_true, if_false, ih]
   rfl
theorem lookA_dn {H : Ab} {id : Nat} {D : List (Nat × Nat)} (h : H[id]? = some (.map (dnM D))) (n : Nat) : Dz false 1 (some (.int .i64 0)) true (.mp id) (.int .i64 (n : Int)) H = some (match lkD D n with | some m => .tup [.int .i64 (m : Int), .bool true] | none => .tup [.int .i64 0, .bool false]) := by
 unfold Dz
 simp only [Bs, ON, h, Rq, Option.map_some]
 cases lkD D n <;> rfl
theorem updA_dn {H : Ab} {id : Nat} {D : List (Nat × Nat)} (h : H[id]? = some (.map (dnM D))) {n : Nat} (m : Nat) (hn : lkD D n = none) : C5 false 1 (.mp id) (.int .i64 (n : Int)) (.int .i64 (m : Int)) H = some (H.set id (.map (dnM (D ++ [(n, m)])))) := by
 unfold C5
 simp only [Bs, ON, h, QN n m D hn, Option.map_some]
theorem lookA_kn {H : Ab} {id : Nat} {out : List Nd} (h : H[id]? = some (.map (knF 0 out))) (y : Nd) : Dz true 5 (some (.int .i64 0)) true (.mp id) (.agg (cNd y)) H = some (if B1 out y = 0 then .tup [.int .i64 0, .bool false] else .tup [.int .i64 (B1 out y : Int), .bool true]) := by
 unfold Dz
 simp only [Bs, key_nd, h, Rp, Option.map_some, Nat.zero_add]
 by_cases h0 : B1 out y = 0 <;> simp [h0]
theorem updA_kn {H : Ab} {id : Nat} {out : List Nd} (h : H[id]? = some (.map (knF 0 out))) {y : Nd} (hn : B1 out y = 0) : C5 true 5 (.mp id) (.agg (cNd y)) (.int .i64 ((out.length + 1 : Nat) : Int)) H = some (H.set id (.map (knF 0 (out ++ [y])))) := by
 have := QM y out 0 hn
 rw [Nat.zero_add] at this
 unfold C5
 simp only [Bs, key_nd, h, this, Option.map_some]
def HG (y : Nd) : Bool := decide (y.k0 = 0) && (decide (y.k1 = 0) && (decide (y.k2 = 0) && decide (y.k3 = 0)))
theorem eq_kids (y : Nd) : Af (.flat 4) .eql (.agg (Gq y)) (.agg [.int .i64 0, .int .i64 0, .int .i64 0, .int .i64 0]) = some (.bool (HG y)) := by
 show (eqA (.flat 4) (.agg (Gq y)) (.agg [.int .i64 0, .int .i64 0, .int .i64 0, .int .i64 0])).map Aa.bool = _
 have h : eqA (.flat 4) (.agg (Gq y)) (.agg [.int .i64 0, .int .i64 0, .int .i64 0, .int .i64 0]) = some (HG y) := by
  unfold eqA
  simp only []
  rw [if_pos (show (Gq y).length = 4 from rfl)]
  simp only [Gq, Bn, EV, if_true, Bs, Bool.and_true, EB]
  rfl
 rw [h]; rfl
def F1 (out : List Nd) (y : Nd) : List Nd × Nat := if HG y then (out, 0) else Ba out y
structure AR (b ar km : Nat) (out : List Nd) (v : Aa) (H : Ab) : Prop where
 cell : H[ar]? = some (.cel 0 [v, .mp km])
 row : RS cNd As 5 b out v H
 known : H[km]? = some (.map (knF 0 out))
structure AX (b ar km : Nat) (H H' : Ab) : Prop where
 len : H.length ≤ H'.length
 cel : ∀ (i : Nat) (cs : List Aa), i ≠ ar → H[i]? = some (.cel 0 cs) → H'[i]? = some (.cel 0 cs)
 map : ∀ (i : Nat) (es : List (Aa × Aa)), i ≠ km → H[i]? = some (.map es) → H'[i]? = some (.map es)
 old : ∀ i, i < b → H'[i]? = H[i]?
theorem AX.refl (b ar km : Nat) (H : Ab) : AX b ar km H H := ⟨Nat.le_refl _, fun _ _ _ h => h, fun _ _ _ h => h, fun _ _ => rfl⟩
theorem AX.trans {b ar km : Nat} {H H1 H2 : Ab} (h : AX b ar km H H1) (k : AX b ar km H1 H2) : AX b ar km H H2 :=
 ⟨Nat.le_trans h.len k.len, fun i cs hi hc => k.cel i cs hi (h.cel i cs hi hc), fun i es hi hc => k.map i es hi (h.map i es hi hc), fun i hi => (k.old i hi).trans (h.old i hi)⟩
theorem AX.push {b ar km : Nat} {H : Ab} (hb : b ≤ H.length) (G : Ab) : AX b ar km H (H ++ G) :=
 ⟨by simp, fun i cs _ h => BA h, fun i es _ h => BA h, fun i hi => List.getElem?_append_left (by omega)⟩
theorem AR.push {b ar km : Nat} {out : List Nd} {v : Aa} {H : Ab} (h : AR b ar km out v H) (G : Ab) : AR b ar km out v (H ++ G) :=
 ⟨BA h.cell, h.row.left G, BA h.known⟩
theorem c06_intern {b ar km : Nat} {out : List Nd} {v : Aa} {H : Ab} (h : AR b ar km out v H) (hba : b ≤ ar) (hbk : b ≤ km) (hb : b ≤ H.length) (y : Nd) (ho : out.length < 3000000000000) :
  ∃ v' H', Sh.f1y (.ptr ar 0 0) (.agg (cNd y)) H = some (.ret (.int .i64 ((F1 out y).2 : Int)), H') ∧ AR b ar km (F1 out y).1 v' H' ∧ AX b ar km H H' := by
 have hB : b ≤ (H ++ [Blk.cel 0 (cNd y)]).length := by simp; omega
 have h1 := h.push [.cel 0 (cNd y)]
 have e1 : AX b ar km H (H ++ [.cel 0 (cNd y)]) := AX.push hb _
 have hbd : A6 (some [(.int .i64 0), (.int .i64 0), (.int .i64 0), (.int .i64 0)]) [] = some (.agg [.int .i64 0, .int .i64 0, .int .i64 0, .int .i64 0]) := rfl
 unfold Sh.f1y F1
 have l0 := B7 (o := 0) (sz := 1) h1.cell
 have l1 := B7 (o := 1) (sz := 1) h1.cell
 cases hz : HG y with
 | true =>
  simp only [GMb, GMc, HPa, HPc, HPd, HPe, HPz, Nat.reduceAdd, Nat.reduceLT, Bl, DM, CP, DH, hbd, eq_kids, hz, if_true]
  exact ⟨v, _, rfl, h1, e1⟩
 | false =>
  simp only [GMb, GMc, HPa, HPc, HPd, HPe, HPz, Nat.reduceAdd, Nat.reduceLT, Bl, DM, CP, DH, hbd, eq_kids, hz, l1, Cj, Ee, lookA_kn h1.known, Bool.false_eq_true, if_false]
  unfold Ba
  by_cases h0 : B1 out y = 0
  ·obtain ⟨v', H2, ha, hr, hk, hg⟩ := RS.snoc2 (bytes := 40) h1.row hB y .tight (by omega) (by omega)
   have hc2 := hk.cel _ _ h1.cell
   have hst := st_cel (o := 0) (v := v') hc2 hr.one (by simp)
   have hka : km ≠ ar := fun e => by have := h.known; rw [e, h.cell] at this; cases this
   have har : ar < H.length := (List.getElem?_eq_some_iff.1 h.cell).1
   have hkl : km < H.length := (List.getElem?_eq_some_iff.1 h.known).1
   have hkn : ∀ es, v ≠ .sl es (.own km) := h.row.notok (B := .map (knF 0 out)) h.known (fun _ _ _ e => by cases e)
   have hk2 : H2[km]? = some (.map (knF 0 out)) := by rw [hg.keep km (by simp; omega) hkn]; exact h1.known
   have hH1 : H.length ≠ ar := by omega
   have hbox : H2[H.length]? = some (.cel 0 (cNd y)) := hk.cel _ _ AD
   have hl2 : ar < H2.length := (List.getElem?_eq_some_iff.1 hc2).1
   have hkl2 : km < H2.length := (List.getElem?_eq_some_iff.1 hk2).1
   obtain ⟨H3, hH3⟩ : ∃ H3, H3 = H2.set ar (.cel 0 ([v, .mp km].set 0 v')) := ⟨_, rfl⟩
   rw [← hH3] at hst
   have hc3 : H3[ar]? = some (.cel 0 [v', .mp km]) := by rw [hH3, List.getElem?_set_self hl2]; rfl
   have hk3 : H3[km]? = some (.map (knF 0 out)) := by rw [hH3, List.getElem?_set_ne (Ne.symm hka)]; exact hk2
   have hb3 : H3[H.length]? = some (.cel 0 (cNd y)) := by rw [hH3, List.getElem?_set_ne (Ne.symm hH1)]; exact hbox
   have l30 := B7 (o := 0) (sz := 1) hc3
   have l31 := B7 (o := 1) (sz := 1) hc3
   have hup := updA_kn hk3 h0
   obtain ⟨H4, hH4⟩ : ∃ H4, H4 = H3.set km (.map (knF 0 (out ++ [y]))) := ⟨_, rfl⟩
   rw [← hH4] at hup
   have hc4 : H4[ar]? = some (.cel 0 [v', .mp km]) := by rw [hH4, List.getElem?_set_ne hka]; exact hc3
   have l40 := B7 (o := 0) (sz := 1) hc4
   have hlen := hr.len
   rw [List.length_append, List.length_singleton] at hlen
   refine ⟨v', H4, ?_, ⟨hc4, ?_, ?_⟩, e1.trans ⟨?_, fun i cs hi hc => ?_, fun i es hi hc => ?_, fun i hi => ?_⟩⟩
   ·simp only [h0, if_true, GMb, GMc, HPa, HPc, HPd, HPe, HPz, Nat.reduceAdd, Nat.reduceLT, l0, Cj, Ee, Bl, DM, CP, DH, FU, ha, hst, l30, l31, DG hb3, hlen, hup, l40]
   ·have r3 : RS cNd As 5 b (out ++ [y]) v' H3 := by rw [hH3]; exact hr.put hc2
    rw [hH4, if_pos h0]
    exact r3.setB hk3 (fun _ _ _ e => by cases e)
   ·rw [hH4, List.getElem?_set_self (by rw [hH3, List.length_set]; exact hkl2)]; simp only [h0, if_true]
   ·rw [hH4, List.length_set, hH3, List.length_set]; exact hk.len
   ·have c2 := hk.cel i cs hc
    have hik : i ≠ km := fun e => by rw [e, hk2] at c2; cases c2
    rw [hH4, List.getElem?_set_ne (Ne.symm hik), hH3, List.getElem?_set_ne (Ne.symm hi)]; exact c2
   ·have hia : i ≠ ar := fun e => by rw [e, h1.cell] at hc; cases hc
    have hil : i < (H ++ [Blk.cel 0 (cNd y)]).length := (List.getElem?_eq_some_iff.1 hc).1
    have hin : ∀ es', v ≠ .sl es' (.own i) := h1.row.notok hc (fun _ _ _ e => by cases e)
    rw [hH4, List.getElem?_set_ne (Ne.symm hi), hH3, List.getElem?_set_ne (Ne.symm hia), hg.keep i hil hin]; exact hc
   ·rw [hH4, List.getElem?_set_ne (by omega), hH3, List.getElem?_set_ne (by omega)]; exact hk.old i hi
  ·simp only [h0, if_false, GMb, GMc, HPa, HPc, HPd, HPe, HPz, Nat.reduceAdd, Nat.reduceLT]
   exact ⟨v, _, rfl, h1, e1⟩
end Go.Gm
namespace Go.Gm
theorem LL (y : Nd) : HG y = (List.range 4).all fun k => decide (y.kid k = 0) := by
 rw [Fp]
 simp only [HG, Bool.and_assoc]
 rfl
theorem GT {L : List Nd} {v n : Nat} {out : List Nd} (h : n = 0 ∨ (Aq L).getD n true = true) : AE L (Aq L) v n out = (out, 0) := by
 have he : (Aq L).getD n true = true := by
  rcases h with h | h
  ·rw [h]; exact CO L
  ·exact h
 cases v with
 | zero => rfl
 | succ v => simp only [AE, he, if_true]
theorem insF_pos {L : List Nd} {v n : Nat} {out : List Nd} (h : (Aq L).getD n true = false) : 0 < (AE L (Aq L) (v + 1) n out).2 := by
 simp only [AE, h, Bool.false_eq_true, if_false]
 split
 ·exact JL _ _
 ·exact JL _ _
theorem Np (rec : Nat → List Nd → List Nd × Nat) (x : Nd) (out : List Nd) : ∀ k, k ≤ 4 → ∀ j, j < k → (Bq rec x k out).2.kid j = ((rec (x.kid j).toNat (Bq rec x j out).1).2 : Int)
 | 0, _, j, h => by omega
 | k + 1, hk, j, h => by
  simp only [Bq]
  by_cases e : j = k
  ·subst e; rw [Dg _ _ (by omega)]
  ·rw [BK _ _ (by omega) (by omega) e]; exact Np rec x out k (by omega) j (by omega)
theorem Rw {L : List Nd} {v : Nat} (x : Nd) (out : List Nd) (h : ∀ k, k < 4 → (x.kid k).toNat = 0 ∨ (Aq L).getD (x.kid k).toNat true = true) : ∀ k, k ≤ 4 → (Bq (AE L (Aq L) v) x k out).1 = out
 | 0, _ => rfl
 | k + 1, hk => by
  simp only [Bq]
  rw [GT (h k (by omega))]
  exact Rw x out h k (by omega)
theorem intern_ins {L : List Nd} (hl : Ao L = true) {m v : Nat} (hm : m < L.length) (hv : L[m].lv.toNat = v + 1) (out : List Nd) :
  F1 (Bq (AE L (Aq L) v) L[m] (if 1 < L[m].lv then 4 else 0) out).1 (Bq (AE L (Aq L) v) L[m] (if 1 < L[m].lv then 4 else 0) out).2 = AE L (Aq L) (v + 1) (m + 1) out := by
 obtain ⟨l1, l2, l3⟩ := Ax hl hm
 have hx : Ak L ((m + 1 : Nat) : Int) = L[m] := A1 hm
 have he := KN hl (n := m + 1) (by omega) hm
 rw [hx] at he
 by_cases h1 : 1 < L[m].lv
 ·rw [if_pos h1]
  cases hE : (Aq L).getD (m + 1) true with
  | true =>
   rw [hE] at he
   have hk : ∀ k, k < 4 → (L[m].kid k).toNat = 0 ∨ (Aq L).getD (L[m].kid k).toNat true = true := fun k hk => by
    have := List.all_eq_true.1 he.symm k (by simpa using hk)
    simp only [Bool.or_eq_true, decide_eq_true_eq, Bool.and_eq_true] at this
    rcases this with h | h
    ·left; rw [h]; rfl
    ·exact .inr h.2
   have hn : HG (Bq (AE L (Aq L) v) L[m] 4 out).2 = true := by
    rw [LL, List.all_eq_true]
    intro k hk'
    have hk4 : k < 4 := by simpa using hk'
    rw [decide_eq_true_eq, Np _ _ _ 4 (by omega) k hk4, GT (hk k hk4)]; rfl
   unfold F1
   rw [hn, if_pos rfl, Rw _ _ hk 4 (by omega)]
   simp only [AE, hE, if_true]
  | false =>
   rw [hE] at he
   have : ¬ ∀ k, k < 4 → (L[m].kid k = 0 ∨ (Aq L).getD (L[m].kid k).toNat true = true) := fun h => by
    have : ((List.range 4).all fun k => decide (L[m].kid k = 0) || (decide (1 < L[m].lv) && (Aq L).getD (L[m].kid k).toNat true)) = true := by
     rw [List.all_eq_true]
     intro k hk
     have := h k (by simpa using hk)
     simp only [Bool.or_eq_true, decide_eq_true_eq, Bool.and_eq_true]
     rcases this with q | q
     ·exact .inl q
     ·exact .inr ⟨h1, q⟩
    rw [this] at he; cases he
   have ⟨k, hk4, hk0⟩ : ∃ k, k < 4 ∧ ¬ (L[m].kid k = 0 ∨ (Aq L).getD (L[m].kid k).toNat true = true) := by
    by_cases h : ∃ k, k < 4 ∧ ¬ (L[m].kid k = 0 ∨ (Aq L).getD (L[m].kid k).toNat true = true)
    ·exact h
    ·exact absurd (fun k hk => Decidable.byContradiction fun hc => h ⟨k, hk, hc⟩) this
   have hn : HG (Bq (AE L (Aq L) v) L[m] 4 out).2 = false := by
    rw [LL, List.all_eq_false]
    refine ⟨k, by simpa using hk4, ?_⟩
    rw [decide_eq_true_eq, Np _ _ _ 4 (by omega) k hk4]
    obtain ⟨v', rfl⟩ : ∃ v', v = v' + 1 := ⟨v - 1, by omega⟩
    have := insF_pos (L := L) (v := v') (n := (L[m].kid k).toNat) (out := (Bq (AE L (Aq L) (v' + 1)) L[m] k out).1) (by
     cases hq : (Aq L).getD (L[m].kid k).toNat true with
     | false => rfl
     | true => exact absurd (.inr hq) hk0)
    omega
   unfold F1
   rw [hn]
   simp only [AE, hE, Bool.false_eq_true, if_false, hx, if_pos h1]
 ·rw [if_neg h1]
  have hn : HG L[m] = (Aq L).getD (m + 1) true := by
   rw [he, LL, Fp, Fp]
   simp [h1]
  unfold F1
  simp only [Bq, AE, hn, hx, if_neg h1]
structure Seat where
 b : Nat
 pd : Nat
 pl : Nat
 pv : Nat
 pa : Nat
 ar : Nat
 km : Nat
 dm : Nat
structure VQ (s : Seat) (L : List Nd) (tk : Tok) (out : List Nd) (D : List (Nat × Nat)) (H : Ab) : Prop where
 hb : s.b ≤ s.ar ∧ s.b ≤ s.km ∧ s.b ≤ s.dm ∧ s.km ≠ s.dm
 ne : s.pd ≠ s.ar ∧ s.pl ≠ s.ar ∧ s.pv ≠ s.ar ∧ s.pa ≠ s.ar
 done : H[s.pd]? = some (.cel 0 [.mp s.dm])
 list : H[s.pl]? = some (.cel 0 [.sl (enL cNd L) tk])
 self : H[s.pv]? = some (.cel 0 [.fn 50 [.ptr s.pd 0 0, .ptr s.pl 0 0, .ptr s.pv 0 0, .ptr s.pa 0 0]])
 arena : H[s.pa]? = some (.cel 0 [.ptr s.ar 0 0])
 nodes : ∃ v, AR s.b s.ar s.km out v H
 nums : H[s.dm]? = some (.map (dnM D))
structure VD (L out : List Nd) (D : List (Nat × Nat)) : Prop where
 nd : (D.map (·.1)).Nodup
 le : ∀ p ∈ D, p.1 ≤ L.length
 val : ∀ p ∈ D, AE L (Aq L) (Ak L (p.1 : Int)).lv.toNat p.1 out = (out, p.2)
 cnt : out.length < D.length
 zero : lkD D 0 = some 0
theorem VD.short {L out : List Nd} {D : List (Nat × Nat)} (h : VD L out D) : out.length ≤ L.length := by
 have := nodup_le (L.length + 1) (D.map (·.1)) h.nd (fun x hx => by
  obtain ⟨p, hp, rfl⟩ := List.mem_map.1 hx
  have := h.le p hp; omega)
 rw [List.length_map] at this
 have := h.cnt; omega
theorem VQ.len {s : Seat} {L : List Nd} {tk : Tok} {out : List Nd} {D : List (Nat × Nat)} {H : Ab} (h : VQ s L tk out D H) : s.b ≤ H.length := by
 obtain ⟨v, h1⟩ := h.nodes
 have := (List.getElem?_eq_some_iff.1 h1.cell).1
 have := h.hb.1; omega
theorem VQ.cells {s : Seat} {L : List Nd} {tk : Tok} {out : List Nd} {D : List (Nat × Nat)} {H H' : Ab} (h : VQ s L tk out D H) (hk : ∀ i, i < H.length → H'[i]? = H[i]?) (hl : H.length ≤ H'.length) : VQ s L tk out D H' := by
 have g : ∀ {i : Nat} {x : Blk}, H[i]? = some x → H'[i]? = some x := fun hx => by rw [hk _ (List.getElem?_eq_some_iff.1 hx).1]; exact hx
 obtain ⟨v, h1⟩ := h.nodes
 refine ⟨h.hb, h.ne, g h.done, g h.list, g h.self, g h.arena, ⟨v, g h1.cell, ?_, g h1.known⟩, g h.nums⟩
 rcases h1.row with r | ⟨t, r1, r2, r3⟩
 ·exact .inl r
 ·exact .inr ⟨t, r1, r2, g r3⟩
theorem VQ.put {s : Seat} {L : List Nd} {tk : Tok} {out : List Nd} {D : List (Nat × Nat)} {H : Ab} {q : Nat} {x y : Nd} (h : VQ s L tk out D H) (hq : H[q]? = some (.cel 0 (cNd x))) : VQ s L tk out D (H.set q (.cel 0 (cNd y))) := by
 obtain ⟨v, h1⟩ := h.nodes
 have n5 : ∀ {i : Nat} {c : List Aa}, H[i]? = some (.cel 0 c) → c.length ≠ 5 → (H.set q (.cel 0 (cNd y)))[i]? = some (.cel 0 c) := fun {i c} hi hc => by
  have : q ≠ i := fun e => by rw [e, hi] at hq; injection hq with hq; injection hq with _ hq; rw [hq] at hc; exact hc rfl
  rw [List.getElem?_set_ne this]; exact hi
 have nm : ∀ {i : Nat} {es : List (Aa × Aa)}, H[i]? = some (.map es) → (H.set q (.cel 0 (cNd y)))[i]? = some (.map es) := fun {i es} hi => by
  have : q ≠ i := fun e => by rw [e, hi] at hq; cases hq
  rw [List.getElem?_set_ne this]; exact hi
 exact ⟨h.hb, h.ne, n5 h.done (by simp), n5 h.list (by simp), n5 h.self (by simp), n5 h.arena (by simp), ⟨v, n5 h1.cell (by simp), h1.row.put hq, nm h1.known⟩, nm h.nums⟩
theorem VD.grow {L out : List Nd} {D : List (Nat × Nat)} (h : VD L out D) (r : List Nd) : ∀ p ∈ D, AE L (Aq L) (Ak L (p.1 : Int)).lv.toNat p.1 (out ++ r) = (out ++ r, p.2) := by
 intro p hp
 have h3 := h.val p hp
 have := EP (L := L) (E := Aq L) (Ak L (p.1 : Int)).lv.toNat p.1 out r
 rwa [h3] at this
theorem c06_visit {s : Seat} {L : List Nd} {tk : Tok} (hL : L.length < 2000000000000) (hl : Ao L = true) : ∀ (v n d : Nat) (out : List Nd) (D : List (Nat × Nat)) (H : Ab), n ≤ L.length → (n = 0 ∨ (Ak L (n : Int)).lv.toNat = v) → v < d → VQ s L tk out D H → VD L out D →
  ∃ H' D', Sh.f4 d (.int .i64 (n : Int)) (.ptr s.pd 0 0) (.ptr s.pl 0 0) (.ptr s.pv 0 0) (.ptr s.pa 0 0) H = some (.ret (.int .i64 ((AE L (Aq L) v n out).2 : Int)), H') ∧
   VQ s L tk (AE L (Aq L) v n out).1 D' H' ∧ Ext s.b s.ar H H' ∧ VD L (AE L (Aq L) v n out).1 D' ∧ ∀ j, n < j → lkD D' j = lkD D j := by
 intro v
 induction v with
 | zero =>
  intro n d out D H hn hv hd hQ hD
  obtain ⟨d, rfl⟩ : ∃ e, d = e + 1 := ⟨d - 1, by omega⟩
  have hn0 : n = 0 := by
   rcases hv with h | h
   ·exact h
   ·cases n with
    | zero => rfl
    | succ m =>
     rw [A1 (show m < L.length from hn)] at h
     have := (Ax hl (show m < L.length from hn)).1; omega
  subst hn0
  refine ⟨H, D, ?_, hQ, Ext.refl _ _ _, hD, fun _ _ => rfl⟩
  show Sh.f2l (Sh.f4 d) _ _ _ _ _ _ = _
  have hlk := lookA_dn hQ.nums 0
  rw [hD.zero] at hlk
  unfold Sh.f2l
  simp only [GMb, GMc, HPa, HPc, HPd, HPe, HPz, Nat.reduceAdd, Nat.reduceLT, B7 hQ.done, hlk]
  rfl
 | succ v ih =>
  intro n d out D H hn hv hd hQ hD
  obtain ⟨d, rfl⟩ : ∃ e, d = e + 1 := ⟨d - 1, by omega⟩
  show ∃ H' D', Sh.f2l (Sh.f4 d) _ _ _ _ _ _ = _ ∧ _
  have hlk := lookA_dn hQ.nums n
  unfold Sh.f2l
  simp only [GMb, GMc, HPa, HPc, HPd, HPe, HPz, Nat.reduceAdd, Nat.reduceLT, B7 hQ.done, hlk]
  cases hln : lkD D n with
  | some m =>
   have hmem := lkD_mem hln
   have hval := hD.val _ hmem
   dsimp only at hval
   have hins : AE L (Aq L) (v + 1) n out = (out, m) := by
    rcases hv with h | h
    ·have := GT (L := L) (v := (Ak L (n : Int)).lv.toNat) (out := out) (n := n) (.inl h)
     rw [hval] at this
     rw [GT (.inl h)]
     exact this.symm
    ·rw [h] at hval; exact hval
   rw [hins]
   exact ⟨H, D, by simp only [GMb, GMc, HPa, HPc, HPd, HPe, HPz, Nat.reduceAdd, Nat.reduceLT], hQ, Ext.refl _ _ _, hD, fun _ _ => rfl⟩
  | none =>
   obtain ⟨m, rfl⟩ : ∃ m, n = m + 1 := ⟨n - 1, by
    cases n with
    | zero => rw [hD.zero] at hln; cases hln
    | succ n => rfl⟩
   have hm : m < L.length := hn
   have hv' : (Ak L ((m + 1 : Nat) : Int)).lv.toNat = v + 1 := by
    rcases hv with h | h
    ·omega
    ·exact h
   obtain ⟨l1, l2, l3⟩ := Ax hl hm
   have hx : Ak L ((m + 1 : Nat) : Int) = L[m] := A1 hm
   rw [hx] at hv'
   have hwm : IntKind.i64.wrap (((m + 1 : Nat) : Int) - 1) = (m : Int) := by rw [A0] <;> omega
   have hble := hQ.len
   have hQ1 : VQ s L tk out D (H ++ [.cel 0 (cNd L[m])]) := hQ.cells (fun i hi => List.getElem?_append_left hi) (by simp)
   have hE1 : Ext s.b s.ar H (H ++ [.cel 0 (cNd L[m])]) := Ext.snoc hble _
   have hHar : H.length ≠ s.ar := by
    obtain ⟨v, h1⟩ := hQ.nodes
    have := (List.getElem?_eq_some_iff.1 h1.cell).1; omega
   simp only [GMb, GMc, HPa, HPc, HPd, HPe, HPz, Nat.reduceAdd, Nat.reduceLT, B7 hQ.list, Cj, hwm, Av hm, Gn, Bl, DM, CP, DH]
   have fin : ∀ (Hc : Ab) (D1 : List (Nat × Nat)), lkD D1 (m + 1) = none → VQ s L tk (Bq (AE L (Aq L) v) L[m] (if 1 < L[m].lv then 4 else 0) out).1 D1 Hc → Hc[H.length]? = some (.cel 0 (cNd (Bq (AE L (Aq L) v) L[m] (if 1 < L[m].lv then 4 else 0) out).2)) → Ext s.b s.ar H Hc → VD L (Bq (AE L (Aq L) v) L[m] (if 1 < L[m].lv then 4 else 0) out).1 D1 → (∀ j, m < j → lkD D1 j = lkD D j) →
     ∃ H' D', Sh.f3b H (.int .i64 ((m + 1 : Nat) : Int)) (.ptr s.pd 0 0) (.ptr s.pa 0 0) (.ptr H.length 0 0) Hc = some (.ret (.int .i64 ((AE L (Aq L) (v + 1) (m + 1) out).2 : Int)), H') ∧
      VQ s L tk (AE L (Aq L) (v + 1) (m + 1) out).1 D' H' ∧ Ext s.b s.ar H H' ∧ VD L (AE L (Aq L) (v + 1) (m + 1) out).1 D' ∧ ∀ j, m + 1 < j → lkD D' j = lkD D j := by
    intro Hc D1 hl1 hQc hbox hEc hDc hjj
    have hint := intern_ins hl hm hv' out
    have hagain := EP (L := L) (E := Aq L) (v + 1) (m + 1) out []
    rw [List.append_nil] at hagain
    generalize Bq (AE L (Aq L) v) L[m] (if 1 < L[m].lv then 4 else 0) out = io at *
    obtain ⟨o, y⟩ := io
    dsimp only at *
    obtain ⟨vv, hA⟩ := hQc.nodes
    have hsh := hDc.short
    obtain ⟨v', H2, i1, i2, i3⟩ := c06_intern hA hQc.hb.1 hQc.hb.2.1 hQc.len y (by omega)
    rw [hint] at i1 i2
    have hdm : s.dm ≠ s.km := Ne.symm hQc.hb.2.2.2
    have hdn := i3.map _ _ hdm hQc.nums
    have hpd := i3.cel _ _ hQc.ne.1 hQc.done
    have hup := updA_dn (H := H2) (n := m + 1) hdn (AE L (Aq L) (v + 1) (m + 1) out).2 hl1
    have hgrow : ∃ r, (AE L (Aq L) (v + 1) (m + 1) out).1 = o ++ r := by
     rw [← hint]
     unfold F1 Ba
     split
     ·exact ⟨[], by simp⟩
     ·split
      ·exact ⟨[y], rfl⟩
      ·exact ⟨[], by simp⟩
    have hglen : (AE L (Aq L) (v + 1) (m + 1) out).1.length ≤ o.length + 1 := by
     rw [← hint]
     unfold F1 Ba
     split
     ·dsimp only; omega
     ·split
      ·simp
      ·dsimp only; omega
    refine ⟨H2.set s.dm (.map (dnM (D1 ++ [(m + 1, (AE L (Aq L) (v + 1) (m + 1) out).2)]))), D1 ++ [(m + 1, (AE L (Aq L) (v + 1) (m + 1) out).2)], ?_, ?_, hEc.trans ⟨?_, fun i cs hi hc => ?_, fun i hi => ?_⟩, ?_, fun j hj => ?_⟩
    ·unfold Sh.f3b
     simp only [GMb, GMc, HPa, HPc, HPd, HPe, HPz, Nat.reduceAdd, Nat.reduceLT, B7 hQc.arena, Cj, DG hbox, i1, B7 hpd, hup]
    ·have hdl : s.dm < H2.length := (List.getElem?_eq_some_iff.1 hdn).1
     have nc : ∀ {i : Nat} {c : List Aa}, i ≠ s.ar → Hc[i]? = some (.cel 0 c) → (H2.set s.dm (.map (dnM (D1 ++ [(m + 1, (AE L (Aq L) (v + 1) (m + 1) out).2)]))))[i]? = some (.cel 0 c) := fun {i c} hi hc => by
      have h2 := i3.cel i c hi hc
      have : s.dm ≠ i := fun e => by rw [← e, hdn] at h2; cases h2
      rw [List.getElem?_set_ne this]; exact h2
     have hda : s.dm ≠ s.ar := fun e => by have := i2.cell; rw [← e, hdn] at this; cases this
     exact ⟨hQc.hb, hQc.ne, nc hQc.ne.1 hQc.done, nc hQc.ne.2.1 hQc.list, nc hQc.ne.2.2.1 hQc.self, nc hQc.ne.2.2.2 hQc.arena,
      ⟨v', by rw [List.getElem?_set_ne hda]; exact i2.cell, i2.row.setB hdn (fun _ _ _ e => by cases e), by rw [List.getElem?_set_ne hdm]; exact i2.known⟩, by rw [List.getElem?_set_self hdl]⟩
    ·rw [List.length_set]; exact i3.len
    ·have h2 := i3.cel i cs hi hc
     have : s.dm ≠ i := fun e => by rw [← e, hdn] at h2; cases h2
     rw [List.getElem?_set_ne this]; exact h2
    ·have := hQc.hb.2.2.1
     rw [List.getElem?_set_ne (by omega)]; exact i3.old i hi
    ·obtain ⟨r, hr⟩ := hgrow
     refine ⟨?_, fun p hp => ?_, fun p hp => ?_, ?_, ?_⟩
     ·rw [List.map_append, List.nodup_append]
      refine ⟨hDc.nd, by simp, fun a ha b hb => ?_⟩
      have hbm : b = m + 1 := by simpa using hb
      have := lkD_none hl1
      exact fun e => this (by rw [← hbm, ← e]; exact ha)
     ·rcases List.mem_append.1 hp with h | h
      ·exact hDc.le p h
      ·rw [List.mem_singleton.1 h]; exact hn
     ·rcases List.mem_append.1 hp with h | h
      ·rw [hr]; exact hDc.grow r p h
      ·rw [List.mem_singleton.1 h]
       dsimp only
       rw [hx, hv']; exact hagain
     ·rw [List.length_append, List.length_singleton]; have := hDc.cnt; omega
     ·rw [lkD_app, hDc.zero]
    ·rw [lkD_app, hjj j (by omega)]
     cases lkD D j with
     | some _ => rfl
     | none => dsimp only; rw [if_neg (by omega)]
   by_cases hlv : L[m].lv > 1
   ·simp only [hlv, GMb, GMc]
    have h1lt : 1 < L[m].lv := hlv
    rw [if_pos h1lt] at fin
    have loop := Mx (G := fun rec2 vs H1 => Sh.f3c H (Sh.f4 d) (fun vs H => Sh.f3b H (ag vs 0) (ag vs 1) (ag vs 2) (ag vs 3) H) rec2 (ag vs 0) (ag vs 1) (ag vs 2) (ag vs 3) (ag vs 4) (ag vs 5) (ag vs 6) H1) 4
     (fun k vs Hc => ∃ D', vs = [.int .i64 ((m + 1 : Nat) : Int), .ptr s.pd 0 0, .ptr s.pv 0 0, .ptr s.pa 0 0, .ptr H.length 0 0, .agg (Gq L[m]), .int .i64 (k : Int)] ∧ VQ s L tk (Bq (AE L (Aq L) v) L[m] k out).1 D' Hc ∧ Hc[H.length]? = some (.cel 0 (cNd (Bq (AE L (Aq L) v) L[m] k out).2)) ∧ Ext s.b s.ar H Hc ∧ VD L (Bq (AE L (Aq L) v) L[m] k out).1 D' ∧ lkD D' (m + 1) = none ∧ ∀ j, m < j → lkD D' j = lkD D j)
     (by decide) (fun k vs Hc hk hI => ?_) (vs := [.int .i64 ((m + 1 : Nat) : Int), .ptr s.pd 0 0, .ptr s.pv 0 0, .ptr s.pa 0 0, .ptr H.length 0 0, .agg (Gq L[m]), .int .i64 0]) (H := H ++ [Blk.cel 0 (cNd L[m])]) ⟨D, rfl, hQ1, by simp [Bq], hE1, hD, hln, fun _ _ => rfl⟩
    ·obtain ⟨vs', Hc, ⟨D', rfl, hQc, hbox, hEc, hDc, hlc, hjc⟩, rec, hloop⟩ := loop
     obtain ⟨H', D2, f1, f2⟩ := fin Hc D' hlc hQc hbox hEc hDc hjc
     refine ⟨H', D2, hloop.trans ?_, f2⟩
     unfold Sh.f3c
     simp only [GMb, GMc, Az, show ¬ (((4 : Nat) : Int) < 4) from by decide]
     exact f1
    ·obtain ⟨D1, rfl, hQc, hbox, hEc, hDc, hlc, hjc⟩ := hI
     have hk' : (k : Int) < 4 := by omega
     obtain ⟨q1, q2, q3⟩ := l3 k hk
     obtain ⟨c, hc⟩ : ∃ c : Nat, L[m].kid k = (c : Int) := ⟨(L[m].kid k).toNat, by omega⟩
     have hcm : c ≤ m := by
      by_cases h0 : 0 < L[m].kid k
      ·have := (q3 h1lt h0).1; omega
      ·omega
     have hcv : c = 0 ∨ (Ak L (c : Int)).lv.toNat = v := by
      by_cases h0 : c = 0
      ·exact .inl h0
      ·right
       obtain ⟨g, rfl⟩ : ∃ g, c = g + 1 := ⟨c - 1, by omega⟩
       have hgl : g < L.length := by omega
       have := (q3 h1lt (by omega)).2 L[g] (by rw [show (L[m].kid k - 1).toNat = g by omega]; exact List.getElem?_eq_getElem hgl)
       rw [A1 hgl]; omega
     obtain ⟨H1, D', r1, r2, r3, r4, r5⟩ := ih c d (Bq (AE L (Aq L) v) L[m] k out).1 D1 Hc (by omega) hcv (by omega) hQc hDc
     have hbox1 := r3.cel _ _ hHar hbox
     have hst := C6 (c := ((AE L (Aq L) v c (Bq (AE L (Aq L) v) L[m] k out).1).2 : Int)) hbox1 hk
     have hstep : Bq (AE L (Aq L) v) L[m] (k + 1) out = ((AE L (Aq L) v c (Bq (AE L (Aq L) v) L[m] k out).1).1, (Bq (AE L (Aq L) v) L[m] k out).2.setKid k ((AE L (Aq L) v c (Bq (AE L (Aq L) v) L[m] k out).1).2 : Int)) := by
      simp only [Bq, hc, Int.toNat_natCast]
     rw [hstep]
     refine ⟨_, H1.set H.length (.cel 0 (cNd ((Bq (AE L (Aq L) v) L[m] k out).2.setKid k ((AE L (Aq L) v c (Bq (AE L (Aq L) v) L[m] k out).1).2 : Int)))), ⟨D', rfl, r2.put hbox1, ?_, ⟨by have := hEc.len; have := r3.len; rw [List.length_set]; omega, fun i cs hi hc => ?_, fun i hi => ?_⟩, r4, ?_, fun j hj => ?_⟩, fun rec => ?_⟩
     ·rw [List.getElem?_set_self (List.getElem?_eq_some_iff.1 hbox1).1]
     ·have := (List.getElem?_eq_some_iff.1 hc).1
      rw [List.getElem?_set_ne (by omega)]; exact r3.cel i cs hi (hEc.cel i cs hi hc)
     ·rw [List.getElem?_set_ne (by omega), r3.old i hi]; exact hEc.old i hi
     ·rw [r5 (m + 1) (by omega)]; exact hlc
     ·rw [r5 j (by omega)]; exact hjc j hj
     ·have hcall : RO (Fr (Sh.f4 d)) (.fn 50 [.ptr s.pd 0 0, .ptr s.pl 0 0, .ptr s.pv 0 0, .ptr s.pa 0 0]) [.int .i64 (c : Int)] Hc = Sh.f4 d (.int .i64 (c : Int)) (.ptr s.pd 0 0) (.ptr s.pl 0 0) (.ptr s.pv 0 0) (.ptr s.pa 0 0) Hc := rfl
      unfold Sh.f3c
      simp only [GMb, GMc, HPa, HPc, HPd, HPe, HPz, Nat.reduceAdd, Nat.reduceLT, Az, hk', ag_kid _ hk, hc, B7 hQc.self, Cj, hcall, r1, Ex hk, hst, Aw (show k < 9223372036854775807 by omega)]
   ·simp only [hlv, GMb, GMc]
    rw [if_neg hlv] at fin
    exact fin _ D hln hQ1 (by simp [Bq]) hE1 hD (fun _ _ => rfl)
theorem c06_of (L : List Nd) (tk : Tok) (n : Int) (H : Ab) (hL : L.length < 1000000000000) : Sh.f1z (.sl (enL cNd L) tk) (.int .i64 n) H =
  some (.ret (if O6 L n then .tup [Lb (BR L n.toNat), .int .i64 0] else .tup [Lb [], .int .i64 1]), H) := by
 unfold Sh.f1z
 have hbx : Ek true 1 (.sl (enL cNd L) tk) H = some (.ptr H.length 0 0, H ++ [.cel 0 [.sl (enL cNd L) tk]]) := by
  unfold Ek; simp only [acells_sl, alloc_eq (cs := [.sl (enL cNd L) tk]) rfl]; rfl
 have hq0 : Aa.agg [.sl [] .no] = Lb [] := rfl
 simp only [hbx, GMb, GMc, HPa, HPc, HPd, HPe, HPz, Nat.reduceAdd, Nat.reduceLT, c05_loose L tk _ (show L.length < 1152921504606846976 by omega)]
 unfold O6
 have hb0 : A6 (some [(.sl [] .tight)]) [] = some (.agg [.sl [] .tight]) := rfl
 cases hl : Ao L with
 | false => simp only [GMb, GMc, HPa, HPc, HPd, HPe, HPz, Nat.reduceAdd, Nat.reduceLT, hb0, hq0, Bool.false_eq_true, if_false]
 | true =>
  by_cases hn0 : n < 0
  ·have : ¬ 0 ≤ n := by omega
   simp only [GMb, GMc, HPa, HPc, HPd, HPe, HPz, Nat.reduceAdd, Nat.reduceLT, hb0, hq0, hn0, this, Bool.false_eq_true, if_false]
  ·have h0' : 0 ≤ n := by omega
   by_cases hn1 : n > L.length
   ·have : ¬ n ≤ L.length := by omega
    simp only [GMb, GMc, HPa, HPc, HPd, HPe, HPz, Nat.reduceAdd, Nat.reduceLT, hb0, hq0, hn0, h0', hn1, this, A3, Bool.false_eq_true, if_false]
   ·obtain ⟨n, rfl⟩ := Int.eq_ofNat_of_zero_le h0'
    have hle : n ≤ L.length := by omega
    have hle' : (n : Int) ≤ (L.length : Int) := by omega
    have hnn : ¬ (n : Int) > (L.length : Int) := hn1
    obtain ⟨s1, s2, s3⟩ := MW hl hle
    unfold BR
    simp only [GMb, GMc, HPa, HPc, HPd, HPe, HPz, Nat.reduceAdd, Nat.reduceLT, hn0, h0', hnn, hle', A3, c06_shrink L tk n _ (show L.length < 3518437200000 by omega) hl hle, if_true, Int.toNat_natCast]
    generalize Cv L n = S at s1 s2 s3
    obtain ⟨M, r⟩ := S
    dsimp only at s1 s2 s3 ⊢
    have hlvv : (Ak M (r : Int)).lv.toNat < AM := by
     rw [Dm]
     by_cases hr : 0 < r
     ·have := lv_le s1 hr s2; omega
     ·obtain rfl : r = 0 := by omega
      unfold Ak
      rw [List.getD_eq_getElem?_getD]
      by_cases hM : 0 < M.length
      ·rw [show (((0 : Nat) : Int) - 1).toNat = 0 from rfl, List.getElem?_eq_getElem hM]
       have := (Ax s1 hM).2.1
       simp only [Option.getD_some]; omega
      ·rw [show (((0 : Nat) : Int) - 1).toNat = 0 from rfl, List.getElem?_eq_none (by omega)]; simp
    have hmk : ∀ K : Ab, CM K = some (.mp K.length, K ++ [.map []]) := fun _ => rfl
    have hb1 : ∀ x, A6 (some [.sl [] .tight, .nilmap]) [(1, 1, .mp x)] = some (.agg [.sl [] .tight, .mp x]) := fun _ => rfl
    have hup : C5 false 1 (.mp (H.length + 5)) (.int .i64 0) (.int .i64 0) (H ++ [.cel 0 [.sl (enL cNd M) .no], .cel 0 [.sl [] .tight], .map [], .cel 0 [.sl [] .tight, .mp (H.length + 2)], .cel 0 [.ptr (H.length + 3) 0 0], .map []]) =
      some (H ++ [.cel 0 [.sl (enL cNd M) .no], .cel 0 [.sl [] .tight], .map [], .cel 0 [.sl [] .tight, .mp (H.length + 2)], .cel 0 [.ptr (H.length + 3) 0 0], .map (dnM [(0, 0)])]) := by
     have := updA_dn (H := H ++ [.cel 0 [.sl (enL cNd M) .no], .cel 0 [.sl [] .tight], .map [], .cel 0 [.sl [] .tight, .mp (H.length + 2)], .cel 0 [.ptr (H.length + 3) 0 0], .map []]) (id := H.length + 5) (D := []) (by simp [dnM]) (n := 0) 0 rfl
     rw [show ((0 : Nat) : Int) = 0 from rfl] at this
     rw [this, List.set_append_right _ _ (by omega), show H.length + 5 - H.length = 5 by omega]
     rfl
    have hf : ∀ l : List Aa, Al 1 (.ptr 0 0 0) (.fn 50 l) [Blk.cel 0 [.nilfn]] = some [.cel 0 [.fn 50 l]] := fun l => K9 rfl (by simp)
    obtain ⟨F, hF⟩ : ∃ F : Ab, F = H ++ [.cel 0 [.sl (enL cNd M) .no], .cel 0 [.sl [] .tight], .map [], .cel 0 [.sl [] .tight, .mp (H.length + 2)], .cel 0 [.ptr (H.length + 3) 0 0], .map (dnM [(0, 0)]), .cel 0 [.mp (H.length + 5)], .cel 0 [.fn 50 [.ptr (H.length + 6) 0 0, .ptr H.length 0 0, .ptr (H.length + 7) 0 0, .ptr (H.length + 4) 0 0]]] := ⟨_, rfl⟩
    have hQ : VQ ⟨H.length, H.length + 6, H.length, H.length + 7, H.length + 4, H.length + 3, H.length + 2, H.length + 5⟩ M .no [] [(0, 0)] F := by
     refine ⟨⟨by dsimp only; omega, by dsimp only; omega, by dsimp only; omega, by dsimp only; omega⟩, ⟨by dsimp only; omega, by dsimp only; omega, by dsimp only; omega, by dsimp only; omega⟩, ?_, ?_, ?_, ?_, ⟨.sl [] .tight, ?_, .inl ⟨rfl, rfl⟩, ?_⟩, ?_⟩ <;> (rw [hF]; simp [knF])
    have hD : VD M [] [(0, 0)] := ⟨by simp, fun p hp => by rw [List.mem_singleton.1 hp]; exact Nat.zero_le _, fun p hp => by rw [List.mem_singleton.1 hp]; exact GT (.inl rfl), by simp, rfl⟩
    obtain ⟨H', D', v1, v2, v3, v4, v5⟩ := c06_visit (s := ⟨H.length, H.length + 6, H.length, H.length + 7, H.length + 4, H.length + 3, H.length + 2, H.length + 5⟩) (L := M) (tk := .no) (by omega) s1 (Ak M (r : Int)).lv.toNat r AM [] [(0, 0)] F s2 (.inr rfl) hlvv hQ hD
    dsimp only at v1 v3
    have hcall : RO G5 (.fn 50 [.ptr (H.length + 6) 0 0, .ptr H.length 0 0, .ptr (H.length + 7) 0 0, .ptr (H.length + 4) 0 0]) [.int .i64 (r : Int)] F = Sh.f4 AM (.int .i64 (r : Int)) (.ptr (H.length + 6) 0 0) (.ptr H.length 0 0) (.ptr (H.length + 7) 0 0) (.ptr (H.length + 4) 0 0) F := rfl
    rw [v1] at hcall
    rw [hF] at hcall
    have hres : H'[H.length + 1]? = some (.cel 0 [.sl [] .tight]) := v3.cel _ _ (by omega) (by rw [hF]; simp)
    have hold : ∀ i, i < H.length → H'[i]? = H[i]? := fun i hi => by rw [v3.old i hi, hF, List.getElem?_append_left hi]
    obtain ⟨v, hA⟩ := v2.nodes
    have hpa := B7 (o := 0) (sz := 1) v2.arena
    have har := B7 (o := 0) (sz := 1) hA.cell
    dsimp only at hpa har
    obtain ⟨tk3, rfl⟩ := hA.row.sl
    generalize (AE M (Aq M) (Ak M (r : Int)).lv.toNat r []).1 = Q at *
    have hb : A6 (some [(.sl [] .tight)]) [(0, 1, .sl (enL cNd Q) tk3)] = some (.agg [.sl (enL cNd Q) tk3]) := by simp [A6, GV, DQ]
    have hst := st_agg (sz := 1) (ws := [.sl (enL cNd Q) tk3]) hres rfl rfl rfl
    have hcl := (List.getElem?_eq_some_iff.1 hres).1
    have hld := ld_agg (sz := 1) (H := H'.set (H.length + 1) (.cel 0 [.sl (enL cNd Q) tk3])) (p := H.length + 1) (by rw [List.getElem?_set_self hcl]) rfl
    have htake : (H'.set (H.length + 1) (.cel 0 [.sl (enL cNd Q) tk3])).take H.length = H := BX fun i hi => by
     rw [List.getElem?_set_ne (by omega)]; exact hold i hi
    simp only [GMb, GMc, HPa, HPc, HPd, HPe, HPz, Nat.reduceAdd, Nat.reduceLT, hmk, hb1, hup, hf, hcall, hpa, har, Cj, hb, hst, hld, FJ htake]
    rfl
end Go.Gm
namespace Go.Gm
theorem p_fine (bx N : Int) (H : Ab) : Sh.f1a (.agg [.int .i64 bx, .int .i64 N]) H = some (.ret (.bool (R8 bx N)), H) := by
 unfold Sh.f1a Sh.f19 R8
 by_cases h1 : bx ≥ 0
 ·by_cases h2 : bx ≤ 1000
  ·by_cases h3 : N ≥ 0
   ·simp only [GMb, GMc, HPa, HPc, HPd, HPe, HPz, Nat.reduceAdd, Nat.reduceLT, h1, h2, h3]
   ·simp only [GMb, GMc, HPa, HPc, HPd, HPe, HPz, Nat.reduceAdd, Nat.reduceLT, h1, h2, h3]
  ·simp only [GMb, GMc, HPa, HPc, HPd, HPe, HPz, Nat.reduceAdd, Nat.reduceLT, h1, h2]
 ·simp only [GMb, GMc, HPa, HPc, HPd, HPe, HPz, Nat.reduceAdd, Nat.reduceLT, h1]
theorem q11_wide (H : Ab) : Sh.ff H = some (.ret (.agg [.int .i64 1000, .int .i64 100000]), H) := by
 have hb : A6 (some [(.int .i64 0), (.int .i64 0)]) [(0, 1, (.int .i64 1000)), (1, 1, (.int .i64 100000))] = some (.agg [.int .i64 1000, .int .i64 100000]) := rfl
 unfold Sh.ff
 simp only [GMb, GMc, HPa, HPc, HPd, HPe, HPz, Nat.reduceAdd, Nat.reduceLT, hb]
def Cx (lines : List (Nat × Int)) : Nat := match lines.getLast? with
 | some q => q.1
 | none => 0
def O7 : MSt := ⟨L3, [], []⟩
def Lo (b : List UInt8) (bx N : Int) : (List UInt8 × List Nd) × Int × Int :=
 if R8 bx N then
  match Jn b N O7 with
  | ((some e, c), _) => (([], []), (c : Int), e.1)
  | ((none, _), st) =>
   if O6 st.nodes (Cx st.lines : Int) && decide ((BR st.nodes (Cx st.lines)).length ≤ N) then ((st.law, BR st.nodes (Cx st.lines)), 0, 0)
   else (([], []), (b.length : Int), 4)
 else (([], []), 0, 1)
def Mg (r : (List UInt8 × List Nd) × Int × Int) : Aa := .tup [pat r.1.1 r.1.2, .int .i64 r.2.1, .int .i64 r.2.2]
theorem LA (rule : List UInt8) (L : List Nd) : pat rule L = .agg [.str rule, .sl (enL cNd L) .no] := rfl
theorem PP (b : List UInt8) (N : Int) : ∀ k a st, a ≤ b.length → (C1 b N k a st).2.nodes.length ≤ st.nodes.length + 21 * (b.length - a) ∧ (C1 b N k a st).2.lines.length ≤ st.lines.length + (b.length - a)
 | 0, a, st, _ => ⟨Nat.le_add_right _ _, Nat.le_add_right _ _⟩
 | k + 1, a, st, h => by
  unfold C1
  by_cases he : a = b.length
  ·rw [if_pos he]; exact ⟨Nat.le_add_right _ _, Nat.le_add_right _ _⟩
  ·rw [if_neg he]
   have hok := oneS_ok (show a < b.length by omega) N st
   generalize Kk b N a st = M at hok
   obtain ⟨⟨er, c⟩, st'⟩ := M
   obtain ⟨k1, k2, k3, k4⟩ := hok
   dsimp only at k1 k2 k3 k4 ⊢
   cases er with
   | some e => exact ⟨by dsimp only; omega, by dsimp only; omega⟩
   | none =>
    have := PP b N k c st' k1
    have := k2 rfl
    dsimp only
    omega
theorem allS_cnt (b : List UInt8) (N : Int) (st : MSt) : (Jn b N st).2.nodes.length ≤ st.nodes.length + 21 * b.length ∧ (Jn b N st).2.lines.length ≤ st.lines.length + b.length := by
 unfold Jn
 have hM := HK (Nat.zero_le b.length) D7
 have e : (BD b 0 D7 []).2 = GQ b 0 D7 := rfl
 generalize BD b 0 D7 [] = M at e
 obtain ⟨er, c⟩ := M
 dsimp only at e
 subst e
 cases er with
 | some e => exact ⟨Nat.le_add_right _ _, Nat.le_add_right _ _⟩
 | none =>
  have hle := endS_le (anyN_le hM) []
  dsimp only
  generalize HQ b (Gi b (GQ b 0 D7)) [] = M at hle
  obtain ⟨er, d⟩ := M
  cases er with
  | some e => exact ⟨Nat.le_add_right _ _, Nat.le_add_right _ _⟩
  | none =>
   have := PP b N (b.length + 1) d st hle.2
   dsimp only
   omega
theorem j1 {H K : Ab} {b : List UInt8} {c : Nat} {bx N : Int} {st : MSt} {v w : Aa} (hlim : K[H.length]? = some (.cel 0 [.int .i64 bx, .int .i64 N])) (hres : K[H.length + 1]? = some (.cel 0 [.str [], .sl [] .tight])) (hlx : K[H.length + 2]? = some (.cel 0 (.str b :: .int .i64 (c : Int) :: rdR bx N st.law v w)))
  (hrow : RS cNd As 5 H.length st.nodes v K) (hold : ∀ i, i < H.length → K[i]? = H[i]?) (hnd : st.nodes.length < 100000000000) :
  Sh.f4e H (.str b) (.ptr H.length 0 0) (.ptr (H.length + 1) 0 0) (.ptr (H.length + 2) 0 0) (.int .i64 (Cx st.lines : Int)) K = some (.ret (Mg (if O6 st.nodes (Cx st.lines : Int) && decide ((BR st.nodes (Cx st.lines)).length ≤ N) then ((st.law, BR st.nodes (Cx st.lines)), 0, 0) else (([], []), (b.length : Int), 4))), H) := by
 have b1 : A6 (some [(.str []), (.sl [] .tight)]) [] = some (.agg [.str [], .sl [] .tight]) := rfl
 have hl5 := B7 (o := 5) (sz := 1) hlx
 obtain ⟨tk, rfl⟩ := hrow.sl
 have hof := fun H => c06_of st.nodes tk (Cx st.lines : Int) H (by omega)
 have hKl : H.length + 2 < K.length := (List.getElem?_eq_some_iff.1 hlx).1
 rw [Int.toNat_natCast] at hof
 have bad : ∀ L : List Nd, ((A6 (some [(.str []), (.sl [] .tight)]) []).bind fun x64 =>
 (B6 (.str b)).bind fun x65 =>
 bP H (AN (Al 2 (.ptr (H.length + 1) 0 0) x64 (K ++ [.cel 0 [.sl (enL cNd L) .no]]))) fun _ H67 =>
 (La [Ad true 2 (.ptr (H.length + 1) 0 0) H67, some x65, some (.int .i64 4)]).bind fun x68 => rPN H x68 H67) = some (.ret (Mg (([], []), (b.length : Int), 4)), H) := by
  intro L
  have hr' := BA (G := [Blk.cel 0 [.sl (enL cNd L) .no]]) hres
  have hst := st_agg (sz := 2) (ws := [.str [], .sl [] .tight]) hr' rfl rfl rfl
  have hld := ld_agg (sz := 2) (H := (K ++ [Blk.cel 0 [.sl (enL cNd L) .no]]).set (H.length + 1) (.cel 0 [.str [], .sl [] .tight])) (p := H.length + 1) (cs := [.str [], .sl [] .tight]) (by rw [List.getElem?_set_self (by simp; omega)]) rfl
  have htk : ((K ++ [Blk.cel 0 [.sl (enL cNd L) .no]]).set (H.length + 1) (.cel 0 [.str [], .sl [] .tight])).take H.length = H := BX fun i hi => by rw [List.getElem?_set_ne (by omega), List.getElem?_append_left (by omega)]; exact hold i hi
  simp only [b1, GMb, GMc, HPa, HPc, HPd, HPe, HPz, Nat.reduceAdd, Nat.reduceLT, hst, hld, FJ htk, Mg, LA]
  rfl
 unfold Sh.f4e
 simp only [GMb, GMc, HPa, HPc, HPd, HPe, HPz, Nat.reduceAdd, Nat.reduceLT, hl5, rdR, Cj, Ee, hof]
 cases hok : O6 st.nodes (Cx st.lines : Int) with
 | false =>
  have := bad []
  simp only [GMb, GMc, HPa, HPc, HPd, HPe, HPz, Nat.reduceAdd, Nat.reduceLT, OJ, Bool.false_eq_true, if_false, show decide ((1 : Int) = 0) = false from by decide] at this ⊢
  exact this
 | true =>
  generalize BR st.nodes (Cx st.lines) = Q
  have hlim' := B7 (o := 1) (sz := 1) (BA (G := [Blk.cel 0 [.sl (enL cNd Q) .no]]) hlim)
  simp only [GMb, GMc, HPa, HPc, HPd, HPe, HPz, Nat.reduceAdd, Nat.reduceLT, OJ, if_true, A3, hlim', Cj, Ee]
  by_cases hlen : (Q.length : Int) ≤ N
  ·have hgt : ¬ (Q.length : Int) > N := by omega
   have hr' := BA (G := [Blk.cel 0 [.sl (enL cNd Q) .no]]) hres
   have hst := st_agg (sz := 2) (ws := [.str st.law, .sl (enL cNd Q) .no]) hr' rfl rfl rfl
   have hld := ld_agg (sz := 2) (H := (K ++ [Blk.cel 0 [.sl (enL cNd Q) .no]]).set (H.length + 1) (.cel 0 [.str st.law, .sl (enL cNd Q) .no])) (p := H.length + 1) (cs := [.str st.law, .sl (enL cNd Q) .no]) (by rw [List.getElem?_set_self (by simp; omega)]) rfl
   have htk : ((K ++ [Blk.cel 0 [.sl (enL cNd Q) .no]]).set (H.length + 1) (.cel 0 [.str st.law, .sl (enL cNd Q) .no])).take H.length = H := BX fun i hi => by rw [List.getElem?_set_ne (by omega), List.getElem?_append_left (by omega)]; exact hold i hi
   have hl4 := B7 (o := 4) (sz := 1) (BA (G := [Blk.cel 0 [.sl (enL cNd Q) .no]]) hlx)
   have hbd : A6 (some [(.str []), (.sl [] .tight)]) [(0, 1, .str st.law), (1, 1, .agg [.sl (enL cNd Q) .no])] = some (.agg [.str st.law, .sl (enL cNd Q) .no]) := rfl
   simp only [hgt, hlen, GMb, GMc, HPa, HPc, HPd, HPe, HPz, Nat.reduceAdd, Nat.reduceLT, hl4, rdR, Cj, Ee, hbd, hst, hld, FJ htk, Mg, LA, if_true]
  ·have hgt : (Q.length : Int) > N := by omega
   have := bad Q
   simp only [hgt, hlen, GMb, GMc, HPa, HPc, HPd, HPe, HPz, Nat.reduceAdd, Nat.reduceLT, Bool.false_eq_true, if_false] at this ⊢
   exact this
theorem Dw (b : List UInt8) (bx N : Int) (H : Ab) (hb : b.length < 100000000) : Sh.fi (.str b) (.agg [.int .i64 bx, .int .i64 N]) H = some (.ret (Mg (Lo b bx N)), H) := by
 have b1 : A6 (some [(.str []), (.sl [] .tight)]) [] = some (.agg [.str [], .sl [] .tight]) := rfl
 have b2 : ∀ s, A6 (some [(.str []), (.int .i64 0)]) [(0, 1, .str s)] = some (.agg [.str s, .int .i64 0]) := fun _ => rfl
 have b3 : ∀ s, A6 (some [(.str []), (.int .i64 0), (.int .i64 0), (.int .i64 0), (.str []), (.sl [] .tight), (.sl [] .tight)]) [(0, 2, .agg [.str s, .int .i64 0]), (2, 2, .agg [.int .i64 bx, .int .i64 N]), (4, 1, (.str [66, 51, 47, 83, 50, 51]))] = some (.agg [.str s, .int .i64 0, .int .i64 bx, .int .i64 N, .str L3, .sl [] .tight, .sl [] .tight]) := fun _ => rfl
 unfold Sh.fi Lo
 simp only [GMb, GMc, HPa, HPc, HPd, HPe, HPz, Nat.reduceAdd, Nat.reduceLT, p_fine]
 cases hf : R8 bx N with
 | false =>
  simp only [GMb, GMc, HPa, HPc, HPd, HPe, HPz, Nat.reduceAdd, Nat.reduceLT, b1, Bool.false_eq_true, if_false, Mg, LA]
  rfl
 | true =>
  simp only [GMb, GMc, HPa, HPc, HPd, HPe, HPz, Nat.reduceAdd, Nat.reduceLT, b2, b3, if_true]
  obtain ⟨F, hF⟩ : ∃ F : Ab, F = H ++ [.cel 0 [.int .i64 bx, .int .i64 N], .cel 0 [.str [], .sl [] .tight], .cel 0 [.str b, .int .i64 0, .int .i64 bx, .int .i64 N, .str L3, .sl [] .tight, .sl [] .tight]] := ⟨_, rfl⟩
  have hR : RD H.length (H.length + 2) b 0 bx N O7 F := ⟨.sl [] .tight, .sl [] .tight, by omega, by unfold Lx; rw [hF]; simp [rdR, O7], .inl ⟨rfl, rfl⟩, .inl ⟨rfl, rfl⟩⟩
  obtain ⟨H1, c1, c2, c3⟩ := Rd hR (by omega) rfl rfl
  rw [hF] at c1
  have hlim : H1[H.length]? = some (.cel 0 [.int .i64 bx, .int .i64 N]) := c2.cel _ _ (by omega) (by rw [hF]; simp)
  have hres : H1[H.length + 1]? = some (.cel 0 [.str [], .sl [] .tight]) := c2.cel _ _ (by omega) (by rw [hF]; simp)
  have hold : ∀ i, i < H.length → H1[i]? = H[i]? := fun i hi => by rw [c2.old i hi, hF, List.getElem?_append_left hi]
  simp only [c1, GMb, GMc]
  have hpos := allS_er b N O7
  have hcnt := allS_cnt b N O7
  generalize Jn b N O7 = A at c3 hpos hcnt
  obtain ⟨⟨er, c⟩, st⟩ := A
  dsimp only at c3 ⊢
  obtain ⟨v, w, c3⟩ := c3
  have hl1 := (List.getElem?_eq_some_iff.1 hres).1
  cases er with
  | some e =>
   have hpe := hpos e rfl
   have hres' := BA (G := [Blk.cel 0 [.int .i64 e.1, .str e.2]]) hres
   have hst := st_agg (sz := 2) (ws := [.str [], .sl [] .tight]) hres' rfl rfl rfl
   have hset : (H1 ++ [Blk.cel 0 [.int .i64 e.1, .str e.2]]).set (H.length + 1) (.cel 0 [.str [], .sl [] .tight]) = H1 ++ [Blk.cel 0 [.int .i64 e.1, .str e.2]] := by
    apply List.ext_getElem?
    intro i
    by_cases hi : H.length + 1 = i
    ·subst hi
     rw [List.getElem?_set_self (by simp; omega), hres']
    ·rw [List.getElem?_set_ne hi]
   rw [hset] at hst
   have hld := ld_agg (sz := 2) hres' rfl
   have hat := B7 (o := 1) (sz := 1) (BA (G := [Blk.cel 0 [.int .i64 e.1, .str e.2]]) c3.lx)
   have htk : (H1 ++ [Blk.cel 0 [.int .i64 e.1, .str e.2]]).take H.length = H := BX fun i hi => by rw [List.getElem?_append_left (by omega)]; exact hold i hi
   by_cases he : e.1 = 0
   ·exact absurd he (by omega)
   ·have hne : (!decide (e.1 = 0)) = true := by simp [he]
    simp only [Rz, GMb, GMc, HPa, HPc, HPd, HPe, HPz, Nat.reduceAdd, Nat.reduceLT, hne, b1, hst, hat, Cj, Ee, hld, FJ htk, Mg, LA]
    rfl
  | none =>
   have hnd : st.nodes.length < 100000000000 := by have := hcnt.1; dsimp only [O7] at this; simp only [List.length_nil] at this; omega
   have hln : st.lines.length < 100000000000 := by have := hcnt.2; dsimp only [O7] at this; simp only [List.length_nil] at this; omega
   have hlines := c3.lines
   have hld6 := B7 (o := 6) (sz := 1) (BA (G := [Blk.cel 0 [.int .i64 0, .str []]]) c3.lx)
   have hroot := j1 (H := H) (b := b) (c := c) (bx := bx) (N := N) (st := st) (v := v) (w := w) (K := H1 ++ [Blk.cel 0 [.int .i64 0, .str []]]) (BA hlim) (BA hres) (BA c3.lx) (c3.nodes.left _) (fun i hi => by rw [List.getElem?_append_left (by omega)]; exact hold i hi) hnd
   simp only [Rz, GMb, GMc, HPa, HPc, HPd, HPe, HPz, Nat.reduceAdd, Nat.reduceLT, hld6, rdR, Cj, Ee, hlines.len]
   by_cases hl0 : 0 < st.lines.length
   ·have hl0' : (st.lines.length : Int) > 0 := by omega
    have hlt : st.lines.length - 1 < st.lines.length := by omega
    have hw : IntKind.i64.wrap ((st.lines.length : Int) - 1) = ((st.lines.length - 1 : Nat) : Int) := Du (by omega) (by have := hln; omega)
    have hr : Cx st.lines = st.lines[st.lines.length - 1].1 := by
     unfold Cx
     rw [List.getLast?_eq_getElem?, List.getElem?_eq_getElem hlt]
    simp only [hl0', GMb, GMc, HPa, HPc, HPd, HPe, HPz, Nat.reduceAdd, Nat.reduceLT, hld6, rdR, Cj, Ee, hlines.len, hw, hlines.idx hlt, Ah, Au, lnC]
    rw [← hr]
    exact hroot
   ·have hl0' : ¬ (st.lines.length : Int) > 0 := by omega
    have hr : Cx st.lines = 0 := by
     unfold Cx
     rw [List.getLast?_eq_getElem?, List.getElem?_eq_none (by omega)]
    simp only [hl0', GMb, GMc]
    rw [hr] at hroot ⊢
    exact hroot
def hintR (b : List UInt8) : List UInt8 × Bool := match (Jn b 100000 ⟨[], [], []⟩).1.1 with
 | none => ([], true)
 | some e => (e.2, decide (e.1 = 0) || decide (e.1 = 3))
theorem Mi (b : List UInt8) (H : Ab) (hb : b.length < 100000000) : Sh.fk (.str b) H = some (.ret (.tup [.str (hintR b).1, .bool (hintR b).2]), H) := by
 have b2 : ∀ s, A6 (some [(.str []), (.int .i64 0)]) [(0, 1, .str s)] = some (.agg [.str s, .int .i64 0]) := fun _ => rfl
 have b4 : A6 (some [(.int .i64 0), (.int .i64 0)]) [(0, 1, (.int .i64 1000)), (1, 1, (.int .i64 100000))] = some (.agg [.int .i64 1000, .int .i64 100000]) := rfl
 have b3 : ∀ s, A6 (some [(.str []), (.int .i64 0), (.int .i64 0), (.int .i64 0), (.str []), (.sl [] .tight), (.sl [] .tight)]) [(0, 2, .agg [.str s, .int .i64 0]), (2, 2, .agg [.int .i64 1000, .int .i64 100000])] = some (.agg [.str s, .int .i64 0, .int .i64 1000, .int .i64 100000, .str [], .sl [] .tight, .sl [] .tight]) := fun _ => rfl
 unfold Sh.fk hintR
 simp only [GMb, GMc, HPa, HPc, HPd, HPe, HPz, Nat.reduceAdd, Nat.reduceLT, b2, b3, b4]
 obtain ⟨F, hF⟩ : ∃ F : Ab, F = H ++ [.cel 0 [.str b, .int .i64 0, .int .i64 1000, .int .i64 100000, .str [], .sl [] .tight, .sl [] .tight]] := ⟨_, rfl⟩
 have hR : RD H.length H.length b 0 1000 100000 ⟨[], [], []⟩ F := ⟨.sl [] .tight, .sl [] .tight, Nat.le_refl _, by unfold Lx; rw [hF]; simp [rdR], .inl ⟨rfl, rfl⟩, .inl ⟨rfl, rfl⟩⟩
 obtain ⟨H1, c1, c2, c3⟩ := Rd hR (by omega) rfl rfl
 rw [hF] at c1
 have hlen : H.length ≤ H1.length := by have := c2.len; rw [hF] at this; simp at this; omega
 have hold : ∀ i, i < H.length → H1[i]? = H[i]? := fun i hi => by rw [c2.old i hi, hF, List.getElem?_append_left hi]
 have htk : ∀ G, (H1 ++ G).take H.length = H := fun G => BX fun i hi => by rw [List.getElem?_append_left (by omega)]; exact hold i hi
 simp only [c1, GMb, GMc]
 cases (Jn b 100000 ⟨[], [], []⟩).1.1 with
 | none =>
  simp only [Rz, GMb, GMc, HPa, HPc, HPd, HPe, HPz, Nat.reduceAdd, Nat.reduceLT]
  exact F9 rfl (htk _)
 | some e =>
  by_cases h0 : e.1 = 0
  ·simp only [Rz, GMb, GMc, HPa, HPc, HPd, HPe, HPz, Nat.reduceAdd, Nat.reduceLT, h0]
   exact F9 rfl (htk _)
  ·simp only [Rz, GMb, GMc, HPa, HPc, HPd, HPe, HPz, Nat.reduceAdd, Nat.reduceLT, h0]
   exact F9 rfl (htk _)
end Go.Gm
namespace Go.Gm
def finR (b : List UInt8) (N : Int) (A : (Er × Nat) × MSt) : (List UInt8 × List Nd) × Int × Int :=
 match A with
 | ((some e, c), _) => (([], []), (c : Int), e.1)
 | ((none, _), st) =>
  if O6 st.nodes (Cx st.lines : Int) && decide ((BR st.nodes (Cx st.lines)).length ≤ N) then ((st.law, BR st.nodes (Cx st.lines)), 0, 0)
  else (([], []), (b.length : Int), 4)
theorem readR_eq (b : List UInt8) (bx N : Int) : Lo b bx N = if R8 bx N then finR b N (Jn b N O7) else (([], []), 0, 1) := rfl
structure RI (H : Ab) (b : List UInt8) (bx N : Int) (er : Er) (c : Nat) (st : MSt) (v1 v2 v3 : Aa) (K : Ab) : Prop where
 lim : K[H.length]? = some (.cel 0 [.int .i64 bx, .int .i64 N])
 res : K[H.length + 1]? = some (.cel 0 [.str [], .sl [] .tight])
 cur : K[H.length + 2]? = some (.cel 0 [.str b, .int .i64 (c : Int), .int .i64 (codeR er)])
 stt : K[H.length + 3]? = some (.cel 0 (sttC st.law v1 v2 v3))
 old : ∀ i, i < H.length → K[i]? = H[i]?
 sr : SR H.length st v1 v2 v3 K
section
variable {H : Ab} {b : List UInt8} {bx N : Int} {er : Er} {c : Nat} {st : MSt} {v1 v2 v3 : Aa} {K : Ab}
theorem RI.len (h : RI H b bx N er c st v1 v2 v3 K) : H.length + 3 < K.length := (List.getElem?_eq_some_iff.1 h.stt).1
theorem RI.ble (h : RI H b bx N er c st v1 v2 v3 K) : H.length ≤ K.length := by have := h.len; omega
theorem RI.go (h : RI H b bx N er c st v1 v2 v3 K) {K' : Ab} (hk : Kp H.length K K') {er' : Er} {c' : Nat} {st' : MSt} {w1 w2 w3 : Aa} (hs : SR H.length st' w1 w2 w3 K') :
  RI H b bx N er' c' st' w1 w2 w3 ((K'.set (H.length + 2) (.cel 0 [.str b, .int .i64 (c' : Int), .int .i64 (codeR er')])).set (H.length + 3) (.cel 0 (sttC st'.law w1 w2 w3))) := by
 have hl := h.len
 have := hk.len
 have k2 := hk.cel _ _ h.cur
 have k3 := hk.cel _ _ h.stt
 have k3' : (K'.set (H.length + 2) (.cel 0 [.str b, .int .i64 (c' : Int), .int .i64 (codeR er')]))[H.length + 3]? = some (.cel 0 (sttC st.law v1 v2 v3)) := by rw [List.getElem?_set_ne (by omega)]; exact k3
 refine ⟨?_, ?_, ?_, ?_, fun i hi => ?_, (hs.put k2).put k3'⟩
 ·rw [List.getElem?_set_ne (by omega), List.getElem?_set_ne (by omega)]; exact hk.cel _ _ h.lim
 ·rw [List.getElem?_set_ne (by omega), List.getElem?_set_ne (by omega)]; exact hk.cel _ _ h.res
 ·rw [List.getElem?_set_ne (by omega), List.getElem?_set_self (by omega)]
 ·rw [List.getElem?_set_self (by rw [List.length_set]; omega)]
 ·rw [List.getElem?_set_ne (by omega), List.getElem?_set_ne (by omega), hk.old i hi]; exact h.old i hi
end
end Go.Gm
namespace Go.Gm
def hdS (b : List UInt8) : Er × Nat := match BD b 0 D7 [] with
 | (some e, c) => (some e, c)
 | (none, c) => HQ b (Gi b c) []
theorem allS_head (b : List UInt8) (N : Int) (st : MSt) : Jn b N st = match hdS b with
 | (some e, c) => ((some e, c), st)
 | (none, d) => C1 b N (b.length + 1) d st := by
 unfold Jn hdS
 generalize BD b 0 D7 [] = M
 obtain ⟨er, c⟩ := M
 cases er with
 | some e => rfl
 | none =>
  dsimp only
  generalize HQ b (Gi b c) [] = E
  obtain ⟨er, d⟩ := E
  cases er <;> rfl
end Go.Gm
namespace Go.Gm
set_option maxRecDepth 100000
def tA : List UInt8 := [91, 77, 50, 93, 10, 50, 32, 49]
def tB : List UInt8 := [91, 77, 50, 93, 32, 120, 13, 10, 35, 82, 32, 97, 98, 99, 10, 35, 67, 32, 121, 10, 35, 71, 32, 55, 10, 36, 36, 36, 36, 46, 46, 46, 46, 42, 36, 10, 52, 32, 49, 32, 48, 32, 48, 32, 48, 10, 53, 32, 48, 32, 48, 32, 48, 32, 50]
def tC : List UInt8 := [91, 77, 50, 93, 10, 49, 32, 48, 32, 48, 32, 48, 32, 50, 53, 53, 10, 50, 32, 49, 32, 48, 32, 49, 32, 48, 10]
def tD : List UInt8 := [91, 77, 50, 93, 10, 49, 32, 48, 32, 48, 32, 48, 32, 50, 53, 53, 10, 50, 32, 49]
def tE : List UInt8 := [91, 77, 50, 93, 10, 10]
def tF : List UInt8 := [91, 77, 50, 93, 10, 49, 32, 48, 32, 48, 32, 48, 32, 49, 10, 50, 32, 49, 32, 49, 32, 48, 32, 48]
def lB : List Nd := [⟨1, 1, 0, 0, 0⟩, ⟨2, 1, 0, 0, 0⟩, ⟨3, 0, 0, 0, 2⟩, ⟨4, 0, 0, 0, 3⟩]
def lC : List Nd := [⟨1, 0, 0, 0, 255⟩, ⟨2, 1, 0, 1, 0⟩]
def hD : List UInt8 := [32, 48, 32, 48, 32, 48]
def sB : List UInt8 := [91, 77, 50, 93, 32, 40, 103, 108, 105, 100, 101, 114, 41, 10, 35, 82, 32, 97, 98, 99, 10, 36, 36, 36, 36, 46, 46, 46, 46, 42, 36, 10, 52, 32, 48, 32, 48, 32, 48, 32, 49, 10]
def sC : List UInt8 := [91, 77, 50, 93, 32, 40, 103, 108, 105, 100, 101, 114, 41, 10, 35, 82, 32, 66, 51, 47, 83, 50, 51, 10, 49, 32, 48, 32, 48, 32, 48, 32, 50, 53, 53, 10, 50, 32, 49, 32, 48, 32, 49, 32, 48, 10]
theorem xA : Lo tA 1000 100000 = (([], []), 7, 2) := by decide +kernel
theorem xB : Lo tB 1000 100000 = (([97, 98, 99], lB), 0, 0) := by decide +kernel
theorem xC : Lo tC 1000 100000 = ((L3, lC), 0, 0) := by decide +kernel
theorem xD : hintR tD = (hD, true) := by decide +kernel
theorem xD2 : (Lo (tD ++ hD) 1000 100000).2.2 = 0 := by decide +kernel
theorem xE : hintR tE = ([], false) := by decide +kernel
theorem xF : Lo tF 0 1 = (([], []), 15, 4) := by decide +kernel
theorem rB : (Fb [97, 98, 99] && C9 lB) = true := by decide +kernel
theorem rC : (Fb L3 && C9 lC) = true := by decide +kernel
theorem wB : G0 [97, 98, 99] lB = sB := by decide +kernel
theorem wC : G0 L3 lC = sC := by decide +kernel
theorem q19_alive (H : Ab) : Sh.fl H = some (.ret (.bool true), H) := by
 have hA := fun K => Dw tA 1000 100000 K (by decide)
 have hB := fun K => Dw tB 1000 100000 K (by decide)
 have hC := fun K => Dw tC 1000 100000 K (by decide)
 have hD1 := fun K => Mi tD K (by decide)
 have hD2 := fun K => Dw (tD ++ hD) 1000 100000 K (by decide)
 have hE := fun K => Mi tE K (by decide)
 have hF := fun K => Dw tF 0 1 K (by decide)
 have hTB := fun K => Pw [97, 98, 99] lB K (by decide) (by decide)
 have hTC := fun K => Pw L3 lC K (by decide) (by decide)
 have hx2 := xD2
 generalize Lo (tD ++ hD) 1000 100000 = R at hD2 hx2
 obtain ⟨⟨r1, r2⟩, r3, r4⟩ := R
 dsimp only at hx2
 subst hx2
 have hadd : Af .none .add (.str tD) (.str hD) = some (.str (tD ++ hD)) := B5 (by decide)
 have b1 : A6 (some [(.int .i64 0), (.int .i64 0)]) [(1, 1, (.int .i64 1))] = some (.agg [.int .i64 0, .int .i64 1]) := rfl
 rw [xA] at hA
 rw [xB] at hB
 rw [xC] at hC
 rw [xD] at hD1
 rw [xE] at hE
 rw [xF] at hF
 rw [rB, wB] at hTB
 rw [rC, wC] at hTC
 simp only [Mg, LA, if_true] at hA hB hC hD2 hF hTB hTC
 dsimp only at hD1 hE
 unfold Sh.fl
 rw [show ([91, 77, 50, 93, 10, 50, 32, 49] : List UInt8) = tA from rfl, show ([91, 77, 50, 93, 32, 120, 13, 10, 35, 82, 32, 97, 98, 99, 10, 35, 67, 32, 121, 10, 35, 71, 32, 55, 10, 36, 36, 36, 36, 46, 46, 46, 46, 42, 36, 10, 52, 32, 49, 32, 48, 32, 48, 32, 48, 10, 53, 32, 48, 32, 48, 32, 48, 32, 50] : List UInt8) = tB from rfl,
  show ([91, 77, 50, 93, 10, 49, 32, 48, 32, 48, 32, 48, 32, 50, 53, 53, 10, 50, 32, 49, 32, 48, 32, 49, 32, 48, 10] : List UInt8) = tC from rfl, show ([91, 77, 50, 93, 10, 49, 32, 48, 32, 48, 32, 48, 32, 50, 53, 53, 10, 50, 32, 49] : List UInt8) = tD from rfl,
  show ([91, 77, 50, 93, 10, 10] : List UInt8) = tE from rfl, show ([91, 77, 50, 93, 10, 49, 32, 48, 32, 48, 32, 48, 32, 49, 10, 50, 32, 49, 32, 49, 32, 48, 32, 48] : List UInt8) = tF from rfl,
  show ([91, 77, 50, 93, 32, 40, 103, 108, 105, 100, 101, 114, 41, 10, 35, 82, 32, 97, 98, 99, 10, 36, 36, 36, 36, 46, 46, 46, 46, 42, 36, 10, 52, 32, 48, 32, 48, 32, 48, 32, 49, 10] : List UInt8) = sB from rfl,
  show ([91, 77, 50, 93, 32, 40, 103, 108, 105, 100, 101, 114, 41, 10, 35, 82, 32, 66, 51, 47, 83, 50, 51, 10, 49, 32, 48, 32, 48, 32, 48, 32, 50, 53, 53, 10, 50, 32, 49, 32, 48, 32, 49, 32, 48, 10] : List UInt8) = sC from rfl]
 simp only [Sl.gliderref11_Wide_eq, Sl.macro_Read_eq, Sl.gliderref14_Text_eq, Sl.macro_Hint_eq, GMb, GMc, HPa, HPc, HPd, HPe, HPz, Nat.reduceAdd, Nat.reduceLT, q11_wide, hA, hB, hC, hD1, hadd, hD2, hE, hF, hTB, hTC, b1, K3, beq_self_eq_true]
end Go.Gm
namespace Go.Gm
theorem DJ {b t : List UInt8} {a : Nat} {c : UInt8} (h : b.drop a = c :: t) : a < b.length ∧ b[a]? = some c ∧ b.drop (a + 1) = t := by
 have hl : a < b.length := by
  rcases Nat.lt_or_ge a b.length with h' | h'
  ·exact h'
  ·rw [List.drop_eq_nil_of_le h'] at h; cases h
 rw [List.drop_eq_getElem_cons hl] at h
 injection h with h1 h2
 exact ⟨hl, by rw [List.getElem?_eq_getElem hl, h1], h2⟩
theorem Be {b t : List UInt8} {a : Nat} {c : UInt8} (h : b.drop a = c :: t) (s : List UInt8) : A8 b a s = s.contains c := by
 unfold A8; rw [(DJ h).2.1]
theorem MG {b t : List UInt8} {a d : Nat} (hd : d < 10) (h : b.drop a = UInt8.ofNat (48 + d) :: t) : A8 b a BT = true ∧ D3 b a = d := by
 have hn : (UInt8.ofNat (48 + d)).toNat = 48 + d := by rw [UInt8.toNat_ofNat']; omega
 refine ⟨?_, ?_⟩
 ·rw [Be h]
  unfold BT
  rw [digs_mem, decide_eq_true_eq, hn]; omega
 ·unfold D3
  rw [List.getD_eq_getElem?_getD, (DJ h).2.1]
  show (UInt8.ofNat (48 + d)).toNat - 48 = d
  omega
theorem BO {b s t : List UInt8} {a : Nat} (h : b.drop a = s ++ t) : b.drop (a + s.length) = t := by
 rw [← List.drop_drop, h, List.drop_left]
theorem lev_run (b : List UInt8) (a K : Nat) : ∀ (m : Nat), m ≤ 1329 → ∀ t, b.drop a = AU m ++ t → Gh b (K + (AU m).length) a 0 = Gh b K (a + (AU m).length) m := by
 intro m
 induction m using Nat.strongRecOn generalizing K with
 | _ m ih =>
  intro hm t h
  by_cases h10 : m < 10
  ·rw [Dp h10] at h ⊢
   obtain ⟨s1, s2⟩ := MG h10 h
   show Gh b (K + 1) a 0 = _
   conv => lhs; unfold Gh
   rw [if_pos s1, s2, if_neg (by omega)]
   simp
  ·rw [Dq h10] at h ⊢
   rw [List.append_assoc] at h
   have := ih (m / 10) (by omega) (K + 1) (by omega) _ h
   rw [List.length_append, List.length_singleton, show K + ((AU (m / 10)).length + 1) = K + 1 + (AU (m / 10)).length by omega, this]
   have h2 := BO h
   obtain ⟨s1, s2⟩ := MG (show m % 10 < 10 by omega) h2
   conv => lhs; unfold Gh
   rw [if_pos s1, s2, if_neg (by omega), show 10 * (m / 10) + m % 10 = m by omega, Nat.add_assoc]
theorem level_ok {b t : List UInt8} {a v : Nat} {c : UInt8} (hv : 1 ≤ v) (hv2 : v ≤ 1329) (h : b.drop a = AU v ++ c :: t) (hc : BT.contains c = false) : Cc b a = (none, a + (AU v).length, v) := by
 have hl : (AU v).length + 1 ≤ b.length - a := by
  have := congrArg List.length h
  rw [List.length_drop, List.length_append, List.length_cons] at this; omega
 obtain ⟨c0, r0, h0, h0'⟩ := RK v (by omega)
 unfold Cc
 rw [if_neg (by
  rw [h0] at h
  rw [Be (c := c0) (t := r0 ++ c :: t) (by rw [h]; rfl)]
  simpa using fun h => h0' h)]
 obtain ⟨K, hK⟩ : ∃ K, b.length + 1 - a = (K + 1) + (AU v).length := ⟨b.length - a - (AU v).length, by omega⟩
 rw [hK, lev_run b a (K + 1) v hv2 _ h]
 unfold Gh
 rw [Be (BO h), hc, if_neg (by decide), if_neg (by omega)]
section
variable {lines : List (Nat × Int)} {lv : Int}
theorem kid_run (b : List UInt8) (a K N0 : Nat) (rest : List UInt8) (hm0 : CS lines lv N0 = true) : ∀ (m : Nat) (s t : List UInt8), AU N0 = AU m ++ s → b.drop a = AU m ++ t → GS b lines lv a rest (K + (AU m).length) a 0 = GS b lines lv a rest K (a + (AU m).length) m := by
 intro m
 induction m using Nat.strongRecOn generalizing K with
 | _ m ih =>
  intro s t hs h
  have hlong : (Fe lines lv m).isSome = true := (longS_iff lines lv m).2 ⟨N0, s, hs, hm0⟩
  by_cases h10 : m < 10
  ·rw [Dp h10] at h ⊢
   obtain ⟨s1, s2⟩ := MG h10 h
   show GS b lines lv a rest (K + 1) a 0 = _
   conv => lhs; unfold GS
   rw [if_pos s1, s2, if_neg (by omega), show 10 * 0 + m = m by omega, if_pos hlong]
   rfl
  ·rw [Dq h10] at h ⊢
   rw [Dq h10, List.append_assoc] at hs
   rw [List.append_assoc] at h
   have := ih (m / 10) (by omega) (K + 1) _ _ hs h
   rw [List.length_append, List.length_singleton, show K + ((AU (m / 10)).length + 1) = K + 1 + (AU (m / 10)).length by omega, this]
   have h2 := BO h
   obtain ⟨s1, s2⟩ := MG (show m % 10 < 10 by omega) h2
   conv => lhs; unfold GS
   rw [if_pos s1, s2, if_neg (by omega), show 10 * (m / 10) + m % 10 = m by omega, if_pos hlong, Nat.add_assoc]
theorem kid_ok {b t : List UInt8} {a n : Nat} {c : UInt8} (rest : List UInt8) (h : b.drop a = AU n ++ c :: t) (hc : BT.contains c = false) (hm : CS lines lv n = true) : M0 b a lines lv rest = (none, a + (AU n).length, BJ lines lv n) := by
 have hl : (AU n).length + 1 ≤ b.length - a := by
  have := congrArg List.length h
  rw [List.length_drop, List.length_append, List.length_cons] at this; omega
 obtain ⟨K, hK⟩ : ∃ K, b.length + 1 - a = (K + 1) + (AU n).length := ⟨b.length - a - (AU n).length, by omega⟩
 have hp := decN_pos n
 unfold M0
 rw [hK, kid_run b a (K + 1) n rest hm n [] _ (by simp) h]
 unfold GS
 rw [Be (BO h), hc, if_neg (by decide), if_neg (by omega), if_pos hm]
theorem must_one {b t : List UInt8} {a : Nat} {c : UInt8} (h : b.drop a = c :: t) (rest : List UInt8) : BD b a [c] rest = (none, a + 1) := by
 have h1 : cpN (b.drop a) [c] = 1 := by
  rw [h]
  show (if c = c then cpN t [] + 1 else 0) = 1
  rw [if_pos rfl]
  cases t <;> rfl
 unfold BD GQ
 rw [h1]
 rfl
theorem KG {b t : List UInt8} {a n : Nat} {c : UInt8} (d k : Nat) (x : Nd) (rest : List UInt8) (h : b.drop a = 32 :: (AU n ++ c :: t)) (hc : BT.contains c = false) (hm : CS lines lv n = true) :
  Eu b lines lv (d + 1) k a x rest = Eu b lines lv d (k + 1) (a + 1 + (AU n).length) (x.setKid k (BJ lines lv n : Int)) (rest.drop 2) := by
 conv => lhs; unfold Eu
 rw [must_one h]
 dsimp only
 rw [kid_ok rest (DJ h).2.2 hc hm]

end
def lnT (v n0 n1 n2 n3 : Nat) : List UInt8 := AU v ++ (32 :: AU n0 ++ (32 :: AU n1 ++ (32 :: AU n2 ++ 32 :: AU n3)))
theorem dig32 : BT.contains (32 : UInt8) = false := by decide
theorem node_ok {b t : List UInt8} {a v n0 n1 n2 n3 : Nat} {c : UInt8} (st : MSt) (hv : 1 ≤ v) (hv2 : v ≤ 1329) (h : b.drop a = lnT v n0 n1 n2 n3 ++ c :: t) (hc : BT.contains c = false)
  (h0 : CS st.lines v n0 = true) (h1 : CS st.lines v n1 = true) (h2 : CS st.lines v n2 = true) (h3 : CS st.lines v n3 = true) :
  Mm b a st = ((none, a + (lnT v n0 n1 n2 n3).length), { st with nodes := st.nodes ++ [⟨v, BJ st.lines v n0, BJ st.lines v n1, BJ st.lines v n2, BJ st.lines v n3⟩], lines := st.lines ++ [(st.nodes.length + 1, (v : Int))] }) := by
 unfold lnT at h
 simp only [List.append_assoc, List.cons_append] at h
 unfold Mm
 rw [level_ok hv hv2 h dig32]
 dsimp only
 have d0 := BO h
 have s0 := KG (lines := st.lines) (lv := (v : Int)) 3 0 ⟨v, 0, 0, 0, 0⟩ [32, 48, 32, 48, 32, 48] d0 dig32 h0
 rw [s0]
 have d1 := BO (DJ d0).2.2
 rw [KG (lines := st.lines) (lv := (v : Int)) 2 1 _ _ d1 dig32 h1]
 have d2 := BO (DJ d1).2.2
 rw [KG (lines := st.lines) (lv := (v : Int)) 1 2 _ _ d2 dig32 h2]
 have d3 := BO (DJ d2).2.2
 rw [KG (lines := st.lines) (lv := (v : Int)) 0 3 _ _ d3 hc h3]
 unfold Eu
 dsimp only
 have hlen : a + (AU v).length + 1 + (AU n0).length + 1 + (AU n1).length + 1 + (AU n2).length + 1 + (AU n3).length = a + (lnT v n0 n1 n2 n3).length := by
  unfold lnT; simp only [List.length_append, List.length_cons, List.cons_append]; omega
 rw [hlen]
 rfl
end Go.Gm
namespace Go.Gm
theorem nd_head {v : Nat} (h : v ≠ 0) (r : List UInt8) : ∃ c t, AU v ++ r = c :: t ∧ ([46, 42, 36] : List UInt8).contains c = false ∧ ([35] : List UInt8).contains c = false ∧ ([46, 42, 36, 49, 50, 51, 52, 53, 54, 55, 56, 57] : List UInt8).contains c = true := by
 obtain ⟨c, t, h1, h2⟩ := RK v h
 have hd := decN_dig v c (by rw [h1]; simp)
 refine ⟨c, t ++ r, by rw [h1]; rfl, ?_⟩
 have key : ∀ n : Fin 256, Fy (UInt8.ofNat n.val) = true → UInt8.ofNat n.val ≠ 48 → (([46, 42, 36] : List UInt8).contains (UInt8.ofNat n.val) = false ∧ ([35] : List UInt8).contains (UInt8.ofNat n.val) = false ∧ ([46, 42, 36, 49, 50, 51, 52, 53, 54, 55, 56, 57] : List UInt8).contains (UInt8.ofNat n.val) = true) := by decide +kernel
 have := key ⟨c.toNat, c.toNat_lt⟩
 simp only [UInt8.ofNat_toNat] at this
 exact this hd h2
theorem end_lf {b t : List UInt8} {a : Nat} (h : b.drop a = 10 :: t) (rest : List UInt8) : HQ b a rest = (none, a + 1) := by
 have hne : a ≠ b.length := by have := (DJ h).1; omega
 have h13 : A8 b a [13] = false := by rw [Be h]; decide
 have h10 : A8 b a [10] = true := by rw [Be h]; decide
 unfold HQ eolN crN
 simp only [h13, h10, if_neg hne, Bool.false_eq_true, if_false, if_true]
end Go.Gm
namespace Go.Gm
end Go.Gm
namespace Go.Gm
section
variable {on : Nat → Nat → Bool}
theorem Pa (y : Nat) : ∀ k x, AP on y k ≤ x → x < k → on x y = false
 | 0, x, _, h => absurd h (by omega)
 | k + 1, x, h1, h2 => by
  rw [Lq] at h1
  by_cases hk : on k y = true
  ·rw [if_pos hk] at h1; omega
  ·rw [if_neg hk] at h1
   by_cases e : x = k
   ·rw [e]; simpa using hk
   ·exact Pa y k x h1 (by omega)
theorem leafRow_take (y : Nat) {u k : Nat} (h : u ≤ k) : (Cq on y k).take u = Cq on y u := by
 unfold Cq
 rw [← List.map_take, List.take_range, Nat.min_eq_left h]
theorem Et (y : Nat) : (AC on (y + 1)).1 = (AC on y).1 ++ Cq on y (AP on y 8) ++ [36] := by
 show (AC on y).1 ++ (Cq on y 8).take (AP on y 8) ++ [36] = _
 rw [leafRow_take y (Ff on y 8)]
theorem Kn : ∀ Y, ∃ R, R ≤ Y ∧ (AC on Y).1.take (AC on Y).2 = (AC on R).1 ∧ ∀ y, R ≤ y → y < Y → ∀ x, x < 8 → on x y = false
 | 0 => ⟨0, Nat.le_refl _, rfl, fun y h1 h2 => absurd h2 (by omega)⟩
 | Y + 1 => by
  by_cases hu : 0 < AP on Y 8
  ·refine ⟨Y + 1, Nat.le_refl _, ?_, fun y h1 h2 => absurd h2 (by omega)⟩
   apply List.take_of_length_le
   show _ ≤ (if 0 < AP on Y 8 then _ else _)
   rw [if_pos hu]
   exact Nat.le_refl _
  ·obtain ⟨R, h1, h2, h3⟩ := Kn Y
   refine ⟨R, by omega, ?_, fun y h4 h5 x hx => ?_⟩
   ·have e : (AC on (Y + 1)).2 = (AC on Y).2 := by
     show (if 0 < AP on Y 8 then _ else _) = _
     rw [if_neg hu]
    rw [e, Et, List.append_assoc, List.take_append_of_le_length (Fg on Y).2, h2]
   ·by_cases e : y = Y
    ·rw [e]; exact Pa Y 8 x (by omega) hx
    ·exact h3 y h4 (by omega) x hx
theorem Lr : ∀ Y c, c ∈ (AC on Y).1 → c = 46 ∨ c = 42 ∨ c = 36
 | 0, c, h => by simp [AC] at h
 | Y + 1, c, h => by
  rw [Et] at h
  rcases List.mem_append.1 h with h | h
  ·rcases List.mem_append.1 h with h | h
   ·exact Lr Y c h
   ·unfold Cq at h
    obtain ⟨x, _, hx⟩ := List.mem_map.1 h
    split at hx
    ·exact .inr (.inl hx.symm)
    ·exact .inl hx.symm
  ·rw [List.mem_singleton] at h; exact .inr (.inr h)
def OnIs (O : List Bool) (on : Nat → Nat → Bool) (R y u : Nat) : Prop := O.length = 64 ∧ ∀ x y', x < 8 → y' < 8 → O.getD (y' * 8 + x) false = if y' < R ∨ (y' = y ∧ x < u) then on x y' else false
theorem row_run {b : List UInt8} {a y : Nat} (hy : y < 8) : ∀ u, u ≤ 8 → ∀ K t O, OnIs O on y y 0 → b.drop a = Cq on y u ++ t → ∃ O', Cy b (K + u) a 0 y O = Cy b K (a + u) u y O' ∧ OnIs O' on y y u
 | 0, _, K, t, O, hO, h => ⟨O, rfl, hO⟩
 | u + 1, hu, K, t, O, hO, h => by
  rw [Mz, List.append_assoc] at h
  obtain ⟨O1, e1, o1, o2⟩ := row_run hy u (by omega) (K + 1) _ O hO h
  have hd := BO h
  rw [Ed] at hd
  refine ⟨O1.set (y * 8 + u) (on u y), ?_, by rw [List.length_set]; exact o1, fun x y' hx hy' => ?_⟩
  ·rw [show K + (u + 1) = K + 1 + u by omega, e1]
   conv => lhs; unfold Cy
   have hd' : b.drop (a + u) = (if on u y = true then 42 else 46) :: t := hd
   have s1 : A8 b (a + u) [46, 42, 36] = true := by rw [Be hd']; split <;> decide
   have s2 : A8 b (a + u) [36] = false := by rw [Be hd']; split <;> decide
   have s3 : A8 b (a + u) [42] = on u y := by
    rw [Be hd']
    cases on u y <;> decide
   rw [if_pos s1, s2, s3, if_neg (by omega), if_neg (by decide), Nat.add_assoc]
  ·rw [List.getD_eq_getElem?_getD, List.getElem?_set]
   by_cases e : y * 8 + u = y' * 8 + x
   ·have : y' = y ∧ x = u := by omega
    rw [if_pos e, if_pos (by omega), if_pos (by omega), this.1, this.2]; rfl
   ·rw [if_neg e, ← List.getD_eq_getElem?_getD, o2 x y' hx hy']
    by_cases c : y' < y ∨ (y' = y ∧ x < u)
    ·rw [if_pos c, if_pos (by omega)]
    ·rw [if_neg c, if_neg (by omega)]
theorem rows_run {b : List UInt8} {a : Nat} : ∀ R, R ≤ 8 → ∀ K t, b.drop a = (AC on R).1 ++ t → ∃ O, Cy b (K + (AC on R).1.length) a 0 0 (List.replicate 64 false) = Cy b K (a + (AC on R).1.length) 0 R O ∧ OnIs O on R R 0
 | 0, _, K, t, h => ⟨List.replicate 64 false, rfl, by simp, fun x y' hx hy' => by
   rw [if_neg (by omega), List.getD_eq_getElem?_getD, List.getElem?_replicate]; split <;> rfl⟩
 | R + 1, hR, K, t, h => by
  rw [Et, List.append_assoc, List.append_assoc] at h
  obtain ⟨O1, e1, o1⟩ := rows_run R (by omega) (K + AP on R 8 + 1) _ h
  have hul := Ff on R 8
  have h2 := BO h
  obtain ⟨O2, e2, o2⟩ := row_run (by omega) (AP on R 8) hul (K + 1) _ O1 o1 h2
  have h3 := BO h2
  rw [Ed] at h3
  have hlen : (AC on (R + 1)).1.length = (AC on R).1.length + AP on R 8 + 1 := by
   rw [Et]; simp only [List.length_append, List.length_singleton, Ed]
  refine ⟨O2, ?_, o2.1, fun x y' hx hy' => ?_⟩
  ·rw [hlen, show K + ((AC on R).1.length + AP on R 8 + 1) = K + AP on R 8 + 1 + (AC on R).1.length by omega, e1, show K + AP on R 8 + 1 = K + 1 + AP on R 8 by omega, e2]
   conv => lhs; unfold Cy
   have h3' : b.drop (a + (AC on R).1.length + AP on R 8) = 36 :: t := h3
   have s1 : A8 b (a + (AC on R).1.length + AP on R 8) [46, 42, 36] = true := by rw [Be h3']; decide
   have s2 : A8 b (a + (AC on R).1.length + AP on R 8) [36] = true := by rw [Be h3']; decide
   rw [if_pos s1, s2, if_neg (by simp; omega), if_pos rfl]
   congr 1; omega
  ·rw [o2.2 x y' hx hy']
   by_cases c : y' < R
   ·rw [if_pos (.inl c), if_pos (by omega)]
   ·by_cases c2 : y' = R
    ·subst c2
     by_cases c3 : x < AP on y' 8
     ·rw [if_pos (.inr ⟨rfl, c3⟩), if_pos (by omega)]
     ·rw [if_neg (by omega), if_pos (by omega)]
      exact (Pa y' 8 x (by omega) hx).symm
    ·rw [if_neg (by omega), if_neg (by omega)]

end
theorem leaf_line {L : List Nd} {n : Nat} {b t : List UInt8} {a : Nat} (h : b.drop a = Ec L n ++ 10 :: t) (st : MSt) : ∃ on, My b a st = ((none, a + (Ec L n).length), { st with nodes := sqF on 3 0 0 st.nodes, lines := st.lines ++ [((sqF on 3 0 0 st.nodes).length, 3)] }) ∧ ∀ x y, x < 8 → y < 8 → on x y = onF L 3 (n : Int) x y := by
 obtain ⟨R, h1, h2, h3⟩ := Kn (on := onF L 3 (n : Int)) 8
 have hT : Ec L n = (AC (onF L 3 (n : Int)) R).1 := h2
 rw [hT] at h ⊢
 have hl : (AC (onF L 3 (n : Int)) R).1.length + 1 ≤ b.length - a := by
  have := congrArg List.length h
  rw [List.length_drop, List.length_append, List.length_cons] at this; omega
 obtain ⟨K, hK⟩ : ∃ K, b.length + 1 - a = (K + 1) + (AC (onF L 3 (n : Int)) R).1.length := ⟨b.length - a - (AC (onF L 3 (n : Int)) R).1.length, by omega⟩
 obtain ⟨O, e1, o1, o2⟩ := rows_run R h1 (K + 1) _ h
 have hd := BO h
 have hend : ∀ x y O, Cy b (K + 1) (a + (AC (onF L 3 (n : Int)) R).1.length) x y O = (none, a + (AC (onF L 3 (n : Int)) R).1.length, O) := fun x y O => by
  unfold Cy
  rw [Be hd, if_neg (by decide)]
 refine ⟨onQ O, ?_, fun x y hx hy => ?_⟩
 ·unfold My
  rw [hK, e1, hend]
 ·unfold onQ
  rw [o2 x y hx hy]
  by_cases c : y < R
  ·rw [if_pos (.inl c)]
  ·rw [if_neg (by omega)]
   exact (h3 y (by omega) hy x hx).symm
theorem leaf_head {L : List Nd} {n : Nat} (hne : ∃ x y, x < 8 ∧ y < 8 ∧ onF L 3 (n : Int) x y = true) : ∃ c t, Ec L n = c :: t ∧ (c = 46 ∨ c = 42 ∨ c = 36) := by
 obtain ⟨R, h1, h2, h3⟩ := Kn (on := onF L 3 (n : Int)) 8
 have hT : Ec L n = (AC (onF L 3 (n : Int)) R).1 := h2
 rw [hT]
 obtain ⟨x, y, hx, hy, ho⟩ := hne
 cases R with
 | zero => have := h3 y (by omega) hy x hx; rw [this] at ho; cases ho
 | succ R =>
  have hc := Lr (on := onF L 3 (n : Int)) (R + 1)
  have hp : (AC (onF L 3 (n : Int)) (R + 1)).1 ≠ [] := by rw [Et]; simp
  cases hl : (AC (onF L 3 (n : Int)) (R + 1)).1 with
  | nil => exact absurd hl hp
  | cons c t => exact ⟨c, t, rfl, hc c (by rw [hl]; simp)⟩
end Go.Gm
namespace Go.Gm
section
variable {M : List Nd} {B : Nat}
def KnownN (M : List Nd) (i : Nat) (out : List Nd) : Prop := ∃ d, AE M (Aq M) (Ak M i).lv.toNat i out = (out, d)
theorem KnownN.grow {i : Nat} {out : List Nd} (h : KnownN M i out) (r : List Nd) : KnownN M i (out ++ r) := by
 obtain ⟨d, h⟩ := h
 have := EP (L := M) (E := Aq M) (Ak M i).lv.toNat i out r
 rw [h] at this
 exact ⟨d, this⟩
end
end Go.Gm
namespace Go.Gm
end Go.Gm
namespace Go.Gm
theorem maxK_le (m : Int) (x : Nd) : ∀ k, m ≤ Lh m x k ∧ ∀ j, j < k → x.kid j ≤ Lh m x k
 | 0 => ⟨Int.le_refl _, fun j hj => absurd hj (by omega)⟩
 | k + 1 => by
  obtain ⟨h1, h2⟩ := maxK_le m x k
  unfold Lh
  refine ⟨by omega, fun j hj => ?_⟩
  by_cases e : j = k
  ·rw [e]; omega
  ·have := h2 j (by omega); omega
theorem most_le {L : List Nd} {x : Nd} (hx : x ∈ L) (h1 : x.lv = 1) {k : Nat} (hk : k < 4) : x.kid k ≤ Iu L := by
 have key : ∀ (l : List Nd) (m : Int), m ≤ l.foldl (fun m x => if x.lv = 1 then Lh m x 4 else m) m ∧ (x ∈ l → x.kid k ≤ l.foldl (fun m x => if x.lv = 1 then Lh m x 4 else m) m) := by
  intro l
  induction l with
  | nil => intro m; exact ⟨Int.le_refl _, fun h => by cases h⟩
  | cons a l ih =>
   intro m
   rw [List.foldl_cons]
   have hm : m ≤ (if a.lv = 1 then Lh m a 4 else m) := by split; exact (maxK_le m a 4).1; exact Int.le_refl _
   obtain ⟨i1, i2⟩ := ih (if a.lv = 1 then Lh m a 4 else m)
   refine ⟨by omega, fun h => ?_⟩
   rcases List.mem_cons.1 h with e | e
   ·subst e
    rw [if_pos h1] at i1 ⊢
    have := (maxK_le m x 4).2 k hk
    omega
   ·exact i2 e
 exact (key L 0).2 hx
theorem two_kz {L : List Nd} (h : LX L = true) (hl : Ao L = true) : ∀ n k, Lv L 1 n → k < 4 → kz L n k ≤ 1 := by
 intro n k hn hk
 rcases Nat.eq_zero_or_pos n with h0 | h0
 ·rw [h0, kz_0]; decide
 ·obtain ⟨e, _⟩ := hn.num h0 hl
  rw [CT h0]
  obtain ⟨m, rfl⟩ : ∃ m, n = m + 1 := ⟨n - 1, by omega⟩
  rw [A1 hn.1] at e ⊢
  have := most_le (List.getElem_mem hn.1) (by omega) hk
  unfold LX at h
  rw [decide_eq_true_eq] at h
  omega
abbrev lnA (Q : List Nd) (two : Bool) (i : Nat) : List Nat := (A9 Q two i).2
theorem lnA_zero (Q : List Nd) (two : Bool) : ∀ i, (lnA Q two i).getD 0 0 = 0
 | 0 => rfl
 | i + 1 => by
  have ih := lnA_zero Q two i
  have hl := (Di Q two i).1
  have e : ∀ r, (lnA Q two i ++ [r]).getD 0 0 = 0 := fun r => by
   rw [List.getD_eq_getElem?_getD, List.getElem?_append_left (by show 0 < (A9 Q two i).2.length; omega), ← List.getD_eq_getElem?_getD]; exact ih
  show (A9 Q two (i + 1)).2.getD 0 0 = 0
  unfold A9
  dsimp only
  split
  ·exact e _
  ·exact e _
structure LnI (Q : List Nd) (two : Bool) (i : Nat) (M : List Nd) (lns : List (Nat × Int)) : Prop where
 lo : Ao M = true
 len : lns.length = (A9 Q two i).1.length
 num : ∀ j, 1 ≤ j → j ≤ i → (two = true → 3 ≤ (Ak Q (j : Int)).lv) → 1 ≤ (lnA Q two i).getD j 0 ∧ ∃ m, lns[(lnA Q two i).getD j 0 - 1]? = some (m, (Ak Q (j : Int)).lv) ∧ 0 < m ∧ Lv M (Ak Q (j : Int)).lv.toNat m ∧ sem M (Ak Q (j : Int)).lv.toNat m = sem Q (Ak Q (j : Int)).lv.toNat j
def kdW (A : List Nat) (x : Nd) (k : Nat) : Nat := if 1 < x.lv then A.getD (x.kid k).toNat 0 else (x.kid k).toNat
section
variable {Q M : List Nd} {two : Bool} {i : Nat} {lns : List (Nat × Int)}
theorem kd_one (hl : Ao Q = true) (hi : i < Q.length) (h1 : Q[i].lv = 1) {k : Nat} (hk : k < 4) : CS lns Q[i].lv (kdW (lnA Q two i) Q[i] k) = true ∧ (BJ lns Q[i].lv (kdW (lnA Q two i) Q[i] k) : Int) = Q[i].kid k := by
 obtain ⟨g1, g2, g3⟩ := (Ax hl hi).2.2 k hk
 have := g2 h1
 have e : kdW (lnA Q two i) Q[i] k = (Q[i].kid k).toNat := by unfold kdW; rw [if_neg (by omega)]
 rw [e]
 refine ⟨?_, ?_⟩
 ·unfold CS; rw [if_pos h1, decide_eq_true_eq]; omega
 ·unfold BJ; rw [if_neg (by omega)]; omega
theorem kd_more (hl : Ao Q = true) (hI : LnI Q two i M lns) (hi : i < Q.length) (h1 : 1 < Q[i].lv) (h4 : two = true → 4 ≤ Q[i].lv) {k : Nat} (hk : k < 4) :
  CS lns Q[i].lv (kdW (lnA Q two i) Q[i] k) = true ∧ Lv M (Q[i].lv.toNat - 1) (BJ lns Q[i].lv (kdW (lnA Q two i) Q[i] k)) ∧ sem M (Q[i].lv.toNat - 1) (BJ lns Q[i].lv (kdW (lnA Q two i) Q[i] k)) = sem Q (Q[i].lv.toNat - 1) (Q[i].kid k).toNat := by
 obtain ⟨g1, g2, g3⟩ := (Ax hl hi).2.2 k hk
 have e : kdW (lnA Q two i) Q[i] k = (lnA Q two i).getD (Q[i].kid k).toNat 0 := by unfold kdW; rw [if_pos h1]
 rw [e]
 by_cases h0 : 0 < Q[i].kid k
 ·obtain ⟨q1, q2⟩ := g3 h1 h0
  obtain ⟨c, hc⟩ : ∃ c : Nat, Q[i].kid k = ((c + 1 : Nat) : Int) := ⟨(Q[i].kid k - 1).toNat, by omega⟩
  have hcl : c < Q.length := by omega
  have hlv := q2 Q[c] (by rw [hc, show (((c + 1 : Nat) : Int) - 1).toNat = c by omega]; exact List.getElem?_eq_getElem hcl)
  have hat : Ak Q ((c + 1 : Nat) : Int) = Q[c] := A1 hcl
  rw [hc, Int.toNat_natCast]
  obtain ⟨n1, m, n2, n3, n4, n5⟩ := hI.num (c + 1) (by omega) (by omega) (by rw [hat]; intro ht; have := h4 ht; omega)
  rw [hat, hlv] at n2 n4 n5
  have ev : (Q[i].lv - 1).toNat = Q[i].lv.toNat - 1 := by omega
  rw [ev] at n4 n5
  generalize (lnA Q two i).getD (c + 1) 0 = p at *
  have ht : BJ lns Q[i].lv p = m := by
   unfold BJ; rw [if_pos ⟨h1, n1⟩, n2]; rfl
  rw [ht]
  refine ⟨?_, n4, n5⟩
  unfold CS
  rw [if_neg (by omega), if_neg (by omega), n2]
  exact decide_eq_true rfl
 ·have hz : (Q[i].kid k).toNat = 0 := by omega
  rw [hz, lnA_zero]
  have ht : BJ lns Q[i].lv 0 = 0 := by unfold BJ; rw [if_neg (by omega)]
  rw [ht, BM, BM]
  refine ⟨?_, ⟨Nat.zero_le _, .inl rfl⟩, rfl⟩
  unfold CS
  rw [if_neg (by omega), if_pos rfl]
theorem lineK_ln (hl : Ao Q = true) (hi : i < Q.length) : Ep (lnA Q two i) Q[i] 4 = lnT Q[i].lv.toNat (kdW (lnA Q two i) Q[i] 0) (kdW (lnA Q two i) Q[i] 1) (kdW (lnA Q two i) Q[i] 2) (kdW (lnA Q two i) Q[i] 3) := by
 have hz : ∀ z : Int, 0 ≤ z → LR z = AU z.toNat := fun z h => by
  unfold LR; rw [if_neg (by omega), show z.natAbs = z.toNat by omega]
 obtain ⟨h1, h2, h3⟩ := Ax hl hi
 have hk : ∀ k, k < 4 → LR (if 1 < Q[i].lv then (((lnA Q two i).getD (Q[i].kid k).toNat 0 : Nat) : Int) else Q[i].kid k) = AU (kdW (lnA Q two i) Q[i] k) := fun k hk => by
  have := (h3 k hk).1
  unfold kdW
  split
  ·rw [hz _ (by omega), Int.toNat_natCast]
  ·rw [hz _ this]
 unfold Ep Ep Ep Ep Ep lnT
 rw [hk 0 (by decide), hk 1 (by decide), hk 2 (by decide), hk 3 (by decide), hz _ (by omega)]
 simp only [List.append_assoc, List.cons_append, List.nil_append]
theorem node_step {b t law : List UInt8} {a : Nat} {N : Int} (hl : Ao Q = true) (hI : LnI Q two i M lns) (hi : i < Q.length) (h4 : two = true → 4 ≤ Q[i].lv) (h : b.drop a = Ep (lnA Q two i) Q[i] 4 ++ 10 :: t) (hN : (lns.length : Int) < N) :
  ∃ x : Nd, Kk b N a ⟨law, M, lns⟩ = ((none, a + (Ep (lnA Q two i) Q[i] 4).length + 1), ⟨law, M ++ [x], lns ++ [(M.length + 1, Q[i].lv)]⟩) ∧
   Ao (M ++ [x]) = true ∧ Lv (M ++ [x]) Q[i].lv.toNat (M.length + 1) ∧ sem (M ++ [x]) Q[i].lv.toNat (M.length + 1) = sem Q Q[i].lv.toNat (i + 1) := by
 obtain ⟨h1, h2, h3⟩ := Ax hl hi
 have hlv : (Q[i].lv.toNat : Int) = Q[i].lv := Int.toNat_of_nonneg (by omega)
 have hat : Ak Q ((i + 1 : Nat) : Int) = Q[i] := A1 hi
 have hLv : Lv Q Q[i].lv.toNat (i + 1) := ⟨hi, .inr (by rw [hat])⟩
 rw [lineK_ln hl hi] at h ⊢
 have hmay : ∀ k, k < 4 → CS lns Q[i].lv (kdW (lnA Q two i) Q[i] k) = true := fun k hk => by
  by_cases hv : Q[i].lv = 1
  ·exact (kd_one hl hi hv hk).1
  ·exact (kd_more hl hI hi (by omega) h4 hk).1
 have hnode := node_ok (t := t) (c := 10) ⟨law, M, lns⟩ (by omega) (by omega) h (by decide) (by rw [hlv]; exact hmay 0 (by decide)) (by rw [hlv]; exact hmay 1 (by decide)) (by rw [hlv]; exact hmay 2 (by decide)) (by rw [hlv]; exact hmay 3 (by decide))
 rw [hlv] at hnode
 refine ⟨⟨Q[i].lv, BJ lns Q[i].lv (kdW (lnA Q two i) Q[i] 0), BJ lns Q[i].lv (kdW (lnA Q two i) Q[i] 1), BJ lns Q[i].lv (kdW (lnA Q two i) Q[i] 2), BJ lns Q[i].lv (kdW (lnA Q two i) Q[i] 3)⟩, ?_, ?_⟩
 ·have hd0 : ∃ s, b.drop a = AU Q[i].lv.toNat ++ s := ⟨_, by rw [h]; unfold lnT; rw [List.append_assoc]⟩
  obtain ⟨s, hs⟩ := hd0
  obtain ⟨c, u, e1, e2, e3, e4⟩ := nd_head (v := Q[i].lv.toNat) (by omega) s
  have hd : b.drop a = c :: u := by rw [hs, e1]
  unfold Kk rlS
  rw [Be hd, Be hd, Be hd, e2, e3, e4]
  dsimp only
  rw [if_neg (by decide), if_neg (by simp; omega), if_neg (by decide), hnode]
  dsimp only
  rw [end_lf (BO h)]
 ·have hkid : ∀ k, k < 4 → (⟨Q[i].lv, BJ lns Q[i].lv (kdW (lnA Q two i) Q[i] 0), BJ lns Q[i].lv (kdW (lnA Q two i) Q[i] 1), BJ lns Q[i].lv (kdW (lnA Q two i) Q[i] 2), BJ lns Q[i].lv (kdW (lnA Q two i) Q[i] 3)⟩ : Nd).kid k = (BJ lns Q[i].lv (kdW (lnA Q two i) Q[i] k) : Int) := fun k hk => by
   match k, hk with
   | 0, _ => rfl
   | 1, _ => rfl
   | 2, _ => rfl
   | 3, _ => rfl
  by_cases hv : Q[i].lv = 1
  ·have ev : Q[i].lv.toNat = 1 := by omega
   have hko := fun k hk => (kd_one (two := two) (lns := lns) hl hi hv hk (k := k)).2
   obtain ⟨s1, s2, s3⟩ := MV hI.lo (x := ⟨Q[i].lv, BJ lns Q[i].lv (kdW (lnA Q two i) Q[i] 0), BJ lns Q[i].lv (kdW (lnA Q two i) Q[i] 1), BJ lns Q[i].lv (kdW (lnA Q two i) Q[i] 2), BJ lns Q[i].lv (kdW (lnA Q two i) Q[i] 3)⟩) hv (fun k hk => by
    rw [hkid k hk, hko k hk]
    have := h3 k hk
    exact ⟨this.1, this.2.1 hv⟩)
   rw [ev]
   refine ⟨s1, s2, ?_⟩
   rw [s3, semL hl (by rw [ev] at hLv; exact hLv)]
   refine mkL_eq fun k hk => ?_
   rw [hkid k hk, hko k hk, CT (by omega), hat]
  ·obtain ⟨v, ev⟩ : ∃ v, Q[i].lv.toNat = v + 1 := ⟨Q[i].lv.toNat - 1, by omega⟩
   have hkm := fun k hk => (kd_more hl hI hi (by omega) h4 hk (k := k)).2
   have ev1 : Q[i].lv.toNat - 1 = v := by omega
   rw [ev1] at hkm
   obtain ⟨s1, s2, s3⟩ := KA hI.lo (v := v) (x := ⟨Q[i].lv, BJ lns Q[i].lv (kdW (lnA Q two i) Q[i] 0), BJ lns Q[i].lv (kdW (lnA Q two i) Q[i] 1), BJ lns Q[i].lv (kdW (lnA Q two i) Q[i] 2), BJ lns Q[i].lv (kdW (lnA Q two i) Q[i] 3)⟩) (by omega) (by omega) (show Q[i].lv = _ by omega) (fun k hk => by
    rw [hkid k hk, Int.toNat_natCast]
    exact ⟨by omega, (hkm k hk).1⟩)
   rw [ev]
   refine ⟨s1, s2, ?_⟩
   rw [s3, semN hl (by rw [ev] at hLv; exact hLv) (by omega)]
   refine PF fun k hk => ?_
   rw [hkid k hk, Int.toNat_natCast, (hkm k hk).2]
   unfold kq
   rw [CT (by omega), hat]
theorem Rt {b t law : List UInt8} {a n : Nat} {N : Int} (hl : Ao Q = true) (hlM : Ao M = true) (h2 : ∀ n k, Lv Q 1 n → k < 4 → kz Q n k ≤ 1) (hLv : Lv Q 3 n) (hne : sem Q 3 n ≠ .nil) (h : b.drop a = Ec Q n ++ 10 :: t) (hN : (lns.length : Int) < N) :
  ∃ M', Kk b N a ⟨law, M, lns⟩ = ((none, a + (Ec Q n).length + 1), ⟨law, M', lns ++ [(M'.length, 3)]⟩) ∧ SqR Q M M' 3 n := by
 have hon : ∃ x y, x < 8 ∧ y < 8 ∧ onF Q 3 (n : Int) x y = true := by
  apply Classical.byContradiction
  intro hno
  refine hne (off_nil hl 3 n hLv fun dx dy hx hy => ?_)
  cases ho : onF Q 3 (n : Int) dx dy with
  | false => rfl
  | true => exact absurd ⟨dx, dy, hx, hy, ho⟩ hno
 obtain ⟨c, u, e1, e2⟩ := leaf_head hon
 have hd : b.drop a = c :: (u ++ 10 :: t) := by rw [h, e1]; rfl
 obtain ⟨on, l1, l2⟩ := leaf_line h ⟨law, M, lns⟩
 refine ⟨sqF on 3 0 0 M, ?_, sq_sem hl h2 on 2 (by omega) 0 0 M n hlM hLv (fun dx dy hx hy => by rw [Nat.zero_add, Nat.zero_add]; exact l2 dx dy hx hy)⟩
 have c1 : ([35] : List UInt8).contains c = false := by rcases e2 with e | e | e <;> rw [e] <;> decide
 have c2 : ([46, 42, 36] : List UInt8).contains c = true := by rcases e2 with e | e | e <;> rw [e] <;> decide
 unfold Kk rlS
 rw [Be hd, Be hd, Be hd, c1, c2]
 dsimp only
 rw [if_neg (by decide), if_neg (by simp; omega), if_pos rfl, l1]
 dsimp only
 rw [end_lf (BO h)]

end
end Go.Gm
namespace Go.Gm
end Go.Gm
namespace Go.Gm
end Go.Gm
namespace Go.Gm
end Go.Gm
namespace Go.Gm
theorem linesF_end (b : List UInt8) (N : Int) (K a : Nat) (st : MSt) (h : a = b.length) : C1 b N (K + 1) a st = ((none, a), st) := by
 unfold C1; rw [if_pos h]
end Go.Gm
namespace Go.Gm
def Cr (ls : List (List UInt8)) : List UInt8 := ls.flatMap fun s => s ++ [10]
theorem PW (ls : List (List UInt8)) (s : List UInt8) : Cr (ls ++ [s]) = Cr ls ++ (s ++ [10]) := by
 unfold Cr; rw [List.flatMap_append]; simp
theorem Pc : ∀ (ls : List (List UInt8)) (s0 : List UInt8), Ir s0 ls = s0 ++ Cr ls
 | [], s0 => by simp [Ir, Cr]
 | s :: ls, s0 => by
  have : Ir s0 (s :: ls) = Ir (s0 ++ s ++ [10]) ls := rfl
  rw [this, Pc ls]
  unfold Cr
  simp
theorem Rv : ∀ ls : List (List UInt8), ls.length ≤ (Cr ls).length
 | [] => Nat.zero_le _
 | s :: ls => by
  have := Rv ls
  unfold Cr at this ⊢
  rw [List.flatMap_cons, List.length_append, List.length_append, List.length_cons, List.length_singleton]; omega
section
variable {Q M : List Nd} {two : Bool} {i : Nat} {lns : List (Nat × Int)}
theorem Gp (hi : i < Q.length) : A9 Q two (i + 1) = if two && decide (Q[i].lv < 3) then ((A9 Q two i).1, lnA Q two i ++ [0]) else ((A9 Q two i).1 ++ [D6 Q two (lnA Q two i) i Q[i]], lnA Q two i ++ [(A9 Q two i).1.length + 1]) := by
 have hx : Q.getD i nd0 = Q[i] := by rw [List.getD_eq_getElem?_getD, List.getElem?_eq_getElem hi]; rfl
 simp only [A9, hx]
theorem Lu {A : List Nat} {r j : Nat} (h : j < A.length) : (A ++ [r]).getD j 0 = A.getD j 0 := by
 rw [List.getD_eq_getElem?_getD, List.getElem?_append_left h, ← List.getD_eq_getElem?_getD]
theorem Lw {A : List Nat} {r j : Nat} (h : j = A.length) : (A ++ [r]).getD j 0 = r := by
 rw [List.getD_eq_getElem?_getD, h]; simp
theorem LnI.skip (hI : LnI Q two i M lns) (hi : i < Q.length) (hs : (two && decide (Q[i].lv < 3)) = true) : LnI Q two (i + 1) M lns := by
 have hn := Gp (two := two) hi
 rw [if_pos hs] at hn
 have hlA := (Di Q two i).1
 have hat : Ak Q ((i + 1 : Nat) : Int) = Q[i] := A1 hi
 refine ⟨hI.lo, by rw [hn]; exact hI.len, fun j h1 h2 h3 => ?_⟩
 by_cases e : j = i + 1
 ·subst e
  rw [hat] at h3
  rw [Bool.and_eq_true, decide_eq_true_eq] at hs
  have := h3 hs.1; omega
 ·have hA : (lnA Q two (i + 1)).getD j 0 = (lnA Q two i).getD j 0 := by
   show (A9 Q two (i + 1)).2.getD j 0 = _
   rw [hn]; exact Lu (by show j < (A9 Q two i).2.length; omega)
  rw [hA]
  exact hI.num j h1 (by omega) h3
theorem LnI.snoc (hI : LnI Q two i M lns) (hi : i < Q.length) (hs : (two && decide (Q[i].lv < 3)) = false) {e : List Nd} {m : Nat} (hlo : Ao (M ++ e) = true) (hm : 0 < m) (hLv : Lv (M ++ e) Q[i].lv.toNat m) (hsm : sem (M ++ e) Q[i].lv.toNat m = sem Q Q[i].lv.toNat (i + 1)) :
  LnI Q two (i + 1) (M ++ e) (lns ++ [(m, Q[i].lv)]) := by
 have hn := Gp (two := two) hi
 rw [if_neg (by rw [hs]; decide)] at hn
 have hlA := (Di Q two i).1
 have hat : Ak Q ((i + 1 : Nat) : Int) = Q[i] := A1 hi
 have hlen := hI.len
 refine ⟨hlo, by rw [hn]; simp [hlen], fun j h1 h2 h3 => ?_⟩
 by_cases ej : j = i + 1
 ·subst ej
  have hA : (lnA Q two (i + 1)).getD (i + 1) 0 = (A9 Q two i).1.length + 1 := by
   show (A9 Q two (i + 1)).2.getD (i + 1) 0 = _
   rw [hn]; exact Lw hlA.symm
  rw [hA, hat, ← hlen]
  refine ⟨by omega, m, ?_, hm, hLv, hsm⟩
  simp
 ·have hA : (lnA Q two (i + 1)).getD j 0 = (lnA Q two i).getD j 0 := by
   show (A9 Q two (i + 1)).2.getD j 0 = _
   rw [hn]; exact Lu (by show j < (A9 Q two i).2.length; omega)
  rw [hA]
  obtain ⟨n1, p, n2, n3, n4, n5⟩ := hI.num j h1 (by omega) h3
  refine ⟨n1, p, ?_, n3, n4.old, by rw [CY hI.lo _ _ n4]; exact n5⟩
  have hlt := (List.getElem?_eq_some_iff.1 n2).1
  rw [List.getElem?_append_left hlt]; exact n2
theorem lnA_last (hi : i < Q.length) (hs : (two && decide (Q[i].lv < 3)) = false) : (lnA Q two (i + 1)).getD (i + 1) 0 = (A9 Q two (i + 1)).1.length := by
 have hn := Gp (two := two) hi
 rw [if_neg (by rw [hs]; decide)] at hn
 have hlA := (Di Q two i).1
 show (A9 Q two (i + 1)).2.getD (i + 1) 0 = _
 rw [hn]
 dsimp only
 rw [Lw (by show i + 1 = (A9 Q two i).2.length; omega)]
 simp
theorem LM {b law : List UInt8} {N : Int} {a0 : Nat} (hc : Dt Q) (h2 : two = true → LX Q = true) : ∀ i, i ≤ Q.length → ∀ t, b.drop a0 = Cr (A9 Q two i).1 ++ t → ((A9 Q two i).1.length : Int) ≤ N →
  ∃ M lns, (∀ K, C1 b N (K + (A9 Q two i).1.length) a0 ⟨law, [], []⟩ = C1 b N K (a0 + (Cr (A9 Q two i).1).length) ⟨law, M, lns⟩) ∧ LnI Q two i M lns
 | 0, _, t, h, hN => ⟨[], [], fun K => rfl, rfl, rfl, fun j h1 h2 => absurd h2 (by omega)⟩
 | i + 1, hi, t, h, hN => by
  have hi' : i < Q.length := hi
  have hn := Gp (two := two) hi'
  by_cases hs : (two && decide (Q[i].lv < 3)) = true
  ·have e1 : (A9 Q two (i + 1)).1 = (A9 Q two i).1 := by rw [hn, if_pos hs]
   rw [e1] at h hN ⊢
   obtain ⟨M, lns, q1, q2⟩ := LM hc h2 i (by omega) t h hN
   exact ⟨M, lns, q1, q2.skip hi' hs⟩
  ·have hs : (two && decide (Q[i].lv < 3)) = false := by simpa using hs
   have e1 : (A9 Q two (i + 1)).1 = (A9 Q two i).1 ++ [D6 Q two (lnA Q two i) i Q[i]] := by rw [hn, if_neg (by rw [hs]; decide)]
   rw [e1] at h hN ⊢
   rw [List.length_append, List.length_singleton] at hN
   rw [PW, List.append_assoc] at h
   obtain ⟨M, lns, q1, q2⟩ := LM (law := law) (N := N) hc h2 i (by omega) _ h (by omega)
   have hd := BO h
   have hlen := q2.len
   have hat : Ak Q ((i + 1 : Nat) : Int) = Q[i] := A1 hi'
   have hLv : Lv Q Q[i].lv.toNat (i + 1) := ⟨hi', .inr (by rw [hat])⟩
   rw [List.append_assoc] at hd
   have hd2 : b.drop (a0 + (Cr (A9 Q two i).1).length) = D6 Q two (lnA Q two i) i Q[i] ++ 10 :: t := by simpa using hd
   have hne : ¬ a0 + (Cr (A9 Q two i).1).length = b.length := by
    intro e
    rw [e, List.drop_length] at hd2
    have := congrArg List.length hd2
    simp only [List.length_append, List.length_nil, List.length_cons] at this; omega
   have key : ∃ e m, Kk b N (a0 + (Cr (A9 Q two i).1).length) ⟨law, M, lns⟩ = ((none, a0 + (Cr (A9 Q two i).1).length + (D6 Q two (lnA Q two i) i Q[i]).length + 1), ⟨law, M ++ e, lns ++ [(m, Q[i].lv)]⟩) ∧ Ao (M ++ e) = true ∧ 0 < m ∧ Lv (M ++ e) Q[i].lv.toNat m ∧ sem (M ++ e) Q[i].lv.toNat m = sem Q Q[i].lv.toNat (i + 1) := by
    unfold D6 at hd2 ⊢
    by_cases h3 : (two && decide (Q[i].lv = 3)) = true
    ·rw [if_pos h3] at hd2 ⊢
     rw [Bool.and_eq_true, decide_eq_true_eq] at h3
     have e3 : Q[i].lv.toNat = 3 := by rw [h3.2]; rfl
     rw [e3] at hLv ⊢
     have hnn : sem Q 3 (i + 1) ≠ .nil := fun hz => by
      have := hc.ne (i + 1) (by omega) hi
      rw [(DN hc.lo hLv).1 hz] at this; cases this
     obtain ⟨M', p1, ⟨e, he⟩, p2, p3, p4, p5⟩ := Rt (law := law) (lns := lns) (N := N) hc.lo q2.lo (two_kz (h2 h3.1) hc.lo) hLv hnn hd2 (by rw [hlen]; omega)
     subst he
     rw [h3.2]
     exact ⟨e, _, p1, p2, p3, p4, p5⟩
    ·rw [if_neg h3] at hd2 ⊢
     obtain ⟨x, p1, p2, p3, p4⟩ := node_step (law := law) (N := N) hc.lo q2 hi' (fun ht => by
      rw [ht] at hs h3
      simp at hs h3
      omega) hd2 (by rw [hlen]; omega)
     exact ⟨[x], _, p1, p2, by omega, p3, p4⟩
   obtain ⟨e, m, p1, p2, p3, p4, p5⟩ := key
   refine ⟨M ++ e, lns ++ [(m, Q[i].lv)], fun K => ?_, q2.snoc hi' hs p2 p3 p4 p5⟩
   rw [List.length_append, List.length_singleton, show K + ((A9 Q two i).1.length + 1) = K + 1 + (A9 Q two i).1.length by omega, q1]
   conv => lhs; unfold C1
   rw [if_neg hne, p1]
   dsimp only
   rw [PW, List.length_append, List.length_append, List.length_singleton]
   congr 1
   omega
theorem lines_root (hI : LnI Q two Q.length M lns) (hp : 0 < Q.length) (h3 : two = true → 3 ≤ (Ak Q (Q.length : Int)).lv) : 0 < Cx lns ∧ Lv M (Ak Q (Q.length : Int)).lv.toNat (Cx lns) ∧ sem M (Ak Q (Q.length : Int)).lv.toNat (Cx lns) = sem Q (Ak Q (Q.length : Int)).lv.toNat Q.length := by
 obtain ⟨n1, m, n2, n3, n4, n5⟩ := hI.num Q.length hp (Nat.le_refl _) h3
 obtain ⟨i, hi⟩ : ∃ i, Q.length = i + 1 := ⟨Q.length - 1, by omega⟩
 have hat : Ak Q ((i + 1 : Nat) : Int) = Q[i] := A1 (by omega)
 have hs : (two && decide (Q[i].lv < 3)) = false := by
  cases ht : two with
  | false => rfl
  | true =>
   have := h3 ht
   rw [hi, hat] at this
   simp; omega
 have hl := lnA_last (two := two) (show i < Q.length by omega) hs
 rw [← hi] at hl
 rw [hl, ← hI.len] at n1 n2
 have hr : Cx lns = m := by
  unfold Cx
  rw [List.getLast?_eq_getElem?, n2]
 rw [hr]
 exact ⟨n3, n4, n5⟩

end
end Go.Gm
namespace Go.Gm
section
variable {f : Nat → QT} {g : Nat → Int}
theorem mkN_ne (h : mkN f ≠ .nil) : mkN f = .node (f 0) (f 1) (f 2) (f 3) := by
 unfold mkN at h ⊢
 split
 ·rename_i c; rw [if_pos c] at h; exact absurd rfl h
 ·rfl
theorem mkL_ne (h : mkL g ≠ .nil) : mkL g = .leaf (g 0) (g 1) (g 2) (g 3) := by
 unfold mkL at h ⊢
 split
 ·rename_i c; rw [if_pos c] at h; exact absurd rfl h
 ·rfl
theorem PE {j : Nat} (hj : j < 4) : (mkN f).q j = f j := by
 unfold mkN
 split
 ·rename_i c
  obtain ⟨c0, c1, c2, c3⟩ := c
  match j, hj with
  | 0, _ => exact c0.symm
  | 1, _ => exact c1.symm
  | 2, _ => exact c2.symm
  | 3, _ => exact c3.symm
 ·match j, hj with
  | 0, _ => rfl
  | 1, _ => rfl
  | 2, _ => rfl
  | 3, _ => rfl
theorem mkN_s (j : Nat) : (mkN f).s j = 0 := by unfold mkN; split <;> rfl
theorem mkL_q (j : Nat) : (mkL g).q j = .nil := by unfold mkL; split <;> rfl
theorem mkL_s {j : Nat} (hj : j < 4) : (mkL g).s j = g j := by
 unfold mkL
 split
 ·rename_i c
  obtain ⟨c0, c1, c2, c3⟩ := c
  match j, hj with
  | 0, _ => exact c0.symm
  | 1, _ => exact c1.symm
  | 2, _ => exact c2.symm
  | 3, _ => exact c3.symm
 ·match j, hj with
  | 0, _ => rfl
  | 1, _ => rfl
  | 2, _ => rfl
  | 3, _ => rfl

end
def qdT (l : List Nd) (v n j : Nat) : QT := if v = 0 then mkL fun i => if i = 3 - j then kz l n j else 0 else mkN fun i => if i = 3 - j then sem l v (kq l n j) else .nil
theorem Rf (l : List Nd) {v n j i : Nat} (hi : i < 4) : (qdT l v n j).q i = if v = 0 then .nil else if i = 3 - j then sem l v (kq l n j) else .nil := by
 unfold qdT
 by_cases hv : v = 0
 ·rw [if_pos hv, if_pos hv, mkL_q]
 ·rw [if_neg hv, if_neg hv, PE hi]
theorem Re (l : List Nd) {v n j i : Nat} (hi : i < 4) : (qdT l v n j).s i = if v = 0 then (if i = 3 - j then kz l n j else 0) else 0 := by
 unfold qdT
 by_cases hv : v = 0
 ·rw [if_pos hv, if_pos hv, mkL_s hi]
 ·rw [if_neg hv, if_neg hv, mkN_s]
theorem qd_shr {l : List Nd} (hl : Ao l = true) {v n : Nat} (h : Lv l (v + 1) n) (hne : sem l (v + 1) n ≠ .nil) : mkN (qdT l v n) ≠ .nil ∧ Ej (v + 2) (mkN (qdT l v n)) = Ej (v + 1) (sem l (v + 1) n) := by
 have hg : mkN (qdT l v n) ≠ .nil := by
  intro hz
  have hq : ∀ j, j < 4 → qdT l v n j = .nil := fun j hj => by
   have := PE (f := qdT l v n) hj
   rw [hz] at this; exact this.symm
  refine hne ?_
  by_cases hv : v = 0
  ·subst hv
   rw [semL hl h]
   refine Ms fun k hk => ?_
   have := Re l (v := 0) (n := n) (j := k) (i := 3 - k) (by omega)
   rw [hq k hk, if_pos rfl, if_pos rfl] at this
   exact this.symm
  ·rw [semN hl h (by omega)]
   refine Mr fun k hk => ?_
   have := Rf l (v := v) (n := n) (j := k) (i := 3 - k) (by omega)
   rw [hq k hk, if_neg hv, if_pos rfl] at this
   exact this.symm
 refine ⟨hg, ?_⟩
 have hho : Nq (mkN (qdT l v n)) = true := by
  unfold Nq
  rw [mkN_ne hg, ← mkN_ne hg]
  have : (mkN (qdT l v n)).isNode = true := by rw [mkN_ne hg]; rfl
  rw [this, Bool.true_and, List.all_eq_true]
  intro k hk
  rw [List.mem_range] at hk
  rw [List.all_eq_true]
  intro j hj
  rw [List.mem_range] at hj
  rw [PE hk, Rf l hj, Re l hj]
  by_cases e : j = 3 - k
  ·rw [decide_eq_true e]; rfl
  ·rw [if_neg e, if_neg e]
   simp
 have hin : EQ (v + 1 + 1) (mkN (qdT l v n)) = sem l (v + 1) n := by
  unfold EQ
  rw [PE (by decide), PE (by decide), PE (by decide), PE (by decide)]
  by_cases hv : v = 0
  ·subst hv
   rw [if_pos rfl, Re l (by decide), Re l (by decide), Re l (by decide), Re l (by decide)]
   simp only [if_true, Nat.sub_self, Nat.reduceSub, Nat.sub_zero]
   have e := semL hl h
   rw [e] at hne ⊢
   exact (mkL_ne hne).symm
  ·rw [if_neg (by omega), Rf l (by decide), Rf l (by decide), Rf l (by decide), Rf l (by decide)]
   simp only [if_neg hv, if_true, Nat.sub_self, Nat.reduceSub, Nat.sub_zero]
   have e := semN hl h (by omega)
   rw [e] at hne ⊢
   exact (mkN_ne hne).symm
 show (if Nq (mkN (qdT l v n)) then Ej (v + 1) (EQ (v + 1 + 1) (mkN (qdT l v n))) else _) = _
 rw [if_pos hho, hin]
structure GrI (l : List Nd) (v k : Nat) (r : List Nd × Nd) : Prop where
 pre : ∃ e, r.1 = l ++ e
 lo : Ao r.1 = true
 lv : r.2.lv = ((v + 2 : Nat) : Int)
 kid : ∀ j, j < k → 0 ≤ r.2.kid j ∧ Lv r.1 (v + 1) (r.2.kid j).toNat ∧ sem r.1 (v + 1) (r.2.kid j).toNat = qdT l v l.length j
 off : ∀ j, k ≤ j → j < 4 → r.2.kid j = 0
theorem gr_ok {l : List Nd} {v : Nat} (hl : Ao l = true) (h0 : 0 < l.length) (h : Lv l (v + 1) l.length) (hv : v + 2 ≤ 1329) : ∀ k, k ≤ 4 → GrI l v k (Da (Ak l l.length) l k)
 | 0, _ => ⟨⟨[], by simp [Da]⟩, hl, by
   have := (h.num h0 hl).1
   show (Ak l (l.length : Int)).lv + 1 = _
   omega, fun j hj => absurd hj (by omega), fun j _ hj => Mo _ hj⟩
 | k + 1, hk => by
  obtain ⟨⟨e, he⟩, i2, i3, i4, i5⟩ := gr_ok hl h0 h hv k (by omega)
  have hlv := (h.num h0 hl).1
  have hkz : kz l l.length k = (Ak l (l.length : Int)).kid k := CT h0
  unfold Da
  by_cases hc : (Ak l (l.length : Int)).kid k = 0
  ·rw [if_pos hc]
   refine ⟨⟨e, he⟩, i2, i3, fun j hj => ?_, fun j h1 h2 => i5 j (by omega) h2⟩
   by_cases ej : j = k
   ·subst ej
    rw [i5 j (Nat.le_refl _) (by omega)]
    refine ⟨Int.le_refl _, ⟨Nat.zero_le _, .inl rfl⟩, ?_⟩
    show sem _ (v + 1) 0 = _
    rw [BM]
    unfold qdT
    have hq : kq l l.length j = 0 := by unfold kq; rw [hkz, hc]; rfl
    by_cases hv0 : v = 0
    ·rw [if_pos hv0, Ms]
     intro i hi
     rw [hkz, hc]; split <;> rfl
    ·rw [if_neg hv0, Mr]
     intro i hi
     rw [hq, BM]; split <;> rfl
   ·exact i4 j (by omega)
  ·rw [if_neg hc]
   generalize Da (Ak l (l.length : Int)) l k = r at *
   have hx : ((ndL (Ak l (l.length : Int)).lv).setKid (3 - k) ((Ak l (l.length : Int)).kid k)).lv = ((v + 1 : Nat) : Int) := by rw [Ci]; exact hlv
   have hxk : ∀ i, i < 4 → ((ndL (Ak l (l.length : Int)).lv).setKid (3 - k) ((Ak l (l.length : Int)).kid k)).kid i = if i = 3 - k then kz l l.length k else 0 := fun i hi => by
    by_cases e : i = 3 - k
    ·rw [if_pos e, e, Dg _ _ (by omega), hkz]
    ·rw [if_neg e, BK _ _ (by omega) hi e, Mo _ hi]
   generalize (ndL (Ak l (l.length : Int)).lv).setKid (3 - k) ((Ak l (l.length : Int)).kid k) = x at *
   have key : Ao (r.1 ++ [x]) = true ∧ Lv (r.1 ++ [x]) (v + 1) (r.1.length + 1) ∧ sem (r.1 ++ [x]) (v + 1) (r.1.length + 1) = qdT l v l.length k := by
    by_cases hv0 : v = 0
    ·subst hv0
     have hz : 0 ≤ kz l l.length k ∧ kz l l.length k ≤ 255 := by
      rw [hkz]
      obtain ⟨m, hm⟩ : ∃ m, l.length = m + 1 := ⟨l.length - 1, by omega⟩
      have hat : Ak l (l.length : Int) = l[m] := B9 (by omega) (by omega)
      rw [hat] at hlv ⊢
      have := (Ax hl (show m < l.length by omega)).2.2 k (by omega)
      exact ⟨this.1, this.2.1 hlv⟩
     obtain ⟨s1, s2, s3⟩ := MV i2 (x := x) hx (fun i hi => by rw [hxk i hi]; split <;> omega)
     refine ⟨s1, s2, ?_⟩
     rw [s3]
     unfold qdT
     rw [if_pos rfl]
     exact mkL_eq hxk
    ·obtain ⟨q1, q2, q3⟩ := kq_lv hl h (by omega) (show k < 4 by omega)
     have q4 : Lv r.1 v (kq l l.length k) := by rw [he]; exact q1.old
     obtain ⟨s1, s2, s3⟩ := KA i2 (v := v) (x := x) (by omega) (by omega) hx (fun i hi => by
      rw [hxk i hi]
      split
      ·exact ⟨q3, q4⟩
      ·exact ⟨Int.le_refl _, ⟨Nat.zero_le _, .inl rfl⟩⟩)
     refine ⟨s1, s2, ?_⟩
     rw [s3]
     unfold qdT
     rw [if_neg hv0]
     refine PF fun i hi => ?_
     rw [hxk i hi]
     by_cases e2 : i = 3 - k
     ·rw [if_pos e2, if_pos e2]
      show sem r.1 v (kq l l.length k) = _
      rw [he, CY hl _ _ q1]
     ·rw [if_neg e2, if_neg e2]
      exact BM _ _
   obtain ⟨s1, s2, s3⟩ := key
   refine ⟨⟨e ++ [x], by show r.1 ++ [x] = _; rw [he, List.append_assoc]⟩, s1, by rw [Ci]; exact i3, fun j hj => ?_, fun j h1 h2 => by rw [BK _ _ (by omega) h2 (by omega)]; exact i5 j (by omega) h2⟩
   show 0 ≤ (r.2.setKid k ((r.1.length + 1 : Nat) : Int)).kid j ∧ Lv (r.1 ++ [x]) (v + 1) ((r.2.setKid k ((r.1.length + 1 : Nat) : Int)).kid j).toNat ∧ sem (r.1 ++ [x]) (v + 1) ((r.2.setKid k ((r.1.length + 1 : Nat) : Int)).kid j).toNat = _
   by_cases ej : j = k
   ·subst ej
    rw [Dg _ _ (by omega), Int.toNat_natCast]
    exact ⟨by omega, s2, s3⟩
   ·rw [BK _ _ (by omega) (by omega) ej]
    obtain ⟨a, b, c⟩ := i4 j (by omega)
    exact ⟨a, b.old, by rw [CY i2 _ _ b]; exact c⟩
def K1 (l : List Nd) : Prop := ∀ x ∈ l, x.lv = 1 → ∀ k, k < 4 → x.kid k ≤ 1
theorem K1_kz {L : List Nd} (h : K1 L) (hl : Ao L = true) : ∀ n k, Lv L 1 n → k < 4 → kz L n k ≤ 1 := by
 intro n k hn hk
 rcases Nat.eq_zero_or_pos n with h0 | h0
 ·rw [h0, kz_0]; decide
 ·obtain ⟨e, _⟩ := hn.num h0 hl
  rw [CT h0]
  obtain ⟨m, rfl⟩ : ∃ m, n = m + 1 := ⟨n - 1, by omega⟩
  rw [A1 hn.1] at e ⊢
  exact h _ (List.getElem_mem hn.1) (by omega) k hk
theorem K1_two {L : List Nd} (h : LX L = true) : K1 L := by
 intro x hx h1 k hk
 have := most_le hx h1 hk
 unfold LX at h
 rw [decide_eq_true_eq] at h
 omega
theorem K1_grS {l : List Nd} (h : K1 l) {o : Nd} (ho : o ∈ l) : ∀ k, k ≤ 4 → K1 (Da o l k).1
 | 0, _ => h
 | k + 1, hk => by
  have ih := K1_grS h ho k (by omega)
  unfold Da
  split
  ·exact ih
  ·intro x hx h1 j hj
   rcases List.mem_append.1 hx with e | e
   ·exact ih x e h1 j hj
   ·rw [List.mem_singleton] at e
    subst e
    rw [Ci] at h1
    by_cases ej : j = 3 - k
    ·rw [ej, Dg _ _ (by omega)]
     exact h o ho h1 k (by omega)
    ·rw [BK _ _ (by omega) hj ej, Mo _ hj]; decide
theorem growStep_sem {l : List Nd} {v : Nat} (hl : Ao l = true) (h0 : 0 < l.length) (h : Lv l (v + 1) l.length) (hv : v + 2 ≤ 1329) (hne : sem l (v + 1) l.length ≠ .nil) (h1 : K1 l) :
  Ao (Bd l) = true ∧ 0 < (Bd l).length ∧ Lv (Bd l) (v + 2) (Bd l).length ∧ sem (Bd l) (v + 2) (Bd l).length ≠ .nil ∧ Ej (v + 2) (sem (Bd l) (v + 2) (Bd l).length) = Ej (v + 1) (sem l (v + 1) l.length) ∧ K1 (Bd l) := by
 obtain ⟨⟨e, he⟩, i2, i3, i4, i5⟩ := gr_ok hl h0 h hv 4 (Nat.le_refl _)
 have ho : Ak l (l.length : Int) ∈ l := by
  obtain ⟨m, hm⟩ : ∃ m, l.length = m + 1 := ⟨l.length - 1, by omega⟩
  have hat : Ak l (l.length : Int) = l[m] := B9 (by omega) (by omega)
  rw [hat]; exact List.getElem_mem _
 have k1 := K1_grS h1 ho 4 (Nat.le_refl _)
 unfold Bd
 generalize Da (Ak l (l.length : Int)) l 4 = r at *
 obtain ⟨s1, s2, s3⟩ := KA i2 (v := v + 1) (x := r.2) (by omega) hv i3 (fun k hk => ⟨(i4 k hk).1, (i4 k hk).2.1⟩)
 have s4 : sem (r.1 ++ [r.2]) (v + 2) (r.1.length + 1) = mkN (qdT l v l.length) := by
  rw [s3]; exact PF fun k hk => (i4 k hk).2.2
 obtain ⟨g1, g2⟩ := qd_shr hl h hne
 rw [List.length_append, List.length_singleton, s4]
 refine ⟨s1, by omega, s2, g1, g2, fun x hx hx1 k hk => ?_⟩
 rcases List.mem_append.1 hx with e | e
 ·exact k1 x e hx1 k hk
 ·rw [List.mem_singleton] at e
  rw [e, i3] at hx1; omega
theorem R0 {w : Nat} (hw : w + 1 ≤ 1329) : ∀ (d : Nat) (l : List Nd) (v : Nat), Ao l = true → 0 < l.length → Lv l (v + 1) l.length → v ≤ w → w ≤ v + d → sem l (v + 1) l.length ≠ .nil → K1 l →
  Ao (CN ((w + 1 : Nat) : Int) d l) = true ∧ Lv (CN ((w + 1 : Nat) : Int) d l) (w + 1) (CN ((w + 1 : Nat) : Int) d l).length ∧ sem (CN ((w + 1 : Nat) : Int) d l) (w + 1) (CN ((w + 1 : Nat) : Int) d l).length ≠ .nil ∧ Ej (w + 1) (sem (CN ((w + 1 : Nat) : Int) d l) (w + 1) (CN ((w + 1 : Nat) : Int) d l).length) = Ej (v + 1) (sem l (v + 1) l.length) ∧ K1 (CN ((w + 1 : Nat) : Int) d l)
 | 0, l, v, hl, h0, h, h1, h2, hne, hk => by
  have : w = v := by omega
  subst this
  exact ⟨hl, h, hne, rfl, hk⟩
 | d + 1, l, v, hl, h0, h, h1, h2, hne, hk => by
  have hlv := (h.num h0 hl).1
  unfold CN
  by_cases hc : (Ak l (l.length : Int)).lv < ((w + 1 : Nat) : Int)
  ·rw [if_pos hc]
   obtain ⟨s1, s2, s3, s4, s5, s6⟩ := growStep_sem hl h0 h (by omega) hne hk
   rw [← s5]
   exact R0 hw d (Bd l) (v + 1) s1 s2 s3 (by omega) (by omega) s4 s6
  ·rw [if_neg hc]
   have : w = v := by omega
   subst this
   exact ⟨hl, h, hne, rfl, hk⟩
theorem Qq {v w : Nat} {t u : QT} (ht : t ≠ .nil) (hu : u ≠ .nil) (h : Ej v t = Ej w u) : CU v t = CU w u := by
 unfold CU
 rw [if_neg ht, if_neg hu, h]
end Go.Gm
namespace Go.Gm
theorem canonL_lenT {L : List Nd} {n : Nat} (hL : L.length < 3518437200000) (hl : Ao L = true) (hn : n ≤ L.length) : (BR L n).length ≤ L.length + 1330 := by
 obtain ⟨s1, s2, s3⟩ := MW hl hn
 unfold BR
 generalize Cv L n = s at s1 s2 s3
 obtain ⟨M, r⟩ := s
 dsimp only at s1 s2 s3 ⊢
 obtain ⟨H', D', w', v1, v2, v3, v4, v5⟩ := Rh (L := M) .no .no 0 0 (by omega) s1 (Ak M (r : Int)).lv.toNat r ((Ak M (r : Int)).lv.toNat + 1) [] (List.replicate (M.length + 1) 0) (.sl [] .tight) [.cel 0 (flat cN (List.replicate (M.length + 1) 0))]
  s2 (.inr rfl) (Nat.lt_succ_self _) (Nat.le_refl _) (by simp) ⟨.inl ⟨rfl, rfl⟩, rfl⟩ ⟨by simp, by simp, fun j dd hj hdd => by
   have := List.mem_of_getElem? hj
   rw [List.mem_replicate] at this; omega⟩
 have := v4.le
 omega
theorem rule_run {b rule t : List UInt8} {f : Nat} (h : b.drop f = rule ++ 10 :: t) (hs : rule.all JF = true) (h40 : rule.length ≤ 40) : ∀ n k, k ≤ rule.length → rule.length - k ≤ n → Fa b f n (f + k) = f + rule.length
 | 0, k, h1, h2 => by
  have : k = rule.length := by omega
  rw [this]; rfl
 | n + 1, k, h1, h2 => by
  have hat : b[f + k]? = (rule ++ 10 :: t)[k]? := by rw [← h, List.getElem?_drop]
  by_cases hk : k < rule.length
  ·rw [List.getElem?_append_left hk, List.getElem?_eq_getElem hk] at hat
   have ho : onB b f (f + k) = true := by
    unfold onB
    rw [hat]
    dsimp only
    rw [List.all_eq_true] at hs
    rw [hs _ (List.getElem_mem hk), decide_eq_true (by omega)]; rfl
   rw [Fa, ho, if_pos rfl, Nat.add_assoc]
   exact rule_run h hs h40 n (k + 1) hk (by omega)
  ·have e : k = rule.length := by omega
   subst e
   have hat : b[f + rule.length]? = some 10 := by rw [hat]; simp
   have ho : onB b f (f + rule.length) = false := by
    unfold onB
    rw [hat]
    dsimp only
    rw [show JF 10 = false from by decide, Bool.and_false]
   rw [Fa, ho]; rfl
theorem law_line {b rule t : List UInt8} {a : Nat} (h : b.drop a = 35 :: 82 :: 32 :: (rule ++ 10 :: t)) (hr : Fb rule = true) (N : Int) (st : MSt) : Kk b N a st = ((none, a + 3 + rule.length + 1), { st with law := rule }) := by
 unfold Fb at hr
 rw [Bool.and_eq_true, decide_eq_true_eq] at hr
 obtain ⟨hs, hr1, hr2⟩ := hr
 have h1 : b.drop (a + 1) = 82 :: 32 :: (rule ++ 10 :: t) := (DJ h).2.2
 have h3 : b.drop (a + 3) = rule ++ 10 :: t := (DJ (DJ h1).2.2).2.2
 have hm : BD b (a + 1) [82, 32] [97] = (none, a + 3) := by
  have : cpN (b.drop (a + 1)) [82, 32] = 2 := by
   rw [h1]
   show (if (82 : UInt8) = 82 then (if (32 : UInt8) = 32 then cpN (rule ++ 10 :: t) [] + 1 else 0) + 1 else 0) = 2
   have : cpN (rule ++ 10 :: t) [] = 0 := by cases rule <;> rfl
   rw [this]; decide
  unfold BD GQ
  rw [this]; rfl
 have hrun := rule_run h3 hs hr2 40 0 (Nat.zero_le _) (by omega)
 rw [Nat.add_zero] at hrun
 have hru : Mc b (a + 3) [] = (none, a + 3 + rule.length) := by
  unfold Mc
  rw [hrun, if_neg (by omega)]
 have hlaw : (b.take (a + 3 + rule.length)).drop (a + 3) = rule := by
  rw [List.drop_take, h3, show a + 3 + rule.length - (a + 3) = rule.length by omega, List.take_left]
 have h10 := BO h3
 unfold Kk rlS NY
 rw [Be h, Be h1, Be h1, Be h1, if_pos (by decide), if_neg (by decide), if_neg (by decide), if_pos (by decide), hm]
 dsimp only
 rw [hru]
 dsimp only
 rw [hlaw, end_lf h10]
def Fx : List UInt8 := [91, 77, 50, 93, 32, 40, 103, 108, 105, 100, 101, 114, 41, 10]
theorem name_head (t : List UInt8) : hdS (Fx ++ t) = (none, 14) := by
 have h0 : (Fx ++ t).drop 0 = 91 :: 77 :: 50 :: 93 :: 32 :: (Fx.drop 5 ++ t) := rfl
 have hm : BD (Fx ++ t) 0 D7 [] = (none, 4) := by
  have : cpN ((Fx ++ t).drop 0) D7 = 4 := by
   rw [h0]
   show (if (91 : UInt8) = 91 then (if (77 : UInt8) = 77 then (if (50 : UInt8) = 50 then (if (93 : UInt8) = 93 then cpN (32 :: (Fx.drop 5 ++ t)) [] + 1 else 0) + 1 else 0) + 1 else 0) + 1 else 0) = 4
   have : cpN (32 :: (Fx.drop 5 ++ t)) [] = 0 := rfl
   rw [this]; decide
  unfold BD GQ
  rw [this]; rfl
 have h4 : (Fx ++ t).drop 4 = 32 :: 40 :: 103 :: 108 :: 105 :: 100 :: 101 :: 114 :: 41 :: 10 :: t := rfl
 have h13 : (Fx ++ t).drop 13 = 10 :: t := rfl
 have ha : Gi (Fx ++ t) 4 = 13 := by unfold Gi; rw [h4]; rfl
 unfold hdS
 rw [hm]
 dsimp only
 rw [ha, end_lf h13]
theorem canon_clean {l : List Nd} {n : Nat} (hl : Ao l = true) (hn : n ≤ l.length) : Dt (BR l n) := by
 have h : Lv l (Ak l (n : Int)).lv.toNat n := ⟨hn, .inr rfl⟩
 have hg := GH hl _ _ h
 rw [Eh hl h]
 by_cases ht : sem l (Ak l (n : Int)).lv.toNat n = .nil
 ·unfold CU; rw [if_pos ht]; exact .nil
 ·exact ((MJ hg).2 ht).1
theorem canon_again {l : List Nd} {n : Nat} (hl : Ao l = true) (hn : n ≤ l.length) : BR (BR l n) (BR l n).length = BR l n := by
 have h : Lv l (Ak l (n : Int)).lv.toNat n := ⟨hn, .inr rfl⟩
 have hg := GH hl _ _ h
 rw [Eh hl h]
 generalize (Ak l (n : Int)).lv.toNat = v at h hg
 generalize sem l v n = t at hg
 by_cases ht : t = .nil
 ·have : CU v t = [] := by unfold CU; rw [if_pos ht]
  rw [this]; exact Qr
 ·obtain ⟨c1, c2, c3, c4⟩ := (MJ hg).2 ht
  obtain ⟨s1, s2, s3⟩ := shrT_ok v t hg ht
  rw [Eh c1.lo c3, c4]
  refine Qq s2 ht ?_
  have hs : ∀ w u, Nq u = false → Ej w u = (w, u) := fun w u hu => by
   cases w with
   | zero => rfl
   | succ w => unfold Ej; rw [hu]; rfl
  rw [hs _ _ s3]
section
variable {Q : List Nd}
theorem tree_end {b law : List UInt8} {N : Int} {a0 : Nat} (hc : Dt Q) (hq : BR Q Q.length = Q) (h : b.drop a0 = Cr (Bj Q)) (hN : ((Bj Q).length : Int) ≤ N) :
  ∃ M lns, (∀ K, C1 b N (K + (Bj Q).length) a0 ⟨law, [], []⟩ = C1 b N K (a0 + (Cr (Bj Q)).length) ⟨law, M, lns⟩) ∧ Ao M = true ∧ Cx lns ≤ M.length ∧ BR M (Cx lns) = Q := by
 by_cases hQ : Q = []
 ·subst hQ
  have e : Bj [] = [] := by unfold Bj; simp [A9]
  rw [e]
  exact ⟨[], [], fun K => rfl, rfl, Nat.le_refl _, Qr⟩
 ·have hp : 0 < Q.length := List.length_pos_iff.2 hQ
  have hLv : Lv Q (Ak Q (Q.length : Int)).lv.toNat Q.length := ⟨Nat.le_refl _, .inr rfl⟩
  have hne : sem Q (Ak Q (Q.length : Int)).lv.toNat Q.length ≠ .nil := fun hz => by
   have := hc.ne Q.length hp (Nat.le_refl _)
   rw [(DN hc.lo hLv).1 hz] at this; cases this
  have h' : b.drop a0 = Cr (Bj Q) ++ [] := by rw [List.append_nil]; exact h
  by_cases hsm : (LX Q && decide (Q ≠ []) && decide (CX Q < 3)) = true
  ·have e : Bj Q = [Ec (Cz Q 3) (Cz Q 3).length] := by unfold Bj; rw [if_pos hsm]
   rw [e] at h' hN ⊢
   rw [Bool.and_eq_true, Bool.and_eq_true, decide_eq_true_eq, decide_eq_true_eq] at hsm
   obtain ⟨⟨h2, _⟩, h3⟩ := hsm
   have ht : CX Q = (Ak Q (Q.length : Int)).lv := rfl
   rw [ht] at h3
   obtain ⟨hn1, hn2⟩ := hLv.num hp hc.lo
   obtain ⟨v, hv⟩ : ∃ v, (Ak Q (Q.length : Int)).lv.toNat = v + 1 := ⟨(Ak Q (Q.length : Int)).lv.toNat - 1, by omega⟩
   rw [hv] at hLv hne
   obtain ⟨g1, g2, g3, g4, g5⟩ := R0 (w := 2) (by omega) 1400 Q v hc.lo hp hLv (by omega) (by omega) hne (K1_two h2)
   have eG : Cz Q 3 = CN ((2 + 1 : Nat) : Int) 1400 Q := by
    unfold Cz
    rw [if_neg (by intro hh; rcases hh with hh | hh; omega; exact hQ hh)]; rfl
   rw [← eG] at g1 g2 g3 g4 g5
   have hd : b.drop a0 = Ec (Cz Q 3) (Cz Q 3).length ++ 10 :: [] := by rw [h']; simp [Cr]
   obtain ⟨M, p1, ⟨e2, he2⟩, p2, p3, p4, p5⟩ := Rt (M := []) (law := law) (lns := []) (N := N) g1 rfl (K1_kz g5 g1) g2 g3 hd (by simp at hN ⊢; omega)
   have hne2 : ¬ a0 = b.length := by
    intro e
    rw [e, List.drop_length] at hd
    have := congrArg List.length hd
    simp only [List.length_append, List.length_nil, List.length_cons] at this; omega
   have hroot : Cx ([] ++ [(M.length, (3 : Int))]) = M.length := rfl
   refine ⟨M, [] ++ [(M.length, 3)], fun K => ?_, p2, by rw [hroot]; exact Nat.le_refl _, ?_⟩
   ·conv => lhs; rw [show K + [Ec (Cz Q 3) (Cz Q 3).length].length = K + 1 from rfl]; unfold C1
    rw [if_neg hne2, p1]
    dsimp only
    have : (Cr [Ec (Cz Q 3) (Cz Q 3).length]).length = (Ec (Cz Q 3) (Cz Q 3).length).length + 1 := by simp [Cr]
    rw [this, Nat.add_assoc]
   ·rw [hroot, Eh p2 p4, p5]
    conv => rhs; rw [← hq, Eh hc.lo hLv]
    exact Qq g3 hne g4
  ·have e : Bj Q = (A9 Q (LX Q) Q.length).1 := by unfold Bj; rw [if_neg hsm]
   rw [e] at h' hN ⊢
   have htop : LX Q = true → 3 ≤ (Ak Q (Q.length : Int)).lv := fun h2 => by
    have ht : CX Q = (Ak Q (Q.length : Int)).lv := rfl
    rw [h2, ht] at hsm
    simp [hQ] at hsm
    exact hsm
   obtain ⟨M, lns, q1, q2⟩ := LM (law := law) (N := N) hc (fun h => h) Q.length (Nat.le_refl _) [] h' hN
   obtain ⟨r1, r2, r3⟩ := lines_root q2 hp htop
   refine ⟨M, lns, q1, q2.lo, r2.1, ?_⟩
   rw [Eh q2.lo r2, r3]
   conv => rhs; rw [← hq, Eh hc.lo hLv]
theorem read_tree {rule : List UInt8} (hr : Fb rule = true) (hc : Dt Q) (hq : BR Q Q.length = Q) (hl : Q.length ≤ 50000) : Lo (G0 rule Q) 1000 100000 = ((rule, Q), 0, 0) := by
 have hT : G0 rule Q = Fx ++ (35 :: 82 :: 32 :: (rule ++ 10 :: Cr (Bj Q))) := by
  unfold G0
  rw [Pc]
  unfold DB Fx
  simp
 have hlen2 := (Nl (L := Q) (by omega) hc.lo).1
 rw [readR_eq, show R8 1000 100000 = true from by decide, if_pos rfl, allS_head, hT, name_head]
 dsimp only
 have h14 : (Fx ++ (35 :: 82 :: 32 :: (rule ++ 10 :: Cr (Bj Q)))).drop 14 = 35 :: 82 :: 32 :: (rule ++ 10 :: Cr (Bj Q)) := rfl
 have hbl : (Fx ++ (35 :: 82 :: 32 :: (rule ++ 10 :: Cr (Bj Q)))).length = 18 + rule.length + (Cr (Bj Q)).length := by
  unfold Fx
  simp only [List.length_append, List.length_cons, List.length_nil]; omega
 have hjl := Rv (Bj Q)
 generalize Fx ++ (35 :: 82 :: 32 :: (rule ++ 10 :: Cr (Bj Q))) = b at *
 have h1 := law_line h14 hr 100000 O7
 have hd : b.drop (14 + 3 + rule.length + 1) = Cr (Bj Q) := by
  have e : b.drop 14 = (35 :: 82 :: 32 :: rule ++ [10]) ++ Cr (Bj Q) := by rw [h14]; simp
  have := BO e
  simp only [List.length_append, List.length_cons, List.length_nil] at this
  rw [show 14 + 3 + rule.length + 1 = 14 + (rule.length + 1 + 1 + 1 + (0 + 1)) by omega]
  exact this
 obtain ⟨M, lns, q1, q2, q3, q4⟩ := tree_end (law := rule) (N := 100000) hc hq hd (by omega)
 obtain ⟨K, hK⟩ : ∃ K, b.length = (K + 1) + (Bj Q).length := ⟨b.length - 1 - (Bj Q).length, by omega⟩
 have hrun : C1 b 100000 (b.length + 1) 14 O7 = ((none, 14 + 3 + rule.length + 1 + (Cr (Bj Q)).length), ⟨rule, M, lns⟩) := by
  conv => lhs; unfold C1
  rw [if_neg (by omega), h1]
  dsimp only
  have e0 : ({ O7 with law := rule } : MSt) = ⟨rule, [], []⟩ := rfl
  rw [e0, hK, q1 (K + 1)]
  exact linesF_end _ _ _ _ _ (by omega)
 rw [hrun]
 have hok : O6 M (Cx lns : Int) = true := by
  unfold O6
  rw [q2, decide_eq_true (show (0 : Int) ≤ (Cx lns : Int) by omega), decide_eq_true (show (Cx lns : Int) ≤ (M.length : Int) by omega)]; rfl
 unfold finR
 dsimp only
 rw [hok, q4, decide_eq_true (show (Q.length : Int) ≤ 100000 by omega)]
 rfl

end
end Go.Gm
namespace Go.Gm
theorem tree_len {rule : List UInt8} {L : List Nd} (hr : rule.length ≤ 100) (hl : Ao L = true) (hL : L.length ≤ 2000) : (G0 rule L).length < 100000000 := by
 obtain ⟨h1, h2⟩ := Nl (L := L) (by omega) hl
 have := MQ (DB rule) (Bj L) h2 (Bj L).length (Nat.le_refl _)
 rw [List.take_of_length_le (Nat.le_refl _)] at this
 have hh : (DB rule).length = 18 + rule.length := by
  unfold DB
  simp only [List.length_append, List.length_cons, List.length_nil]; omega
 unfold G0
 omega
theorem mback_ok {rule : List UInt8} {l : List Nd} {n : Int} (H : Ab) : Sh.f3x (.str rule) (.sl (enL cNd l) .no) (.int .i64 n) H = some (.ret (.bool true), H) := by
 have hrp : rP H (.bool true) H = some (.ret (.bool true), H) := F9 rfl (by simp)
 unfold Sh.f3x
 simp only [Sl.gliderlaw19_alive_eq, Sl.gliderref06_Of_eq, Sl.gliderref11_Right_eq, Sl.gliderref14_Text_eq, Sl.gliderref11_Wide_eq, Sl.macro_Read_eq, Sl.gliderref11_Same_eq, GMb, GMc, HPa, HPc, HPd, HPe, HPz, Nat.reduceAdd, Nat.reduceLT, q19_alive, A3, Es]
 by_cases h60 : 60 < l.length
 ·have hd : decide ((l.length : Int) > 60) = true := decide_eq_true (by omega)
  simp only [GMb, GMc, HPa, HPc, HPd, HPe, HPz, Nat.reduceAdd, Nat.reduceLT, hd, hrp]
 ·have hd : decide ((l.length : Int) > 60) = false := decide_eq_false (by omega)
  by_cases h100 : 100 < rule.length
  ·have hd2 : decide ((rule.length : Int) > 100) = true := decide_eq_true (by omega)
   simp only [GMb, GMc, HPa, HPc, HPd, HPe, HPz, Nat.reduceAdd, Nat.reduceLT, hd, hd2, hrp]
  ·have hd2 : decide ((rule.length : Int) > 100) = false := decide_eq_false (by omega)
   have hof := fun K => q06_of l .no n K (by omega)
   have b1 : ∀ L : List Nd, A6 (some [(.str []), (.sl [] .tight)]) [(0, 1, .str rule), (1, 1, .agg [.sl (enL cNd L) .no])] = some (.agg [.str rule, .sl (enL cNd L) .no]) := fun _ => rfl
   cases hok : O6 l n with
   | false =>
    rw [hok] at hof
    simp only [OJ, Bool.false_eq_true, if_false] at hof
    simp only [GMb, GMc, HPa, HPc, HPd, HPe, HPz, Nat.reduceAdd, Nat.reduceLT, hd, hd2, hof, b1, show decide ((1 : Int) = 0) = false from by decide, hrp]
   | true =>
    rw [hok] at hof
    simp only [OJ, if_true] at hof
    have hok' := hok
    unfold O6 at hok'
    rw [Bool.and_eq_true, Bool.and_eq_true, decide_eq_true_eq, decide_eq_true_eq] at hok'
    obtain ⟨⟨hl, hn0⟩, hn1⟩ := hok'
    have hnn : n.toNat ≤ l.length := by omega
    have c1 := canon_clean hl hnn
    have c2 := canon_again hl hnn
    have c3 := canonL_lenT (L := l) (n := n.toNat) (by omega) hl hnn
    generalize BR l n.toNat = Q at hof c1 c2 c3
    have hright := fun K => Rg rule Q K (by omega) (by omega)
    cases hrb : Fb rule && C9 Q with
    | false =>
     rw [hrb] at hright
     simp only [LA] at hright
     simp only [GMb, GMc, HPa, HPc, HPd, HPe, HPz, Nat.reduceAdd, Nat.reduceLT, hd, hd2, hof, b1, hright, show decide ((0 : Int) = 0) = true from by decide, hrp]
    | true =>
     rw [hrb] at hright
     have htx := fun K => Pw rule Q K (by omega) (by omega)
     rw [hrb] at htx
     have hr : Fb rule = true := by rw [Bool.and_eq_true] at hrb; exact hrb.1
     have hrd := fun K => Dw (G0 rule Q) 1000 100000 K (tree_len (by omega) c1.lo (by omega))
     rw [read_tree hr c1 c2 (by omega)] at hrd
     have hsame := fun K => q11_same rule rule Q Q K (by omega)
     simp only [Mg, LA, if_true] at hright htx hrd hsame
     simp only [GMb, GMc, HPa, HPc, HPd, HPe, HPz, Nat.reduceAdd, Nat.reduceLT, hd, hd2, hof, b1, hright, htx, q11_wide, hrd, hsame, show decide ((0 : Int) = 0) = true from by decide]
end Go.Gm
