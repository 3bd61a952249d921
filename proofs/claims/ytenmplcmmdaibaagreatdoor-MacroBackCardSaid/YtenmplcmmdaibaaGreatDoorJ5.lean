/- Texts of this proof, joined. -/
import Derived.Test.YtenmplcmmdaibaaGreatDoorJ3
import Derived.Test.YtenmplcmmdaibaaGreatDoorJ4
import Derived.Lib.Bytealg
import Derived.Lib.ItoaNum
import Derived.Lib.Repeat
import Derived.Lib.Join
import Derived.Lib.TrimByte
import Derived.Laws.RangeAny
import Derived.Laws.RangeString
set_option linter.unusedVariables false
set_option linter.unusedSimpArgs false
namespace Go.Gm
def ndL (v : Int) : Nd := ⟨v, 0, 0, 0, 0⟩
def Da (o : Nd) (l : List Nd) : Nat → List Nd × Nd
 | 0 => (l, ndL (o.lv + 1))
 | k + 1 => if o.kid k = 0 then Da o l k else ((Da o l k).1 ++ [(ndL o.lv).setKid (3 - k) (o.kid k)], (Da o l k).2.setKid k (((Da o l k).1.length + 1 : Nat) : Int))
def Bd (l : List Nd) : List Nd := (Da (Ak l l.length) l 4).1 ++ [(Da (Ak l l.length) l 4).2]
def CN (level : Int) : Nat → List Nd → List Nd
 | 0, l => l
 | d + 1, l => if (Ak l l.length).lv < level then CN level d (Bd l) else l
def Cz (L : List Nd) (level : Int) : List Nd := if level > 1329 ∨ L = [] then L else CN level 1400 L
theorem Mo (v : Int) {k : Nat} (hk : k < 4) : (ndL v).kid k = 0 := by
 match k, hk with
 | 0, _ => rfl
 | 1, _ => rfl
 | 2, _ => rfl
 | 3, _ => rfl
theorem OK {L : List Nd} {x : Nd} (h1 : 1 ≤ x.lv) (h2 : x.lv ≤ 1329) (h : ∀ k, k < 4 → 0 ≤ x.kid k ∧ (x.lv = 1 → x.kid k ≤ 255) ∧ (1 < x.lv → 0 < x.kid k → x.kid k ≤ L.length ∧ ∀ y, L[(x.kid k - 1).toNat]? = some y → y.lv = x.lv - 1)) : DD (L ++ [x]) L.length = true := by
 have e : (L ++ [x])[L.length]? = some x := by simp
 unfold DD
 rw [e]
 simp only [Bool.and_eq_true, decide_eq_true_eq, List.all_eq_true, List.mem_range]
 refine ⟨⟨h1, h2⟩, fun k hk => ?_⟩
 obtain ⟨q1, q2, q3⟩ := h k hk
 simp only [BS, Bool.and_eq_true, decide_eq_true_eq]
 refine ⟨⟨q1, q2⟩, fun a b => ⟨(q3 a b).1, fun y hy => (q3 a b).2 y ?_⟩⟩
 rw [List.getElem?_append_left (by have := (q3 a b).1; omega)] at hy
 exact hy
structure GrowI (o : Nd) (l : List Nd) (k : Nat) (r : List Nd × Nd) : Prop where
 pre : ∃ e, r.1 = l ++ e ∧ e.length ≤ k
 loose : Ao r.1 = true
 lv : r.2.lv = o.lv + 1
 kids : ∀ j, j < 4 → r.2.kid j = 0 ∨ (0 < r.2.kid j ∧ r.2.kid j ≤ r.1.length ∧ ∀ y, r.1[(r.2.kid j - 1).toNat]? = some y → y.lv = o.lv)
theorem Qd {l : List Nd} (hl : Ao l = true) (h0 : 0 < l.length) : ∀ k, k ≤ 4 → GrowI (Ak l l.length) l k (Da (Ak l l.length) l k)
 | 0, _ => ⟨⟨[], by simp [Da], by simp⟩, hl, rfl, fun j hj => .inl (Mo _ hj)⟩
 | k + 1, hk => by
  have ih := Qd hl h0 k (by omega)
  have hnd : Ak l (l.length : Int) = l[l.length - 1] := B9 (by omega) (by omega)
  obtain ⟨l1, l2, l3⟩ := Ax hl (show l.length - 1 < l.length by omega)
  rw [← hnd] at l1 l2 l3
  unfold Da
  generalize Ak l (l.length : Int) = o at *
  by_cases hc : o.kid k = 0
  ·rw [if_pos hc]
   obtain ⟨⟨e, e1, e2⟩, h2, h3, h4⟩ := ih
   exact ⟨⟨e, e1, by omega⟩, h2, h3, h4⟩
  ·rw [if_neg hc]
   obtain ⟨⟨e, e1, e2⟩, h2, h3, h4⟩ := ih
   generalize Da o l k = r at *
   have hlen : r.1.length = l.length + e.length := by rw [e1]; simp
   have hlo : Ao (r.1 ++ [(ndL o.lv).setKid (3 - k) (o.kid k)]) = true := by
    refine EO h2 (OK (by rw [Ci]; exact l1) (by rw [Ci]; exact l2) fun j hj => ?_)
    rw [Ci]
    show 0 ≤ _ ∧ (o.lv = 1 → _) ∧ (1 < o.lv → _)
    by_cases hj2 : j = 3 - k
    ·rw [hj2, Dg _ _ (by omega)]
     obtain ⟨q1, q2, q3⟩ := l3 k (by omega)
     refine ⟨q1, q2, fun a b => ?_⟩
     obtain ⟨q4, q5⟩ := q3 a b
     refine ⟨by omega, fun y hy => q5 y ?_⟩
     rw [e1, List.getElem?_append_left (by omega)] at hy
     exact hy
    ·rw [BK _ _ (by omega) hj hj2, Mo _ hj]
     exact ⟨Int.le_refl _, fun _ => by omega, fun _ b => absurd b (by omega)⟩
   refine ⟨⟨e ++ [(ndL o.lv).setKid (3 - k) (o.kid k)], by rw [e1, List.append_assoc], by simp; omega⟩, hlo, by rw [Ci]; exact h3, fun j hj => ?_⟩
   by_cases hj2 : j = k
   ·subst hj2
    rw [Dg _ _ hj]
    refine .inr ⟨by omega, by simp, fun y hy => ?_⟩
    have : (((r.1.length + 1 : Nat) : Int) - 1).toNat = r.1.length := by omega
    rw [this] at hy
    simp at hy
    rw [← hy, Ci]; rfl
   ·rw [BK _ _ (by omega) hj hj2]
    rcases h4 j hj with h5 | ⟨h5, h6, h7⟩
    ·exact .inl h5
    ·refine .inr ⟨h5, by simp; omega, fun y hy => h7 y ?_⟩
     rw [List.getElem?_append_left (by omega)] at hy
     exact hy
theorem Od {l : List Nd} (hl : Ao l = true) (h0 : 0 < l.length) (hv : (Ak l l.length).lv < 1329) : Ao (Bd l) = true ∧ (∃ e, Bd l = l ++ e ∧ e.length ≤ 5) ∧ 0 < (Bd l).length ∧ (Ak (Bd l) (Bd l).length).lv = (Ak l l.length).lv + 1 := by
 have hI := Qd hl h0 4 (Nat.le_refl _)
 have hnd : Ak l (l.length : Int) = l[l.length - 1] := B9 (by omega) (by omega)
 obtain ⟨l1, l2, l3⟩ := Ax hl (show l.length - 1 < l.length by omega)
 rw [← hnd] at l1 l2 l3
 unfold Bd
 generalize Ak l (l.length : Int) = o at *
 obtain ⟨⟨e, e1, e2⟩, h2, h3, h4⟩ := hI
 generalize Da o l 4 = r at *
 refine ⟨EO h2 (OK (by rw [h3]; omega) (by rw [h3]; omega) fun j hj => ?_), ⟨e ++ [r.2], by rw [e1, List.append_assoc], by simp; omega⟩, by simp, ?_⟩
 ·rw [h3]
  rcases h4 j hj with h5 | ⟨h5, h6, h7⟩
  ·rw [h5]; exact ⟨Int.le_refl _, fun _ => by omega, fun _ b => absurd b (by omega)⟩
  ·exact ⟨by omega, fun a => by omega, fun _ _ => ⟨h6, fun y hy => by rw [h7 y hy]; omega⟩⟩
 ·have : Ak (r.1 ++ [r.2]) ((r.1 ++ [r.2]).length : Int) = r.2 := by
   rw [B9 (n := r.1.length) (by simp) (by simp)]; simp
  rw [this, h3]
theorem RQ (v : Int) : A6 (some [(.int .i64 0), (.int .i64 0), (.int .i64 0), (.int .i64 0), (.int .i64 0)]) [(0, 1, .int .i64 v)] = some (.agg (cNd (ndL v))) := by
 simp [A6, GV, DQ, ndL, cNd]
theorem grow_turn {l : List Nd} {o : Nd} {H Hd : Ab} {vo : Aa} {k p : Nat} {lev : Aa} {r : List Nd × Nd} (hk : k < 4) (hL : l.length < 549755813888) (h0 : 0 < l.length) (ho : l[l.length - 1] = o) (hpre : ∃ e, r.1 = l ++ e ∧ e.length ≤ k)
  (hp : H.length ≤ p) (fp : Hd[p]? = some (.cel 0 (cNd r.2))) (hR : RS cNd As 5 H.length r.1 vo Hd) (hlen : H.length ≤ Hd.length) :
  ∃ v' H', RS cNd As 5 H.length (if o.kid k = 0 then r else (r.1 ++ [(ndL o.lv).setKid (3 - k) (o.kid k)], r.2.setKid k ((r.1.length + 1 : Nat) : Int))).1 v' H' ∧
   H'[p]? = some (.cel 0 (cNd (if o.kid k = 0 then r else (r.1 ++ [(ndL o.lv).setKid (3 - k) (o.kid k)], r.2.setKid k ((r.1.length + 1 : Nat) : Int))).2)) ∧ (∀ i, i < H.length → H'[i]? = Hd[i]?) ∧ H.length ≤ H'.length ∧
   ∀ rec1 rec2 : LK, Sh.f23 H rec1 rec2 lev vo (.int .i64 (l.length : Int)) (.ptr p 0 0) (.int .i64 (k : Int)) Hd = rec2 [lev, v', .int .i64 (l.length : Int), .ptr p 0 0, .int .i64 ((k + 1 : Nat) : Int)] H' := by
 obtain ⟨e, e1, e2⟩ := hpre
 have hk' : (k : Int) < 4 := by omega
 have hwk := Aw (show k < 9223372036854775807 by omega)
 have hwn := Du h0 (show l.length < 9223372036854775807 by omega)
 have hrl : r.1.length = l.length + e.length := by rw [e1]; simp
 have hni : l.length - 1 < r.1.length := by omega
 have hro : r.1[l.length - 1] = o := by
  have : r.1[l.length - 1]? = some o := by rw [e1, List.getElem?_append_left (by omega), List.getElem?_eq_getElem (by omega), ho]
  rw [List.getElem?_eq_getElem hni] at this
  exact Option.some.inj this
 obtain ⟨tk, rfl⟩ := hR.sl
 by_cases hc : o.kid k = 0
 ·rw [if_pos hc]
  refine ⟨_, Hd, hR, fp, fun i hi => rfl, hlen, fun rec1 rec2 => ?_⟩
  unfold Sh.f23
  simp only [GMb, GMc, hk', hwn, Av hni, hro, Ah, CC hk, Au, Nat.zero_add, Nat.mul_one, C0 hk, hc, Az, Sh.f4g, hwk]
 ·rw [if_neg hc]
  have hR' := hR.left [Blk.cel 0 (cNd ((ndL o.lv).setKid (3 - k) (o.kid k)))]
  obtain ⟨v', H', a1, a2, a3⟩ := hR'.snoc (bytes := 40) (by simp; omega) ((ndL o.lv).setKid (3 - k) (o.kid k)) .tight (by omega) (by omega)
  obtain ⟨tk', rfl⟩ := a2.sl
  have fp2 := a3.cel p _ (BA fp)
  have hpl := (List.getElem?_eq_some_iff.1 fp2).1
  have hlen2 : H.length ≤ H'.length := by have := a3.len; simp at this; omega
  refine ⟨_, H'.set p (.cel 0 (cNd (r.2.setKid k ((r.1.length + 1 : Nat) : Int)))), a2.put fp2, by rw [List.getElem?_set_self hpl], fun i hi => ?_, by simpa using hlen2, fun rec1 rec2 => ?_⟩
  ·rw [List.getElem?_set_ne (by omega), a3.old i hi, List.getElem?_append_left (by omega)]
  ·have s1 : Al 5 (.ptr Hd.length 0 0) (.agg (cNd (ndL o.lv))) (Hd ++ [.cel 0 (cNd nd0)]) = some (Hd ++ [.cel 0 (cNd (ndL o.lv))]) := by rw [EM AD rfl, Cd]
   have s2 : Al 1 (.ptr Hd.length 0 (1 + (3 - k))) (.int .i64 (o.kid k)) (Hd ++ [.cel 0 (cNd (ndL o.lv))]) = some (Hd ++ [.cel 0 (cNd ((ndL o.lv).setKid (3 - k) (o.kid k)))]) := by rw [C6 AD (by omega), Cd]
   have s3 : Ad true 5 (.ptr Hd.length 0 0) (Hd ++ [.cel 0 (cNd ((ndL o.lv).setKid (3 - k) (o.kid k)))]) = some (.agg (cNd ((ndL o.lv).setKid (3 - k) (o.kid k)))) := DG AD
   have s4 := C6 (c := ((r.1.length + 1 : Nat) : Int)) fp2 hk
   have hw3 : IntKind.i64.wrap (3 - (k : Int)) = ((3 - k : Nat) : Int) := by rw [A0] <;> omega
   have hi3 : ∀ (id g o : Nat), Bk 4 1 (.ptr id g o) (.int .i64 ((3 - k : Nat) : Int)) = some (.ptr id g (o + (3 - k))) := fun id g o => Ex (show 3 - k < 4 by omega)
   unfold Sh.f23
   simp only [GMb, GMc, hk', hwn, Av hni, hro, Ah, Aj, CC hk, Au, Nat.zero_add, Nat.mul_one, C0 hk, Bl, hc, RQ, FW, s1, hw3, hi3, s2, s3, FU, a1, A3, List.length_append, List.length_singleton, Ex hk, s4, Az, Sh.f4g, hwk]
theorem q06_grow (L : List Nd) (level : Int) (H : Ab) (hL : L.length < 274877906944) (hl : Ao L = true) (h0 : -9223372036854775808 ≤ level) (h1 : level ≤ 9223372036854775807) :
  Sh.f24 (Lb L) (.int .i64 level) H = some (.ret (.tup [.sl (enL cNd (Cz L level)) .no, .int .i64 ((Cz L level).length : Int)]), H) := by
 unfold Sh.f24 Cz
 have e3 : (H ++ [Blk.cel 0 (CL L)])[H.length]? = some (.cel 0 (CL L)) := AD
 have hb0 : AH 5 [] = some (.sl [] .tight) := rfl
 have hR0 : RS cNd As 5 H.length [] (.sl [] .tight) (H ++ [Blk.cel 0 (CL L)]) := .inl ⟨rfl, rfl⟩
 obtain ⟨v, Hc, a1, a2, a3⟩ := hR0.app (bytes := 40) (by simp) L .no (by simp; omega) (by simp; omega)
 rw [List.nil_append] at a2
 have hold : ∀ i, i < H.length → Hc[i]? = H[i]? := fun i hi => by rw [a3.old i hi, List.getElem?_append_left hi]
 have hlc : H.length ≤ Hc.length := by have := a3.len; simp at this; omega
 obtain ⟨tk, rfl⟩ := a2.sl
 simp only [GMb, GMc, boxQ, hb0, Aj, Nat.zero_add, Eb e3, a1, A3]
 by_cases hbig : level > 1329
 ·rw [if_pos (.inl hbig)]
  simp only [hbig, GMb, GMc, FJ (BX hold)]
  simp
 ·by_cases hn : L = []
  ·rw [if_pos (.inr hn)]
   have : (L.length : Int) = 0 := by rw [hn]; rfl
   simp only [hbig, this, GMb, GMc, FJ (BX hold)]
   simp
  ·rw [if_neg (by intro h; rcases h with h | h; exact hbig h; exact hn h)]
   have hlen : 0 < L.length := List.length_pos_iff.2 hn
   have hne : ¬ (L.length : Int) = 0 := by omega
   simp only [hbig, hne, GMb, GMc]
   have loop := loop_while (G := fun rec1 vs H1 => Sh.f3o H rec1 (ag vs 0) (ag vs 1) (ag vs 2) H1) (σ := List Nd × Nat)
    (fun s vs Hd => ∃ v, vs = [.int .i64 level, v, .int .i64 (s.1.length : Int)] ∧ RS cNd As 5 H.length s.1 v Hd ∧ (∀ i, i < H.length → Hd[i]? = H[i]?) ∧ H.length ≤ Hd.length ∧ Ao s.1 = true ∧ 0 < s.1.length ∧ CN level s.2 s.1 = CN level 1400 L ∧ level ≤ (Ak s.1 s.1.length).lv + s.2 ∧ s.1.length + 5 * s.2 ≤ L.length + 7000)
    (fun s => s.2) (fun s => ¬ (Ak s.1 s.1.length).lv < level) (fun s vs Hd hI hd => ?_) (s := (L, 1400)) (vs := [.int .i64 level, .sl (enL cNd L) tk, .int .i64 (L.length : Int)]) (H := Hc)
    ⟨_, rfl, a2, hold, hlc, hl, hlen, rfl, by
     have hnd : Ak L (L.length : Int) = L[L.length - 1] := B9 (by omega) (by omega)
     have := (Ax hl (show L.length - 1 < L.length by omega)).1
     show level ≤ (Ak L (L.length : Int)).lv + (1400 : Nat)
     rw [hnd]; omega, by simp⟩ (by simp)
   ·obtain ⟨s, vs', Hd, hdone, ⟨v, rfl, gR, go, gl, glo, g0, ge, gv, gn⟩, rec, hloop⟩ := loop
    rw [hloop]
    obtain ⟨l, d⟩ := s
    dsimp only at *
    obtain ⟨tk2, rfl⟩ := gR.sl
    have hge : CN level d l = l := by
     cases d with
     | zero => rfl
     | succ d => show (if _ then _ else _) = _; rw [if_neg hdone]
    rw [← ge, hge]
    have hnd : Ak l (l.length : Int) = l[l.length - 1] := B9 (by omega) (by omega)
    have hwn := Du g0 (show l.length < 9223372036854775807 by omega)
    rw [hnd] at hdone
    unfold Sh.f3o
    simp only [GMb, GMc, hwn, Av (show l.length - 1 < l.length by omega), Ah, Au, Nat.zero_add, Bl, hdone, FJ (BX go)]
    simp
   ·obtain ⟨v, rfl, gR, go, gl, glo, g0, ge, gv, gn⟩ := hI
    obtain ⟨l, d⟩ := s
    dsimp only at *
    rw [Decidable.not_not] at hd
    have hnd : Ak l (l.length : Int) = l[l.length - 1] := B9 (by omega) (by omega)
    obtain ⟨d', rfl⟩ : ∃ d', d = d' + 1 := ⟨d - 1, by omega⟩
    obtain ⟨k1, ⟨e, k2, k3⟩, k4, k5⟩ := Od glo g0 (by omega)
    have hgf : CN level (d' + 1) l = CN level d' (Bd l) := by show (if _ then _ else _) = _; rw [if_pos hd]
    have hwn := Du g0 (show l.length < 9223372036854775807 by omega)
    have l12 := (Ax glo (show l.length - 1 < l.length by omega))
    have hwl : IntKind.i64.wrap (l[l.length - 1].lv + 1) = l[l.length - 1].lv + 1 := by rw [A0] <;> omega
    obtain ⟨tk1, rfl⟩ := gR.sl
    have s1 : Al 5 (.ptr Hd.length 0 0) (.agg (cNd (ndL (l[l.length - 1].lv + 1)))) (Hd ++ [.cel 0 (cNd nd0)]) = some (Hd ++ [.cel 0 (cNd (ndL (l[l.length - 1].lv + 1)))]) := by rw [EM AD rfl, Cd]
    have hi2 : l[l.length - 1].lv < level := by rw [← hnd]; exact hd
    have inner := Oa (ι := LK) (G := fun rec1 rec2 vs H1 => Sh.f23 H rec1 rec2 (ag vs 0) (ag vs 1) (ag vs 2) (ag vs 3) (ag vs 4) H1) (σ := Nat)
     (fun k vs H1 => ∃ v, k ≤ 4 ∧ vs = [.int .i64 level, v, .int .i64 (l.length : Int), .ptr Hd.length 0 0, .int .i64 (k : Int)] ∧ RS cNd As 5 H.length (Da l[l.length - 1] l k).1 v H1 ∧ H1[Hd.length]? = some (.cel 0 (cNd (Da l[l.length - 1] l k).2)) ∧ (∀ i, i < H.length → H1[i]? = H[i]?) ∧ H.length ≤ H1.length)
     (fun k => 4 - k) (fun k => k = 4) (fun k vs H1 hI hdk => ?_) (s := 0) (vs := [.int .i64 level, .sl (enL cNd l) tk1, .int .i64 (l.length : Int), .ptr Hd.length 0 0, .int .i64 0]) (H := Hd ++ [.cel 0 (cNd (ndL (l[l.length - 1].lv + 1)))])
     ⟨_, by omega, rfl, gR.left _, AD, fun i hi => by rw [List.getElem?_append_left (by omega)]; exact go i hi, by simp; omega⟩ (by omega)
    ·obtain ⟨k, vs', H1, rfl, ⟨v, _, rfl, fR, fp, fo, fl⟩, hrec⟩ := inner
     have hgS : Bd l = (Da l[l.length - 1] l 4).1 ++ [(Da l[l.length - 1] l 4).2] := by unfold Bd; rw [hnd]
     have hl4 : (Da l[l.length - 1] l 4).1.length ≤ l.length + 5 := by
      have := congrArg List.length (hgS.symm.trans k2)
      simp at this; omega
     obtain ⟨v2, H2, b1, b2, b3⟩ := fR.snoc (bytes := 40) fl (Da l[l.length - 1] l 4).2 .tight (by omega) (by omega)
     rw [← hgS] at b2
     obtain ⟨tk2, rfl⟩ := b2.sl
     refine ⟨(Bd l, d'), [.int .i64 level, .sl (enL cNd (Bd l)) tk2, .int .i64 ((Bd l).length : Int)], H2, by simp, ⟨_, rfl, b2, fun i hi => by rw [b3.old i hi]; exact fo i hi, by have := b3.len; omega, k1, k4, by rw [← hgf]; exact ge, by show level ≤ _ + (d' : Int); rw [k5]; omega, ?_⟩, fun rec => ?_⟩
     ·have := congrArg List.length k2
      simp at this ⊢; omega
     ·obtain ⟨rec2, h9⟩ := hrec rec
      unfold Sh.f3o
      simp only [GMb, GMc, hwn, Av (show l.length - 1 < l.length by omega), Ah, Au, Nat.zero_add, Bl, hi2, hwl, RQ, FW, s1]
      refine h9.trans ?_
      have hf : ¬ (((4 : Nat) : Int) < 4) := by decide
      unfold Sh.f23
      simp only [GMb, GMc, Az, hf, DG fp, FU, b1, A3]
    ·obtain ⟨v, hk4, rfl, fR, fp, fo, fl⟩ := hI
     have hk : k < 4 := by omega
     have hpre := (Qd glo g0 k hk4).pre
     rw [hnd] at hpre
     obtain ⟨v', H', c1, c2, c3, c4, c5⟩ := grow_turn (lev := .int .i64 level) hk (by omega) g0 rfl hpre gl fp fR fl
     refine ⟨k + 1, _, H', by omega, ⟨v', by omega, rfl, c1, c2, fun i hi => by rw [c3 i hi]; exact fo i hi, c4⟩, fun rec1 rec2 => c5 rec1 rec2⟩
end Go.Gm
namespace Go.Gm
theorem Qr : BR [] 0 = [] := by
 have := Eh (L := []) rfl (v := 0) (n := 0) ⟨Nat.le_refl _, .inl rfl⟩
 rw [this, BM]; rfl
end Go.Gm
namespace Go.Gm
section
variable {z : Int} {Q : List Nd}
end
end Go.Gm
namespace Go.Gm
def onF (L : List Nd) : Nat → Int → Nat → Nat → Bool
 | 0, _, _, _ => false
 | v + 1, n, x, y => if n = 0 then false else if v = 0 then decide (0 < (Ak L n).kid (2 * (y / 2 ^ v) + x / 2 ^ v)) else onF L v ((Ak L n).kid (2 * (y / 2 ^ v) + x / 2 ^ v)) (x % 2 ^ v) (y % 2 ^ v)
theorem div_lt2 {x u : Nat} (h : x < 2 ^ (u + 1)) : x / 2 ^ u < 2 := by
 rw [Nat.div_lt_iff_lt_mul (Nat.pow_pos (by omega))]
 rw [Nat.pow_succ] at h; omega
theorem q14_on {L : List Nd} {tk : Tok} (hL : L.length < 549755813888) (hl : Ao L = true) : ∀ (v n x y d : Nat) (H : Ab), Lv L v n → v ≤ d → v ≤ 60 → x < 2 ^ v → y < 2 ^ v →
  Sh.f9 (d + 1) (.sl (enL cNd L) tk) (.int .i64 (n : Int)) (.int .i64 (x : Int)) (.int .i64 (y : Int)) H = some (.ret (.bool (onF L v n x y)), H) := by
 intro v
 induction v with
 | zero =>
  intro n x y d H hLv _ _ _ _
  have hn : n = 0 := by
   rcases Nat.eq_zero_or_pos n with h | h
   ·exact h
   ·have := (hLv.num h hl).2; omega
  subst hn
  show Sh.f2p (Sh.f9 d) _ _ _ _ H = _
  unfold Sh.f2p
  simp only [GMb, GMc, Int.natCast_zero, onF]
 | succ u ih =>
  intro n x y d H hLv hd hv hx hy
  show Sh.f2p (Sh.f9 d) _ _ _ _ H = _
  unfold Sh.f2p
  by_cases hn : n = 0
  ·subst hn
   simp only [GMb, GMc, Int.natCast_zero, onF, if_true]
  ·have hn0 : 0 < n := by omega
   have hn' : ¬ (n : Int) = 0 := by omega
   have hnL := hLv.1
   have hni : n - 1 < L.length := by omega
   have hnd : Ak L (n : Int) = L[n - 1] := B9 (by omega) hni
   obtain ⟨hlv, _⟩ := hLv.num hn0 hl
   have hwn := Du hn0 (show n < 9223372036854775807 by omega)
   have hlv2 : L[n - 1].lv = ((u + 1 : Nat) : Int) := by rw [← hnd]; exact hlv
   obtain ⟨q, hq⟩ : ∃ q, q = 2 * (y / 2 ^ u) + x / 2 ^ u := ⟨_, rfl⟩
   have hqx := div_lt2 hx
   have hqy := div_lt2 hy
   have hq4 : q < 4 := by omega
   obtain ⟨d', rfl⟩ : ∃ d', d = d' + 1 := ⟨d - 1, by omega⟩
   have hon : onF L (u + 1) n x y = if u = 0 then decide (0 < L[n - 1].kid q) else onF L u (L[n - 1].kid q) (x % 2 ^ u) (y % 2 ^ u) := by
    show (if (n : Int) = 0 then _ else _) = _
    rw [if_neg hn', hnd, ← hq]
   rw [hon]
   simp only [hn', GMb, GMc]
   refine Cp (G := fun rec1 vs H1 => Sh.f3p H (Sh.f9 (d' + 1)) rec1 (ag vs 0) (ag vs 1) (ag vs 2) (ag vs 3) (ag vs 4) (ag vs 5) H1) u
    (fun i => [.sl (enL cNd L) tk, .int .i64 (n : Int), .int .i64 (x : Int), .int .i64 (y : Int), .int .i64 ((2 ^ i : Nat) : Int), .int .i64 ((i + 1 : Nat) : Int)]) (fun _ => H) _ (by omega) (fun rec i hi => ?_) (fun rec => ?_)
   ·have hi' : ((i + 1 : Nat) : Int) < ((u + 1 : Nat) : Int) := by omega
    have hpw : 2 ^ i ≤ 2 ^ 60 := Nat.pow_le_pow_right (by omega) (by omega)
    have hw1 : IntKind.i64.wrap (((2 ^ i : Nat) : Int) * 2) = ((2 ^ (i + 1) : Nat) : Int) := by
     rw [Nat.pow_succ]
     generalize 2 ^ i = p at *
     rw [A0] <;> omega
    have hw2 := Aw (show i + 1 < 9223372036854775807 by omega)
    unfold Sh.f3p
    simp only [GMb, GMc, Az, hwn, Av hni, Ah, Au, Nat.zero_add, Bl, hlv2, hi', hw1, hw2]
   ·have hp0 : ((2 ^ u : Nat) : Int) ≠ 0 := by have : 0 < 2 ^ u := Nat.pow_pos (by omega); omega
    have hd1 : ∀ a : Nat, ((a : Int).tdiv ((2 ^ u : Nat) : Int)) = ((a / 2 ^ u : Nat) : Int) := fun a => rfl
    have hd2 : ∀ a : Nat, ((a : Int).tmod ((2 ^ u : Nat) : Int)) = ((a % 2 ^ u : Nat) : Int) := fun a => rfl
    have hwy : IntKind.i64.wrap ((y / 2 ^ u : Nat) : Int) = ((y / 2 ^ u : Nat) : Int) := CJ (by omega)
    have hwx : IntKind.i64.wrap ((x / 2 ^ u : Nat) : Int) = ((x / 2 ^ u : Nat) : Int) := CJ (by omega)
    have hwm : IntKind.i64.wrap (2 * ((y / 2 ^ u : Nat) : Int)) = 2 * ((y / 2 ^ u : Nat) : Int) := by rw [A0] <;> omega
    have hwq : IntKind.i64.wrap (2 * ((y / 2 ^ u : Nat) : Int) + ((x / 2 ^ u : Nat) : Int)) = (q : Int) := by rw [A0] <;> omega
    obtain ⟨l1, l2, l3⟩ := Ax hl hni
    obtain ⟨q1, q2, q3⟩ := l3 q hq4
    unfold Sh.f3p
    simp only [GMb, GMc, Az, hwn, Av hni, Ah, Au, Nat.zero_add, Bl, hlv2, Int.lt_irrefl, KR hp0, Ij hp0, hd1, hd2, hwy, hwx, hwm, hwq, CC hq4, Nat.mul_one, C0 hq4]
    by_cases hu : u = 0
    ·have : ((u + 1 : Nat) : Int) = 1 := by omega
     rw [if_pos hu]
     simp only [this, GMb, GMc, gt_iff_lt]
    ·have : ¬ ((u + 1 : Nat) : Int) = 1 := by omega
     rw [if_neg hu]
     have h1 : 1 < (Ak L n).lv := by rw [hlv]; omega
     obtain ⟨e1, e2, e3⟩ := hLv.kid hl hn0 h1 hq4
     rw [hnd] at e1 e3
     obtain ⟨m, hm⟩ := Int.eq_ofNat_of_zero_le e3
     rw [hm] at e1 ⊢
     rw [Int.toNat_natCast] at e1
     have hrec := fun H => ih m (x % 2 ^ u) (y % 2 ^ u) d' H e1 (by omega) (by omega) (Nat.mod_lt _ (Nat.pow_pos (by omega))) (Nat.mod_lt _ (Nat.pow_pos (by omega)))
     simp only [this, GMb, GMc, hrec]
def Cq (on : Nat → Nat → Bool) (y : Nat) (k : Nat) : List UInt8 := (List.range k).map fun x => if on x y then 42 else 46
def AP (on : Nat → Nat → Bool) (y : Nat) : Nat → Nat
 | 0 => 0
 | k + 1 => if on k y then k + 1 else AP on y k
def AC (on : Nat → Nat → Bool) : Nat → List UInt8 × Nat
 | 0 => ([], 0)
 | y + 1 => ((AC on y).1 ++ (Cq on y 8).take (AP on y 8) ++ [36], if 0 < AP on y 8 then ((AC on y).1 ++ (Cq on y 8).take (AP on y 8) ++ [36]).length else (AC on y).2)
def Ec (L : List Nd) (n : Nat) : List UInt8 := (AC (onF L 3 n) 8).1.take (AC (onF L 3 n) 8).2
theorem Ed (on : Nat → Nat → Bool) (y k : Nat) : (Cq on y k).length = k := by simp [Cq]
theorem Mz (on : Nat → Nat → Bool) (y k : Nat) : Cq on y (k + 1) = Cq on y k ++ [if on k y then 42 else 46] := by simp [Cq, List.range_succ]
theorem Lq (on : Nat → Nat → Bool) (y k : Nat) : AP on y (k + 1) = if on k y then k + 1 else AP on y k := rfl
theorem Ff (on : Nat → Nat → Bool) (y : Nat) : ∀ k, AP on y k ≤ k
 | 0 => Nat.le_refl _
 | k + 1 => by
  have := Ff on y k
  unfold AP
  split <;> omega
theorem Fg (on : Nat → Nat → Bool) : ∀ y, (AC on y).1.length ≤ y * 9 ∧ (AC on y).2 ≤ (AC on y).1.length
 | 0 => ⟨by simp [AC], by simp [AC]⟩
 | y + 1 => by
  have ih := Fg on y
  have h1 := Ff on y 8
  have h2 := Ed on y 8
  simp only [AC, List.length_append, List.length_singleton, List.length_take]
  refine ⟨by omega, ?_⟩
  split <;> omega
theorem Ru (L : List Nd) (n : Nat) : (Ec L n).length ≤ 72 := by
 have := Fg (onF L 3 n) 8
 unfold Ec
 rw [List.length_take]; omega
theorem q14_leaf {L : List Nd} (tk : Tok) (n : Nat) (H : Ab) (hL : L.length < 549755813888) (hl : Ao L = true) (hn : Lv L 3 n) :
  Sh.f12 (.sl (enL cNd L) tk) (.int .i64 (n : Int)) H = some (.ret (.str (Ec L n)), H) := by
 unfold Sh.f12 Ec
 obtain ⟨F, hF⟩ := fuel_succ 100 (by omega)
 have hon : ∀ (x y : Nat) (H : Ab), x < 8 → y < 8 → Sh.f9 AM (.sl (enL cNd L) tk) (.int .i64 (n : Int)) (.int .i64 (x : Int)) (.int .i64 (y : Int)) H = some (.ret (.bool (onF L 3 n x y)), H) := by
  intro x y H hx hy
  rw [hF, show F + 100 = (F + 99) + 1 from rfl]
  exact q14_on hL hl 3 n x y (F + 99) H hn (by omega) (by omega) hx hy
 generalize onF L 3 n = on at *
 refine Cp (G := fun rec1 vs H1 => Sh.f3s H rec1 (ag vs 0) (ag vs 1) (ag vs 2) (ag vs 3) (ag vs 4) H1) 8
  (fun y => [.sl (enL cNd L) tk, .int .i64 (n : Int), .str (AC on y).1, .int .i64 ((AC on y).2 : Int), .int .i64 (y : Int)]) (fun _ => H) _ (by decide) (fun rec y hy => ?_) (fun rec => ?_)
 ·have hy' : (y : Int) < 8 := by omega
  have hwy := Aw (show y < 9223372036854775807 by omega)
  have hacc := Fg on y
  have hul := Ff on y 8
  have hrl := Ed on y 8
  unfold Sh.f3s
  simp only [AB, Az, CW, Ds, FX, G9, Bs, AQ, hy', decide_true, AO, AS]
  refine Cp (G := fun rec3 vs H1 => Sh.f3r H (fun vs H => Sh.f3q H rec (ag vs 0) (ag vs 1) (ag vs 2) (ag vs 3) (ag vs 4) H) rec3 (ag vs 0) (ag vs 1) (ag vs 2) (ag vs 3) (ag vs 4) (ag vs 5) (ag vs 6) (ag vs 7) H1) 8
   (fun x => [.sl (enL cNd L) tk, .int .i64 (n : Int), .str (AC on y).1, .int .i64 ((AC on y).2 : Int), .int .i64 (y : Int), .str (Cq on y x), .int .i64 (AP on y x : Int), .int .i64 (x : Int)]) (fun _ => H) _ (by decide) (fun rec3 x hx => ?_) (fun rec3 => ?_)
  ·have hx' : (x : Int) < 8 := by omega
   have hwx := Aw (show x < 9223372036854775807 by omega)
   have hrx := Ed on y x
   have hon1 := fun H => hon x y H hx hy
   rw [Mz, Lq]
   unfold Sh.f3r
   cases ho : on x y with
   | true =>
    rw [ho] at hon1
    simp only [GMb, GMc, Az, hx', hon1, if_true]
    rw [B5 (by rw [hrx]; simp; omega)]
    simp only [GMb, GMc, Es, List.length_append, List.length_singleton, hrx, Az, Sh.f4h, hwx]
   | false =>
    rw [ho] at hon1
    simp only [GMb, GMc, Az, hx', hon1]
    rw [B5 (by rw [hrx]; simp; omega)]
    simp only [GMb, GMc, Az, Sh.f4h, hwx]
  ·have hf : ¬ (((8 : Nat) : Int) < 8) := by decide
   have htk : (Cq on y 8).length = 8 := hrl
   unfold Sh.f3r
   simp only [AB, Az, CW, Ds, FX, G9, Ll, Bs, AQ, hf, decide_false, AL, Hr (show AP on y 8 ≤ (Cq on y 8).length by omega)]
   rw [B5 (by simp; omega)]
   simp only [Bs]
   rw [B5 (by simp; omega)]
   simp only [Bs, Db]
   by_cases h0 : 0 < AP on y 8
   ·have h0' : (AP on y 8 : Int) > 0 := by omega
    simp only [h0', GMb, GMc, Es, Az, Sh.f3q, hwy, AC, h0]
   ·have h0' : ¬ (AP on y 8 : Int) > 0 := by omega
    simp only [h0', GMb, GMc, Es, Az, Sh.f3q, hwy, AC, h0]
 ·have hf : ¬ (((8 : Nat) : Int) < 8) := by decide
  have hacc := Fg on 8
  unfold Sh.f3s
  simp only [GMb, GMc, Az, hf, Hr hacc.2]
theorem i64_sb {n : Int} (h0 : -9223372036854775808 ≤ n) (h1 : n ≤ 9223372036854775807) : SB 44 n := by
 unfold SB
 have : (4294967296 : Nat) ^ 2 ≤ 4294967296 ^ 44 := pow_le32 (by omega)
 have h2 : n.natAbs < 18446744073709551616 := by omega
 rw [show (4294967296 : Nat) ^ 2 = 18446744073709551616 from rfl] at this
 omega
theorem q14_number (n : Int) (H : Ab) (h0 : -9223372036854775808 ≤ n) (h1 : n ≤ 9223372036854775807) : Sh.fu (.int .i64 n) H = some (.ret (.str (LR n)), H) := by
 unfold Sh.fu
 have hof := fun H => q02_of n H h0 h1
 have htx := fun H => q03_text n H (sb_dec (i64_sb h0 h1)).1
 simp only [GMb, GMc, hof, htx]
end Go.Gm
namespace Go.Gm
def Ep (at' : List Nat) (x : Nd) : Nat → List UInt8
 | 0 => LR x.lv
 | k + 1 => Ep at' x k ++ [32] ++ LR (if 1 < x.lv then ((at'.getD (x.kid k).toNat 0 : Nat) : Int) else x.kid k)
def D6 (L : List Nd) (two : Bool) (at' : List Nat) (i : Nat) (x : Nd) : List UInt8 := if two && decide (x.lv = 3) then Ec L (i + 1) else Ep at' x 4
def A9 (L : List Nd) (two : Bool) : Nat → List (List UInt8) × List Nat
 | 0 => ([], [0])
 | i + 1 =>
  let r := A9 L two i
  let x := L.getD i nd0
  if two && decide (x.lv < 3) then (r.1, r.2 ++ [0]) else (r.1 ++ [D6 L two r.2 i x], r.2 ++ [r.1.length + 1])
def LX (L : List Nd) : Bool := decide (Iu L ≤ 1)
def Bj (L : List Nd) : List (List UInt8) :=
 if LX L && decide (L ≠ []) && decide (CX L < 3) then [Ec (Cz L 3) (Cz L 3).length] else (A9 L (LX L) L.length).1
theorem Di (L : List Nd) (two : Bool) : ∀ i, (A9 L two i).2.length = i + 1 ∧ (A9 L two i).1.length ≤ i ∧ ∀ a ∈ (A9 L two i).2, a ≤ i
 | 0 => by simp [A9]
 | i + 1 => by
  obtain ⟨h1, h2, h3⟩ := Di L two i
  simp only [A9]
  split
  ·refine ⟨by simp; omega, by simp only; omega, fun a ha => ?_⟩
   rcases List.mem_append.1 ha with h | h
   ·have := h3 a h; omega
   ·rw [List.mem_singleton] at h; omega
  ·refine ⟨by simp; omega, by simp; omega, fun a ha => ?_⟩
   rcases List.mem_append.1 ha with h | h
   ·have := h3 a h; omega
   ·rw [List.mem_singleton] at h; omega
theorem Nm {L : List Nd} {at' : List Nat} {x : Nd} (h1 : 1 ≤ x.lv) (h2 : x.lv ≤ 1329) (hk : ∀ k, k < 4 → 0 ≤ x.kid k ∧ (x.lv = 1 → x.kid k ≤ 255)) (ha : ∀ a ∈ at', a ≤ 549755813888) : ∀ k, k ≤ 4 → (Ep at' x k).length ≤ 5000 + k * 5001
 | 0, _ => by have := (sb_dec (i64_sb (n := x.lv) (by omega) (by omega))).2; simp [Ep]; omega
 | k + 1, hk4 => by
  have ih := Nm (L := L) h1 h2 hk ha k (by omega)
  have hv : ∀ n : Int, 0 ≤ n → n ≤ 549755813888 → (LR n).length ≤ 5000 := fun n a b => (sb_dec (i64_sb (n := n) (by omega) (by omega))).2
  have hd : (LR (if 1 < x.lv then ((at'.getD (x.kid k).toNat 0 : Nat) : Int) else x.kid k)).length ≤ 5000 := by
   obtain ⟨q1, q2⟩ := hk k (by omega)
   split
   ·refine hv _ (by omega) ?_
    rw [List.getD_eq_getElem?_getD]
    cases hq : at'[(x.kid k).toNat]? with
    | none => simp
    | some a => have := ha a (List.mem_of_getElem? hq); simp; omega
   ·exact hv _ q1 (by have := q2 (by omega); omega)
  simp only [Ep, List.length_append, List.length_singleton]
  omega
theorem line_ok {L : List Nd} (hL : L.length < 274877906944) (hl : Ao L = true) (two : Bool) {i : Nat} (hi : i < L.length) : (D6 L two (A9 L two i).2 i L[i]).length ≤ 30000 := by
 obtain ⟨l1, l2, l3⟩ := Ax hl hi
 obtain ⟨h1, h2, h3⟩ := Di L two i
 unfold D6
 split
 ·have := Ru L (i + 1); omega
 ·have := Nm (L := L) (at' := (A9 L two i).2) l1 l2 (fun k hk => ⟨(l3 k hk).1, (l3 k hk).2.1⟩) (fun a ha => by have := h3 a ha; omega) 4 (Nat.le_refl _)
  omega
theorem Ob {L : List Nd} (hL : L.length < 274877906944) (hl : Ao L = true) (two : Bool) : ∀ i, i ≤ L.length → ∀ s ∈ (A9 L two i).1, s.length ≤ 30000
 | 0, _, s, hs => by cases hs
 | i + 1, hi, s, hs => by
  have ih := Ob hL hl two i (by omega)
  have hx : L.getD i nd0 = L[i] := by rw [List.getD_eq_getElem?_getD, List.getElem?_eq_getElem (show i < L.length by omega)]; rfl
  have hk := line_ok hL hl two (show i < L.length by omega)
  simp only [A9, hx] at hs
  split at hs
  ·exact ih s hs
  ·rcases List.mem_append.1 hs with h | h
   ·exact ih s h
   ·rw [List.mem_singleton] at h; rw [h]; exact hk
theorem Nl {L : List Nd} (hL : L.length < 274877906944) (hl : Ao L = true) : (Bj L).length ≤ L.length + 1 ∧ ∀ s ∈ Bj L, s.length ≤ 30000 := by
 unfold Bj
 split
 ·refine ⟨by simp, fun s hs => ?_⟩
  rw [List.mem_singleton] at hs
  rw [hs]
  have := Ru (Cz L 3) (Cz L 3).length; omega
 ·exact ⟨by have := (Di L (LX L) L.length).2.1; omega, Ob hL hl _ _ (Nat.le_refl _)⟩
theorem lines_turn {L : List Nd} {H : Ab} {two : Bool} {i : Nat} (hL : L.length < 274877906944) (hl : Ao L = true) (hi : i < L.length) (p : Nat) (out : List (List UInt8)) (vo : Aa) (Hd : Ab) (tk : Tok) (A : List Nat) (hA : A.length = i + 1) (hAb : ∀ a ∈ A, a ≤ i) (hout : out.length ≤ i)
  (hp : H.length ≤ p) (fp : Hd[p]? = some (.cel 0 (flat cN (A ++ List.replicate (L.length - i) 0)))) (hR : RS cS K8 1 H.length out vo Hd) (hlen : H.length ≤ Hd.length)
  (hs : (D6 L two A i L[i]).length ≤ 30000) :
  ∃ v' H', RS cS K8 1 H.length (if two && decide (L[i].lv < 3) then (out, A ++ [0]) else (out ++ [D6 L two A i L[i]], A ++ [out.length + 1])).1 v' H' ∧
   H'[p]? = some (.cel 0 (flat cN ((if two && decide (L[i].lv < 3) then (out, A ++ [0]) else (out ++ [D6 L two A i L[i]], A ++ [out.length + 1])).2 ++ List.replicate (L.length - (i + 1)) 0))) ∧ (∀ j, j < H.length → H'[j]? = Hd[j]?) ∧ H.length ≤ H'.length ∧
   ∀ rec : LK, Sh.f13 H rec (.sl (enL cNd L) tk) (.bool two) vo (.ms p 0 0 (L.length + 1) (L.length + 1) 1 true) (.int .i64 (i : Int)) Hd = rec [.sl (enL cNd L) tk, .bool two, v', .ms p 0 0 (L.length + 1) (L.length + 1) 1 true, .int .i64 ((i + 1 : Nat) : Int)] H' := by
 have hi' : (i : Int) < (L.length : Int) := by omega
 have hwi := Aw (show i < 9223372036854775807 by omega)
 obtain ⟨l1, l2, l3⟩ := Ax hl hi
 obtain ⟨tk0, rfl⟩ := hR.sl
 have hj2 : ∀ (rec : LK) (v : Aa) (H1 : Ab), Sh.f2a H rec (.sl (enL cNd L) tk) (.bool two) v (.ms p 0 0 (L.length + 1) (L.length + 1) 1 true) (.int .i64 (i : Int)) H1 = rec [.sl (enL cNd L) tk, .bool two, v, .ms p 0 0 (L.length + 1) (L.length + 1) 1 true, .int .i64 ((i + 1 : Nat) : Int)] H1 := by
  intro rec v H1
  unfold Sh.f2a
  simp only [GMb, GMc, hwi]
 have hrep : ∀ a : Nat, (A ++ List.replicate (L.length - i) 0).set (i + 1) a = A ++ [a] ++ List.replicate (L.length - (i + 1)) 0 := by
  intro a
  rw [List.set_append_right _ _ (by omega), hA, Nat.sub_self, show L.length - i = (L.length - (i + 1)) + 1 from by omega, List.replicate_succ, List.set_cons_zero]
  simp
 have hrep0 : A ++ [0] ++ List.replicate (L.length - (i + 1)) 0 = A ++ List.replicate (L.length - i) 0 := by
  rw [show L.length - i = (L.length - (i + 1)) + 1 from by omega, List.replicate_succ]; simp
 have hEl : (A ++ List.replicate (L.length - i) 0).length = L.length + 1 := by simp [hA]; omega
 have hgc : A4 Hd p 0 = some (flat cN (A ++ List.replicate (L.length - i) 0)) := AY fp
 have hline : ∀ j2 : LK, Sh.f2r H j2 (.sl (enL cNd L) tk) (.bool two) (.sl (enL cS out) tk0) (.ms p 0 0 (L.length + 1) (L.length + 1) 1 true) (.int .i64 (i : Int)) (.str (D6 L two A i L[i])) Hd = Sh.f2r H j2 (.sl (enL cNd L) tk) (.bool two) (.sl (enL cS out) tk0) (.ms p 0 0 (L.length + 1) (L.length + 1) 1 true) (.int .i64 (i : Int)) (.str (D6 L two A i L[i])) Hd := fun _ => rfl
 by_cases hsk : (two && decide (L[i].lv < 3)) = true
 ·rw [if_pos hsk]
  simp only [Bool.and_eq_true, decide_eq_true_eq] at hsk
  refine ⟨_, Hd, hR, by rw [hrep0]; exact fp, fun j hj => rfl, hlen, fun rec => ?_⟩
  obtain ⟨h2, h3⟩ := hsk
  subst h2
  unfold Sh.f13
  simp only [GMb, GMc, A3, hi', Av hi, Ah, Au, Nat.zero_add, Bl, h3, Az, hj2]
 ·rw [if_neg hsk]
  obtain ⟨v', H', a1, a2, a3⟩ := hR.snoc (bytes := 16) hlen (D6 L two A i L[i]) .tight (by omega) (by omega)
  obtain ⟨tk', rfl⟩ := a2.sl
  have fp2 := a3.get fp
  have hpl := (List.getElem?_eq_some_iff.1 fp2).1
  have hlen2 : H.length ≤ H'.length := by have := a3.len; omega
  have hidx := Ew (sz := 1) (id := p) (n := L.length + 1) (K := .i64) (g := 0) (off := 0) (cap := L.length + 1) (ex := true) (i := i + 1) (by omega)
  simp only [Nat.zero_add, Nat.mul_one] at hidx
  have hst := FG (f := cN) (sz := 1) (a := out.length + 1) (v := .int .i64 ((out.length + 1 : Nat) : Int)) (AY fp2) (i := i + 1) (by rw [hEl]; omega) rfl
  simp only [Nat.mul_one, hrep, CK fp2] at hst
  have hj5 : ∀ (rec : LK), Sh.f2r H (fun vs H1 => Sh.f2a H rec (ag vs 0) (ag vs 1) (ag vs 2) (ag vs 3) (ag vs 4) H1) (.sl (enL cNd L) tk) (.bool two) (.sl (enL cS out) tk0) (.ms p 0 0 (L.length + 1) (L.length + 1) 1 true) (.int .i64 (i : Int)) (.str (D6 L two A i L[i])) Hd
    = rec [.sl (enL cNd L) tk, .bool two, .sl (enL cS (out ++ [D6 L two A i L[i]])) tk', .ms p 0 0 (L.length + 1) (L.length + 1) 1 true, .int .i64 ((i + 1 : Nat) : Int)] (H'.set p (.cel 0 (flat cN (A ++ [out.length + 1] ++ List.replicate (L.length - (i + 1)) 0)))) := by
   intro rec
   unfold Sh.f2r
   simp only [GMb, GMc, build_S, a1, hwi, A3, List.length_append, List.length_singleton, hidx, hst, Az, hj2]
  refine ⟨_, H'.set p (.cel 0 (flat cN (A ++ [out.length + 1] ++ List.replicate (L.length - (i + 1)) 0))), a2.put fp2, by rw [List.getElem?_set_self hpl], fun j hj => by rw [List.getElem?_set_ne (by omega)]; exact a3.old j hj, by simpa using hlen2, fun rec => ?_⟩
  have hnum : ∀ (n : Int) (H : Ab), 0 ≤ n → n ≤ 549755813888 → Sh.fu (.int .i64 n) H = some (.ret (.str (LR n)), H) := fun n H a b => q14_number n H (by omega) (by omega)
  have hnlv := fun H => hnum L[i].lv H (by omega) (by omega)
  have kids : Ap (fun rec3 vs H1 => Sh.f2s H (fun vs H1 => Sh.f2a H rec (ag vs 0) (ag vs 1) (ag vs 2) (ag vs 3) (ag vs 4) H1) rec3 (ag vs 0) (ag vs 1) (ag vs 2) (ag vs 3) (ag vs 4) (ag vs 5) (ag vs 6) H1) AM [.sl (enL cNd L) tk, .bool two, .sl (enL cS out) tk0, .ms p 0 0 (L.length + 1) (L.length + 1) 1 true, .int .i64 (i : Int), .str (LR L[i].lv), .int .i64 0] Hd
    = rec [.sl (enL cNd L) tk, .bool two, .sl (enL cS (out ++ [D6 L two A i L[i]])) tk', .ms p 0 0 (L.length + 1) (L.length + 1) 1 true, .int .i64 ((i + 1 : Nat) : Int)] (H'.set p (.cel 0 (flat cN (A ++ [out.length + 1] ++ List.replicate (L.length - (i + 1)) 0)))) := by
   refine Cp (G := fun rec3 vs H1 => Sh.f2s H (fun vs H1 => Sh.f2a H rec (ag vs 0) (ag vs 1) (ag vs 2) (ag vs 3) (ag vs 4) H1) rec3 (ag vs 0) (ag vs 1) (ag vs 2) (ag vs 3) (ag vs 4) (ag vs 5) (ag vs 6) H1) 4
    (fun k => [.sl (enL cNd L) tk, .bool two, .sl (enL cS out) tk0, .ms p 0 0 (L.length + 1) (L.length + 1) 1 true, .int .i64 (i : Int), .str (Ep A L[i] k), .int .i64 (k : Int)]) (fun _ => Hd) _ (by decide) (fun rec3 k hk => ?_) (fun rec3 => ?_)
   ·have hk' : (k : Int) < 4 := by omega
    have hwk := Aw (show k < 9223372036854775807 by omega)
    obtain ⟨q1, q2, q3⟩ := l3 k hk
    have hll := Nm (L := L) (at' := A) (x := L[i]) l1 l2 (fun k hk => ⟨(l3 k hk).1, (l3 k hk).2.1⟩) (fun a ha => by have := hAb a ha; omega) k (by omega)
    have hj4 : ∀ c : Int, 0 ≤ c → c ≤ 549755813888 → c = (if 1 < L[i].lv then ((A.getD (L[i].kid k).toNat 0 : Nat) : Int) else L[i].kid k) → Sh.f4o H rec3 (.sl (enL cNd L) tk) (.bool two) (.sl (enL cS out) tk0) (.ms p 0 0 (L.length + 1) (L.length + 1) 1 true) (.int .i64 (i : Int)) (.str (Ep A L[i] k)) (.int .i64 (k : Int)) (.int .i64 c) Hd
      = rec3 [.sl (enL cNd L) tk, .bool two, .sl (enL cS out) tk0, .ms p 0 0 (L.length + 1) (L.length + 1) 1 true, .int .i64 (i : Int), .str (Ep A L[i] (k + 1)), .int .i64 ((k + 1 : Nat) : Int)] Hd := by
     intro c hc0 hc1 hc
     have hn := fun H => hnum c H hc0 hc1
     have hdl := (sb_dec (i64_sb (n := c) (by omega) (by omega))).2
     rw [show Ep A L[i] (k + 1) = Ep A L[i] k ++ [32] ++ LR c by rw [hc]; rfl]
     unfold Sh.f4o
     rw [B5 (by simp; omega)]
     simp only [GMb, GMc, hn]
     rw [B5 (by simp; omega)]
     simp only [GMb, GMc, hwk]
    unfold Sh.f2s
    simp only [GMb, GMc, Az, hk', Av hi, Ah, CC hk, Au, Nat.zero_add, Nat.mul_one, C0 hk, Bl]
    by_cases h1 : 1 < L[i].lv
    ·have hle : (L[i].kid k).toNat ≤ i := by
      by_cases h0 : 0 < L[i].kid k
      ·have := (q3 h1 h0).1; omega
      ·omega
     obtain ⟨c, hc⟩ := Int.eq_ofNat_of_zero_le q1
     rw [hc] at hle hj4 ⊢
     rw [Int.toNat_natCast] at hle hj4
     have hidc := Ew (sz := 1) (id := p) (n := L.length + 1) (K := .i64) (g := 0) (off := 0) (cap := L.length + 1) (ex := true) (i := c) (by omega)
     simp only [Nat.zero_add, Nat.mul_one] at hidc
     have hldc := HJ (f := cN) hgc (i := c) (by rw [hEl]; omega)
     have hgd : (A ++ List.replicate (L.length - i) 0)[c]'(by rw [hEl]; omega) = A.getD c 0 := by
      rw [List.getElem_append_left (by omega), List.getD_eq_getElem?_getD, List.getElem?_eq_getElem (by omega)]; rfl
     rw [hgd] at hldc
     have hab : A.getD c 0 ≤ i := by
      rw [List.getD_eq_getElem?_getD, List.getElem?_eq_getElem (by omega)]
      exact hAb _ (List.getElem_mem _)
     simp only [h1, GMb, GMc, gt_iff_lt, hidc, hldc, List.getElem?_cons_zero, Az]
     exact hj4 _ (by omega) (by omega) (by rw [if_pos h1])
    ·simp only [h1, GMb, GMc, gt_iff_lt, Az]
     exact hj4 _ q1 (by have := q2 (by omega); omega) (by rw [if_neg h1])
   ·have hf : ¬ (((4 : Nat) : Int) < 4) := by decide
    unfold Sh.f2s
    simp only [AB, Az, CW, Ds, FX, G9, Ll, Bs, AQ, hf, decide_false, AL, AS]
    by_cases h3 : (two && decide (L[i].lv = 3)) = true
    ·have hlS : D6 L two A i L[i] = Ec L (i + 1) := by unfold D6; rw [if_pos h3]
     simp only [Bool.and_eq_true, decide_eq_true_eq] at h3
     obtain ⟨h4, h5⟩ := h3
     have hLv : Lv L 3 (i + 1) := ⟨by omega, .inr (by rw [A1 hi, h5]; rfl)⟩
     have hlf := fun H => q14_leaf (L := L) tk (i + 1) H (by omega) hl hLv
     rw [hlS] at hj5 ⊢
     rw [h4] at hj5 ⊢
     simp only [GMb, GMc, Av hi, Ah, Au, Nat.zero_add, Bl, h5, hwi, hlf, Az]
     have h9 := hj5 rec
     exact h9
    ·have hlS : D6 L two A i L[i] = Ep A L[i] 4 := by unfold D6; rw [if_neg h3]
     rw [hlS] at hj5 ⊢
     have h9 := hj5 rec
     cases two with
     | false =>
      simp only [GMb, GMc, Az]
      exact h9
     | true =>
      have h5 : ¬ L[i].lv = 3 := by simpa using h3
      simp only [GMb, GMc, Av hi, Ah, Au, Nat.zero_add, Bl, h5, Az]
      exact h9
  unfold Sh.f13
  cases two with
  | false =>
   simp only [GMb, GMc, Az, A3, hi', Av hi, Ah, Au, Nat.zero_add, Bl, hnlv]
   exact kids
  | true =>
   have h5 : ¬ L[i].lv < 3 := by simpa using hsk
   simp only [GMb, GMc, Az, A3, hi', Av hi, Ah, Au, Nat.zero_add, Bl, h5, hnlv]
   exact kids
end Go.Gm
namespace Go.Gm
theorem growF_ok {level : Int} (hlev : level ≤ 1329) : ∀ (d : Nat) (l : List Nd), Ao l = true → 0 < l.length → (Ak l l.length).lv ≤ level → level ≤ (Ak l l.length).lv + d →
  Ao (CN level d l) = true ∧ 0 < (CN level d l).length ∧ (Ak (CN level d l) (CN level d l).length).lv = level ∧ (CN level d l).length ≤ l.length + 5 * d
 | 0, l, hl, h0, h1, h2 => ⟨hl, h0, by show (Ak l l.length).lv = level; omega, Nat.le_refl _⟩
 | d + 1, l, hl, h0, h1, h2 => by
  show Ao (if _ then _ else _) = true ∧ 0 < (if _ then _ else _ : List Nd).length ∧ _
  by_cases h : (Ak l l.length).lv < level
  ·have e : CN level (d + 1) l = CN level d (Bd l) := by show (if _ then _ else _) = _; rw [if_pos h]
   obtain ⟨k1, ⟨x, k2, k3⟩, k4, k5⟩ := Od hl h0 (by omega)
   have ih := growF_ok hlev d (Bd l) k1 k4 (by omega) (by rw [k5]; omega)
   rw [e]
   rw [if_pos h]
   refine ⟨ih.1, ih.2.1, ih.2.2.1, ?_⟩
   have h4 := ih.2.2.2
   have h5 := congrArg List.length k2
   simp at h5; omega
  ·have e : CN level (d + 1) l = l := by show (if _ then _ else _) = _; rw [if_neg h]
   rw [e]
   rw [if_neg h]
   exact ⟨hl, h0, by omega, by omega⟩
theorem grow_lv {L : List Nd} (hl : Ao L = true) (hn : L ≠ []) {level : Int} (h1 : CX L ≤ level) (h2 : level ≤ 1329) : Ao (Cz L level) = true ∧ (Cz L level).length ≤ L.length + 7000 ∧ Lv (Cz L level) level.toNat (Cz L level).length := by
 have hlen : 0 < L.length := List.length_pos_iff.2 hn
 have h3 := (Ax hl (show L.length - 1 < L.length by omega)).1
 have hnd : Ak L (L.length : Int) = L[L.length - 1] := B9 (by omega) (by omega)
 unfold Cz
 rw [if_neg (by intro h; rcases h with h | h; omega; exact hn h)]
 obtain ⟨k1, k2, k3, k4⟩ := growF_ok h2 1400 L hl hlen h1 (by rw [hnd]; omega)
 exact ⟨k1, by omega, Nat.le_refl _, .inr (by rw [k3])⟩
theorem q14_lines (L : List Nd) (H : Ab) (hL : L.length < 274877900000) (hl : Ao L = true) : Sh.f2b (Lb L) H = some (.ret (.sl (enL cS (Bj L)) .no), H) := by
 unfold Sh.f2b
 have e3 : (H ++ [Blk.cel 0 (CL L)])[H.length]? = some (.cel 0 (CL L)) := AD
 have hmo := fun H => q08_mostZ (L := L) H (by omega) hl
 have hlv : ∀ H, Sh.fr (Lb L) H = some (.ret (.int .i64 (if L = [] then 0 else CX L)), H) := fun H => q05_level L .no H (by omega)
 have key : ∀ two, two = LX L → (Bj L = (A9 L two L.length).1) → ((AG (.sl (enL cNd L) .no)).bind fun x28 => (Af .none .add x28 (.int .i64 1)).bind fun x29 => A2 (Fd 1 8 (some [(.int .i64 0)]) x29 x29 (H ++ [Blk.cel 0 (CL L)])) fun x30 H31 =>
   Ap (fun rec1 vs H1 => Sh.f13 H rec1 (ag vs 0) (ag vs 1) (ag vs 2) (ag vs 3) (ag vs 4) H1) AM [.sl (enL cNd L) .no, .bool two, (.sl [] .tight), x30, (.int .i64 0)] H31) = some (.ret (.sl (enL cS (Bj L)) .no), H) := by
  intro two htwo hlL
  have hmk := FA (f := cN) (a := 0) (n := L.length + 1) (bytes := 8) (H := H ++ [Blk.cel 0 (CL L)]) (by omega) (by omega)
  rw [show cN 0 = [Aa.int .i64 0] from rfl] at hmk
  simp only [A3, Bs, BE, Aw (show L.length < 9223372036854775807 by omega), hmk, BP]
  have hb : H.length ≤ (H ++ [Blk.cel 0 (CL L)]).length := by simp
  have fp : (H ++ [Blk.cel 0 (CL L)] ++ [Blk.cel 0 (flat cN (List.replicate (L.length + 1) 0))])[(H ++ [Blk.cel 0 (CL L)]).length]? = some (.cel 0 (flat cN ((A9 L two 0).2 ++ List.replicate (L.length - 0) 0))) := by
   rw [AD]; simp [A9, List.replicate_succ]
  have hold : ∀ i, i < H.length → (H ++ [Blk.cel 0 (CL L)] ++ [Blk.cel 0 (flat cN (List.replicate (L.length + 1) 0))])[i]? = H[i]? := fun i hi => by rw [List.append_assoc, List.getElem?_append_left hi]
  have hlen : H.length ≤ (H ++ [Blk.cel 0 (CL L)] ++ [Blk.cel 0 (flat cN (List.replicate (L.length + 1) 0))]).length := by simp
  generalize (H ++ [Blk.cel 0 (CL L)]).length = p at *
  generalize H ++ [Blk.cel 0 (CL L)] ++ [Blk.cel 0 (flat cN (List.replicate (L.length + 1) 0))] = Hc at *
  have loop := Mx (G := fun rec1 vs H1 => Sh.f13 H rec1 (ag vs 0) (ag vs 1) (ag vs 2) (ag vs 3) (ag vs 4) H1) L.length
   (fun i vs Hd => ∃ v, vs = [.sl (enL cNd L) .no, .bool two, v, .ms p 0 0 (L.length + 1) (L.length + 1) 1 true, .int .i64 (i : Int)] ∧ RS cS K8 1 H.length (A9 L two i).1 v Hd ∧ Hd[p]? = some (.cel 0 (flat cN ((A9 L two i).2 ++ List.replicate (L.length - i) 0))) ∧ (∀ j, j < H.length → Hd[j]? = H[j]?) ∧ H.length ≤ Hd.length)
   (by omega) (fun i vs Hd hi hI => ?_) (vs := [.sl (enL cNd L) .no, .bool two, .sl [] .tight, .ms p 0 0 (L.length + 1) (L.length + 1) 1 true, .int .i64 0]) (H := Hc) ⟨_, rfl, .inl ⟨rfl, rfl⟩, fp, hold, hlen⟩
  ·obtain ⟨vs', Hd, ⟨v, rfl, gR, _, go, gl⟩, rec, hloop⟩ := loop
   rw [hloop]
   obtain ⟨tk2, rfl⟩ := gR.sl
   unfold Sh.f13
   simp only [GMb, GMc, Az, A3, Int.lt_irrefl, FJ (BX go), KM, Option.map_some]
   rw [hlL]
  ·obtain ⟨v, rfl, gR, gp, go, gl⟩ := hI
   obtain ⟨n1, n2, n3⟩ := Di L two i
   obtain ⟨v', H', a1, a2, a3, a4, a5⟩ := lines_turn (two := two) (by omega) hl hi p (A9 L two i).1 v Hd .no (A9 L two i).2 n1 n3 n2 hb gp gR gl (line_ok (by omega) hl two hi)
   have hx : L.getD i nd0 = L[i] := by rw [List.getD_eq_getElem?_getD, List.getElem?_eq_getElem hi]; rfl
   have hnext : A9 L two (i + 1) = if two && decide (L[i].lv < 3) then ((A9 L two i).1, (A9 L two i).2 ++ [0]) else ((A9 L two i).1 ++ [D6 L two (A9 L two i).2 i L[i]], (A9 L two i).2 ++ [(A9 L two i).1.length + 1]) := by
    simp only [A9, hx]
   refine ⟨_, H', ⟨v', rfl, by rw [hnext]; exact a1, by rw [hnext]; exact a2, fun j hj => by rw [a3 j hj]; exact go j hj, a4⟩, fun rec => a5 rec⟩
 have htw : decide (Iu L ≤ 1) = LX L := rfl
 simp only [GMb, GMc, boxQ, Aj, Nat.zero_add, Eb e3, OL e3, hmo, htw]
 cases htq : LX L with
 | false =>
  simp only [GMb, GMc]
  exact key false htq.symm (by unfold Bj; rw [htq]; rfl)
 | true =>
  simp only [GMb, GMc, OL e3, hlv]
  by_cases hn : L = []
  ·have hk := key true htq.symm (by unfold Bj; rw [htq, hn]; simp)
   rw [if_pos hn]
   have : ¬ ((0 : Int) > 0) := by decide
   simp only [this, GMb, GMc]
   exact hk
  ·rw [if_neg hn]
   have hlen : 0 < L.length := List.length_pos_iff.2 hn
   have h3 := (Ax hl (show L.length - 1 < L.length by omega)).1
   have hnd : Ak L (L.length : Int) = L[L.length - 1] := B9 (by omega) (by omega)
   have hpos : CX L > 0 := by unfold CX; rw [hnd]; omega
   simp only [hpos, GMb, GMc, OL e3, hlv, if_neg hn]
   by_cases h33 : CX L < 3
   ·obtain ⟨g1, g2, g3⟩ := grow_lv hl hn (level := 3) (by omega) (by omega)
    have hgr := fun H => q06_grow L 3 H (by omega) hl (by omega) (by omega)
    have hlf := fun H => q14_leaf (L := Cz L 3) .no (Cz L 3).length H (by omega) g1 g3
    have hlL : Bj L = [Ec (Cz L 3) (Cz L 3).length] := by unfold Bj; rw [htq]; simp [hn, h33]
    simp only [h33, GMb, GMc, OL e3, hgr, D0, ER, hlf, build_S, DO, KM, Option.map_some]
    rw [hlL]
   ·have hk := key true htq.symm (by unfold Bj; rw [htq]; simp [h33])
    simp only [h33, GMb, GMc]
    exact hk
def Ir (s0 : List UInt8) (l : List (List UInt8)) : List UInt8 := l.foldl (fun s t => s ++ t ++ [10]) s0
def DB (rule : List UInt8) : List UInt8 := [91, 77, 50, 93, 32, 40, 103, 108, 105, 100, 101, 114, 41, 10, 35, 82, 32] ++ rule ++ [10]
def G0 (rule : List UInt8) (L : List Nd) : List UInt8 := Ir (DB rule) (Bj L)
theorem Pb (s0 : List UInt8) (l : List (List UInt8)) {i : Nat} (hi : i < l.length) : Ir s0 (l.take (i + 1)) = Ir s0 (l.take i) ++ l[i] ++ [10] := by
 unfold Ir
 rw [List.take_succ_eq_append_getElem hi, List.foldl_append]; rfl
theorem MQ (s0 : List UInt8) (l : List (List UInt8)) (h : ∀ t ∈ l, t.length ≤ 30000) : ∀ i, i ≤ l.length → (Ir s0 (l.take i)).length ≤ s0.length + i * 30001
 | 0, _ => by simp [Ir]
 | i + 1, hi => by
  have ih := MQ s0 l h i (by omega)
  have h2 := h l[i] (List.getElem_mem hi)
  rw [Pb s0 l hi]
  simp only [List.length_append, List.length_singleton]
  omega
theorem Pw (rule : List UInt8) (L : List Nd) (H : Ab) (hr : rule.length < 35184372088832) (hL : L.length < 274877900000) :
  Sh.fj (pat rule L) H = some (.ret (if Fb rule && C9 L then .tup [.str (G0 rule L), .int .i64 0] else .tup [.str [], .int .i64 1]), H) := by
 unfold Sh.fj
 have e3 : (H ++ [Blk.cel 0 (P1 rule L)])[H.length]? = some (.cel 0 (P1 rule L)) := AD
 have hck := fun H => Rg rule L H (by omega) (by omega)
 simp only [GMb, GMc, boxPat, load_patP e3, hck]
 cases hrb : Fb rule && C9 L with
 | false =>
  simp only [GMb, GMc]
  exact rP_plain (v := .tup [.str [], .int .i64 1]) rfl
 | true =>
  have hl : Ao L = true := by
   rw [Bool.and_eq_true] at hrb
   exact qright_loose hrb.2
  have hli := fun H => q14_lines L H hL hl
  simp only [GMb, GMc, Aj, Nat.zero_add, Nat.add_zero, PN e3]
  rw [B5 (by simp; omega)]
  simp only [GMb, GMc]
  rw [B5 (by simp; omega)]
  simp only [GMb, GMc, PO e3, hli]
  obtain ⟨k1, k2⟩ := Nl (by omega) hl
  unfold G0
  have hhl : (DB rule).length ≤ 35184372088932 := by unfold DB; simp; omega
  generalize Bj L = l at *
  refine Cp (G := fun rec1 vs H1 => Sh.f3t H rec1 (ag vs 0) (ag vs 1) (ag vs 2) H1) l.length (fun i => [.str (Ir (DB rule) (l.take i)), .sl (enL cS l) .no, .int .i64 (i : Int)]) (fun _ => H ++ [Blk.cel 0 (P1 rule L)]) _ (by omega) (fun rec i hi => ?_) (fun rec => ?_)
  ·have hi' : (i : Int) < (l.length : Int) := by omega
   have hws := Aw (show i < 9223372036854775807 by omega)
   have hb := MQ (DB rule) l k2 i (by omega)
   have h2 := k2 l[i] (List.getElem_mem hi)
   rw [Pb _ l hi]
   unfold Sh.f3t
   simp only [GMb, GMc, A3, hi', Av hi, Au, List.getElem?_cons_zero]
   rw [B5 (by omega)]
   simp only [GMb, GMc]
   rw [B5 (by simp; omega)]
   simp only [GMb, GMc, hws]
  ·unfold Sh.f3t
   rw [List.take_of_length_le (Nat.le_refl _)]
   simp only [GMb, GMc, A3, Int.lt_irrefl]
   exact rP_plain (v := .tup [.str (Ir (DB rule) l), .int .i64 0]) rfl
end Go.Gm
namespace Go.Gm
def mkN (f : Nat → QT) : QT := if f 0 = .nil ∧ f 1 = .nil ∧ f 2 = .nil ∧ f 3 = .nil then .nil else .node (f 0) (f 1) (f 2) (f 3)
def mkL (f : Nat → Int) : QT := if f 0 = 0 ∧ f 1 = 0 ∧ f 2 = 0 ∧ f 3 = 0 then .nil else .leaf (f 0) (f 1) (f 2) (f 3)
theorem PF {f g : Nat → QT} (h : ∀ k, k < 4 → f k = g k) : mkN f = mkN g := by
 unfold mkN; rw [h 0 (by decide), h 1 (by decide), h 2 (by decide), h 3 (by decide)]
theorem mkL_eq {f g : Nat → Int} (h : ∀ k, k < 4 → f k = g k) : mkL f = mkL g := by
 unfold mkL; rw [h 0 (by decide), h 1 (by decide), h 2 (by decide), h 3 (by decide)]
theorem Mr {f : Nat → QT} (h : ∀ k, k < 4 → f k = .nil) : mkN f = .nil := by
 unfold mkN; rw [if_pos ⟨h 0 (by decide), h 1 (by decide), h 2 (by decide), h 3 (by decide)⟩]
theorem Ms {f : Nat → Int} (h : ∀ k, k < 4 → f k = 0) : mkL f = .nil := by
 unfold mkL; rw [if_pos ⟨h 0 (by decide), h 1 (by decide), h 2 (by decide), h 3 (by decide)⟩]
def kz (L : List Nd) (n k : Nat) : Int := if n = 0 then 0 else (Ak L (n : Int)).kid k
def kq (L : List Nd) (n k : Nat) : Nat := (kz L n k).toNat
theorem kz_0 (L : List Nd) (k : Nat) : kz L 0 k = 0 := rfl
theorem CT {L : List Nd} {n k : Nat} (h : 0 < n) : kz L n k = (Ak L (n : Int)).kid k := by unfold kz; rw [if_neg (by omega)]
section
variable {L : List Nd}
theorem kq_lv (hl : Ao L = true) {v n k : Nat} (h : Lv L (v + 1) n) (hv : 1 ≤ v) (hk : k < 4) : Lv L v (kq L n k) ∧ (0 < n → kq L n k < n) ∧ 0 ≤ kz L n k := by
 rcases Nat.eq_zero_or_pos n with h0 | h0
 ·subst h0
  exact ⟨⟨Nat.zero_le _, .inl rfl⟩, fun h => absurd h (by omega), Int.le_refl _⟩
 ·obtain ⟨e, _⟩ := h.num h0 hl
  unfold kq
  rw [CT h0]
  obtain ⟨a, b, c⟩ := Lv.kid hl h0 h (by omega) hk
  exact ⟨a, fun _ => b, c⟩
theorem semN (hl : Ao L = true) {v n : Nat} (h : Lv L (v + 1) n) (hv : 1 ≤ v) : sem L (v + 1) n = mkN fun k => sem L v (kq L n k) := by
 rcases Nat.eq_zero_or_pos n with h0 | h0
 ·subst h0
  exact (BM _ _).trans (Mr (f := fun k => sem L v (kq L 0 k)) fun k hk => BM _ _).symm
 ·obtain ⟨hlv, _⟩ := h.num h0 hl
  have h1 : 1 < (Ak L (n : Int)).lv := by omega
  have hkq : ∀ k, kq L n k = ((Ak L (n : Int)).kid k).toNat := fun k => by unfold kq; rw [CT h0]
  have hn := h.1
  have key : (Aq L).getD n true = true ↔ ∀ k, k < 4 → sem L v (kq L n k) = .nil := by
   rw [KN hl h0 hn]
   simp only [List.all_eq_true, List.mem_range, Bool.or_eq_true, decide_eq_true_eq, Bool.and_eq_true]
   constructor
   ·intro hh k hk
    obtain ⟨a, b, c⟩ := Lv.kid hl h0 h h1 hk
    rw [hkq]
    rcases hh k hk with e | e
    ·rw [e]; exact BM _ _
    ·exact (DN hl a).2 e.2
   ·intro hh k hk
    obtain ⟨a, b, c⟩ := Lv.kid hl h0 h h1 hk
    have := hh k hk
    rw [hkq] at this
    exact .inr ⟨h1, (DN hl a).1 this⟩
  by_cases he : (Aq L).getD n true = true
  ·rw [(DN hl h).2 he, Mr (key.1 he)]
  ·have hne : ¬ (sem L v (kq L n 0) = .nil ∧ sem L v (kq L n 1) = .nil ∧ sem L v (kq L n 2) = .nil ∧ sem L v (kq L n 3) = .nil) := by
    intro ⟨a, b, c, d⟩
    refine he (key.2 fun k hk => ?_)
    match k, hk with
    | 0, _ => exact a
    | 1, _ => exact b
    | 2, _ => exact c
    | 3, _ => exact d
   unfold mkN
   dsimp only
   rw [if_neg hne, hkq, hkq, hkq, hkq]
   show G1 _ _ (v + 1) n = _
   conv => lhs; unfold G1
   rw [if_neg he, if_pos h1]
   rfl
theorem semL (hl : Ao L = true) {n : Nat} (h : Lv L 1 n) : sem L 1 n = mkL fun k => kz L n k := by
 rcases Nat.eq_zero_or_pos n with h0 | h0
 ·subst h0
  exact (BM _ _).trans (Ms (f := fun k => kz L 0 k) fun k hk => rfl).symm
 ·obtain ⟨hlv, _⟩ := h.num h0 hl
  have h1 : ¬ 1 < (Ak L (n : Int)).lv := by omega
  have hn := h.1
  have key : (Aq L).getD n true = true ↔ ∀ k, k < 4 → kz L n k = 0 := by
   rw [KN hl h0 hn]
   simp only [List.all_eq_true, List.mem_range, Bool.or_eq_true, decide_eq_true_eq, Bool.and_eq_true, h1, false_and, or_false, CT h0]
  by_cases he : (Aq L).getD n true = true
  ·rw [(DN hl h).2 he, Ms (key.1 he)]
  ·have hne : ¬ (kz L n 0 = 0 ∧ kz L n 1 = 0 ∧ kz L n 2 = 0 ∧ kz L n 3 = 0) := by
    intro ⟨a, b, c, d⟩
    refine he (key.2 fun k hk => ?_)
    match k, hk with
    | 0, _ => exact a
    | 1, _ => exact b
    | 2, _ => exact c
    | 3, _ => exact d
   unfold mkL
   dsimp only
   rw [if_neg hne, CT h0, CT h0, CT h0, CT h0]
   show G1 _ _ (0 + 1) n = _
   conv => lhs; unfold G1
   rw [if_neg he, if_neg h1]
   rfl

end
theorem OI (l : List Nd) (x : Nd) : Ak (l ++ [x]) ((l.length + 1 : Nat) : Int) = x := by rw [A1 (by simp)]; simp
theorem KA {l : List Nd} (hl : Ao l = true) {x : Nd} {v : Nat} (hv : 1 ≤ v) (hv2 : v + 1 ≤ 1329) (hx : x.lv = ((v + 1 : Nat) : Int)) (hk : ∀ k, k < 4 → 0 ≤ x.kid k ∧ Lv l v (x.kid k).toNat) :
  Ao (l ++ [x]) = true ∧ Lv (l ++ [x]) (v + 1) (l.length + 1) ∧ sem (l ++ [x]) (v + 1) (l.length + 1) = mkN fun k => sem l v (x.kid k).toNat := by
 have hlo : Ao (l ++ [x]) = true := by
  refine EO hl (OK (by omega) (by omega) fun k hkk => ?_)
  obtain ⟨q1, q2⟩ := hk k hkk
  refine ⟨q1, fun a => by omega, fun _ hp => ⟨by have := q2.1; omega, fun y hy => ?_⟩⟩
  have hpn : 0 < (x.kid k).toNat := by omega
  obtain ⟨e, _⟩ := q2.num hpn hl
  have hlt : (x.kid k - 1).toNat < l.length := by have := q2.1; omega
  have he : Ak l (((x.kid k).toNat : Nat) : Int) = l[(x.kid k - 1).toNat] := B9 (by omega) hlt
  rw [List.getElem?_eq_getElem hlt] at hy
  injection hy with hy
  rw [← hy, ← he, e]; omega
 have hLv : Lv (l ++ [x]) (v + 1) (l.length + 1) := ⟨by simp, .inr (by rw [OI, hx]; omega)⟩
 refine ⟨hlo, hLv, ?_⟩
 rw [semN hlo hLv hv]
 refine PF fun k hkk => ?_
 have : kq (l ++ [x]) (l.length + 1) k = (x.kid k).toNat := by unfold kq; rw [CT (by omega), OI]
 rw [this]
 exact CY hl v _ (hk k hkk).2
theorem MV {l : List Nd} (hl : Ao l = true) {x : Nd} (hx : x.lv = 1) (hk : ∀ k, k < 4 → 0 ≤ x.kid k ∧ x.kid k ≤ 255) :
  Ao (l ++ [x]) = true ∧ Lv (l ++ [x]) 1 (l.length + 1) ∧ sem (l ++ [x]) 1 (l.length + 1) = mkL fun k => x.kid k := by
 have hlo : Ao (l ++ [x]) = true := by
  refine EO hl (OK (by omega) (by omega) fun k hkk => ?_)
  obtain ⟨q1, q2⟩ := hk k hkk
  exact ⟨q1, fun _ => q2, fun a => by omega⟩
 have hLv : Lv (l ++ [x]) 1 (l.length + 1) := ⟨by simp, .inr (by rw [OI, hx]; rfl)⟩
 refine ⟨hlo, hLv, ?_⟩
 rw [semL hlo hLv]
 refine mkL_eq fun k hkk => ?_
 rw [CT (by omega), OI]
end Go.Gm
namespace Go.Gm
def Lx (H : Ab) (p : Nat) (b : List UInt8) (a : Nat) (r : List Aa) : Prop := H[p]? = some (.cel 0 (.str b :: .int .i64 (a : Int) :: r))
theorem QB {H : Ab} {p a : Nat} {b : List UInt8} {r : List Aa} (h : Lx H p b a r) : Ad false 1 (.ptr p 0 0) H = some (.str b) := by
 simp only [Ad, AY h, Option.bind]; rfl
theorem Dy {H : Ab} {p a : Nat} {b : List UInt8} {r : List Aa} (h : Lx H p b a r) : Ad false 1 (.ptr p 0 1) H = some (.int .i64 (a : Int)) := by
 simp only [Ad, AY h, Option.bind]; rfl
theorem GN {H : Ab} {p a : Nat} {b : List UInt8} {r : List Aa} (h : Lx H p b a r) : Sh.f2 (.ptr p 0 0) H = some (.ret (.bool (decide (a = b.length))), H) := by
 unfold Sh.f2
 simp only [GMb, GMc, Ae, Aj, Nat.zero_add, QB h, Dy h]
 by_cases e : a = b.length
 ·have e' : (a : Int) = (b.length : Int) := by omega
  simp [e, e']
 ·have e' : ¬ (a : Int) = (b.length : Int) := by omega
  simp [e, e']
def Qc (e : Int) (s : List UInt8) : Aa := .iface EX (.agg [.int .i64 e, .str s])
theorem KE {H : Ab} {p a : Nat} {b : List UInt8} {r : List Aa} (h : Lx H p b a r) (s : List UInt8) : Sh.f1 (.ptr p 0 0) (.str s) H = some (.pan (if a = b.length then Qc 3 s else Qc 2 []), H) := by
 unfold Sh.f1
 simp only [GMb, GMc, GN h]
 by_cases e : a = b.length
 ·simp only [e, GMb, GMc]
  rfl
 ·simp only [e, GMb, GMc]
  rfl
theorem lx_limit {H : Ab} (x : Aa) : Sh.f6 x H = some (.pan (Qc 4 []), H) := rfl
theorem Ry (l : List UInt8) (c : UInt8) : (0 ≤ Lib.indexByte l c) ↔ c ∈ l := by
 induction l with
 | nil => simp [Lib.indexByte]
 | cons b l ih =>
  have hge := Lib.indexByte_ge l c
  unfold Lib.indexByte
  by_cases h : b = c
  ·simp [h]
  ·have h' : ¬ c = b := fun e => h e.symm
   by_cases h2 : Lib.indexByte l c = -1
   ·have : ¬ c ∈ l := fun hm => by have := ih.2 hm; omega
    simp [h, h', h2, this]
   ·have h3 : 0 ≤ Lib.indexByte l c := by omega
    have h4 := ih.1 h3
    simp [h, h2, h4]
    omega
def A8 (b : List UInt8) (a : Nat) (some : List UInt8) : Bool := match b[a]? with
 | none => false
 | Option.some c => some.contains c
theorem BW {H : Ab} {p a : Nat} {b : List UInt8} {r : List Aa} (h : Lx H p b a r) (ha : a ≤ b.length) (s : List UInt8) : Sh.f0 (.ptr p 0 0) (.str s) H = some (.ret (.bool (A8 b a s)), H) := by
 unfold Sh.f0 A8
 simp only [GMb, GMc, GN h]
 by_cases e : a = b.length
 ·simp only [e, GMb, GMc]
  rw [List.getElem?_eq_none (Nat.le_refl _)]
 ·have hlt : a < b.length := by omega
  rw [List.getElem?_eq_getElem hlt]
  have hi : Sh.f16 (.str s) (.int .u8 (b[a].toNat : Int)) H = some (.ret (.int .i64 (Lib.indexByte s b[a])), H) := by
   unfold Sh.f16; simp
  simp only [e, GMb, GMc, Ae, Aj, Nat.zero_add, QB h, Dy h, Gv hlt, hi]
  by_cases hm : b[a] ∈ s
  ·have := (Ry s b[a]).2 hm
   simp [hm, this]
  ·have : ¬ 0 ≤ Lib.indexByte s b[a] := fun hc => hm ((Ry s b[a]).1 hc)
   simp [hm, this]
theorem lx_step {H : Ab} {p a : Nat} {b : List UInt8} {r : List Aa} (h : Lx H p b a r) (n : Int) : Al 1 (.ptr p 0 1) (.int .i64 n) H = some (H.set p (.cel 0 (.str b :: .int .i64 n :: r))) := by
 simp only [Al, AY h, Option.bind, Aa.acells]
 simp [CK h, DQ]
theorem lx_set {H : Ab} {p a a' : Nat} {b : List UInt8} {r : List Aa} (h : Lx H p b a r) : Lx (H.set p (.cel 0 (.str b :: .int .i64 (a' : Int) :: r))) p b a' r := by
 have : p < H.length := by
  rcases Nat.lt_or_ge p H.length with h' | h'
  ·exact h'
  ·unfold Lx at h; rw [List.getElem?_eq_none h'] at h; cases h
 unfold Lx; simp [this]
end Go.Gm
namespace Go.Gm
def AK (H : Ab) (p : Nat) (b : List UInt8) (r : List Aa) (a : Nat) : Ab := H.set p (.cel 0 (.str b :: .int .i64 (a : Int) :: r))
theorem BG {H : Ab} {p a : Nat} {b : List UInt8} {r : List Aa} (h : Lx H p b a r) : AK H p b r a = H := by
 unfold AK
 apply List.ext_getElem?
 intro i
 by_cases e : p = i
 ·subst e
  have : p < H.length := by
   rcases Nat.lt_or_ge p H.length with h' | h'
   ·exact h'
   ·unfold Lx at h; rw [List.getElem?_eq_none h'] at h; cases h
  rw [List.getElem?_set_self this]; exact h.symm
 ·rw [List.getElem?_set_ne e]
theorem C7 {H : Ab} {p a a' : Nat} {b : List UInt8} {r : List Aa} (h : Lx H p b a r) : Lx (AK H p b r a') p b a' r := lx_set h
theorem KB (H : Ab) (p a a' : Nat) (b : List UInt8) (r r' : List Aa) : AK (AK H p b r a) p b r' a' = AK H p b r' a' := by unfold AK; rw [List.set_set]
theorem FI (H : Ab) (p a : Nat) (b : List UInt8) (r : List Aa) : (AK H p b r a).length = H.length := by unfold AK; simp
theorem EY {H : Ab} {p a a' : Nat} {b : List UInt8} {r : List Aa} (h : Lx H p b a r) (n : Nat) : Al 1 (.ptr p 0 1) (.int .i64 (n : Int)) (AK H p b r a') = some (AK H p b r n) := by
 rw [lx_step (C7 h)]
 exact congrArg some (KB H p a' n b r r)
def Gi (b : List UInt8) (a : Nat) : Nat := a + ((b.drop a).takeWhile fun c => !([13, 10] : List UInt8).contains c).length
theorem anyN_step {b : List UInt8} {a : Nat} (h : a < b.length) : Gi b a = if A8 b a [13, 10] then a else Gi b (a + 1) := by
 unfold Gi A8
 rw [List.getElem?_eq_getElem h, List.drop_eq_getElem_cons h, List.takeWhile_cons]
 cases hc : ([13, 10] : List UInt8).contains b[a] with
 | true => simp only [hc, Bool.not_true, if_true, if_false, Bool.false_eq_true, List.length_nil, Nat.add_zero]
 | false => simp only [hc, Bool.not_false, if_true, if_false, Bool.false_eq_true, List.length_cons]; omega
theorem anyN_end {b : List UInt8} : Gi b b.length = b.length := by simp [Gi]
theorem lx_any {H : Ab} {p a : Nat} {b : List UInt8} {r : List Aa} (h : Lx H p b a r) (ha : a ≤ b.length) (hb : b.length < 1152921504606846976) :
  Sh.fo (.ptr p 0 0) H = some (.ret (.tup []), AK H p b r (Gi b a)) := by
 unfold Sh.fo
 have key := Bt (G := fun rec1 vs H1 => Sh.f3z H rec1 (ag vs 0) H1) (σ := Nat) (fun i => i ≤ b.length) (fun _ => [.ptr p 0 0]) (fun i => AK H p b r i) (fun i => b.length - i)
  (fun i => some (.ret (.tup []), AK H p b r (Gi b i))) (fun i rec hi hrec => ?_) a ha (by omega)
 ·rw [BG h] at key; exact key
 ·unfold Sh.f3z
  have hx := C7 (a' := i) h
  simp only [GMb, GMc, GN hx]
  by_cases e : i = b.length
  ·simp only [e, GMb, GMc, anyN_end]
  ·have hlt : i < b.length := by omega
   simp only [e, GMb, GMc, BW hx hi]
   rw [anyN_step hlt]
   cases hc : A8 b i [13, 10] with
   | true => simp only [GMb, GMc, Bool.not_true]
   | false =>
    simp only [GMb, GMc, Bool.not_false, Ae, Aj, Nat.zero_add, Dy hx, Aw (show i < 9223372036854775807 by omega), EY h]
    exact hrec (i + 1) (by omega) (by omega)
def NR (b : List UInt8) (a : Nat) (s : List UInt8) : Aa := if a = b.length then Qc 3 s else Qc 2 []
def crN (b : List UInt8) (a : Nat) : Nat := if A8 b a [13] then a + 1 else a
theorem Co {b s : List UInt8} {a : Nat} (h : A8 b a s = true) : a < b.length := by
 rcases Nat.lt_or_ge a b.length with h' | h'
 ·exact h'
 ·unfold A8 at h; rw [List.getElem?_eq_none h'] at h; cases h
theorem crN_le {b : List UInt8} {a : Nat} (ha : a ≤ b.length) : crN b a ≤ b.length := by
 unfold crN
 cases hs : A8 b a [13] with
 | true => exact Co hs
 | false => exact ha
def endO (H : Ab) (p : Nat) (b : List UInt8) (r : List Aa) (a : Nat) (rest : List UInt8) : Out :=
 if a = b.length then some (.ret (.tup []), H)
 else if A8 b (crN b a) [10] then some (.ret (.tup []), AK H p b r (crN b a + 1))
 else some (.pan (NR b (crN b a) (10 :: rest)), AK H p b r (crN b a))
theorem lx_end {H : Ab} {p a : Nat} {b : List UInt8} {r : List Aa} (h : Lx H p b a r) (ha : a ≤ b.length) (hb : b.length < 1152921504606846976) (rest : List UInt8) (hr : rest.length ≤ 1000000) :
  Sh.fg (.ptr p 0 0) (.str rest) H = endO H p b r a rest := by
 unfold Sh.fg endO
 simp only [GMb, GMc, GN h]
 by_cases e : a = b.length
 ·simp only [e, GMb, GMc]
 ·have key : ∀ c, c ≤ b.length → Sh.f40 H (.ptr p 0 0) (.str rest) (AK H p b r c) = if A8 b c [10] then some (.ret (.tup []), AK H p b r (c + 1)) else some (.pan (NR b c (10 :: rest)), AK H p b r c) := by
   intro c hc
   have hx := C7 (a' := c) h
   unfold Sh.f40
   simp only [GMb, GMc, BW hx hc]
   cases hs : A8 b c [10] with
   | true =>
    unfold Sh.f4t
    simp only [GMb, GMc, Bool.not_true, Ae, Aj, Nat.zero_add, Dy hx, Aw (show c < 9223372036854775807 by omega), EY h]
   | false =>
    have hcat : Af .none .add (.str [10]) (.str rest) = some (.str (10 :: rest)) := B5 (by simp only [List.length_cons, List.length_nil]; omega)
    simp only [GMb, GMc, Bool.not_false, hcat, KE hx]
    rfl
  simp only [e, GMb, GMc, BW h ha, AS]
  unfold crN
  cases hs : A8 b a [13] with
  | true =>
   have hlt : a < b.length := by omega
   have hm := EY (a' := a) h (a + 1)
   rw [BG h] at hm
   simp only [GMb, GMc, Ae, Aj, Nat.zero_add, Dy h, Aw (show a < 9223372036854775807 by omega), hm]
   exact key (a + 1) (by omega)
  | false =>
   have := key a ha
   rw [BG h] at this
   simp only [GMb, GMc]
   rw [BG h]
   exact this
end Go.Gm
namespace Go.Gm
def cpN : List UInt8 → List UInt8 → Nat
 | a :: l, b :: m => if a = b then cpN l m + 1 else 0
 | _, _ => 0
theorem cpN_le : ∀ a b : List UInt8, cpN a b ≤ a.length ∧ cpN a b ≤ b.length
 | [], _ => ⟨Nat.zero_le _, Nat.zero_le _⟩
 | _ :: _, [] => ⟨Nat.zero_le _, Nat.zero_le _⟩
 | a :: l, b :: m => by
  have := cpN_le l m
  unfold cpN
  by_cases h : a = b
  ·rw [if_pos h]; simp only [List.length_cons]; omega
  ·rw [if_neg h]; exact ⟨Nat.zero_le _, Nat.zero_le _⟩
theorem cpN_get : ∀ (a b : List UInt8) (i : Nat), i < cpN a b → a[i]? = b[i]?
 | [], _, i, h => by simp [cpN] at h
 | _ :: _, [], i, h => by simp [cpN] at h
 | a :: l, b :: m, i, h => by
  unfold cpN at h
  by_cases e : a = b
  ·rw [if_pos e] at h
   cases i with
   | zero => simp [e]
   | succ i => simpa using cpN_get l m i (by omega)
  ·rw [if_neg e] at h; omega
theorem cpN_stop : ∀ (a b : List UInt8), cpN a b < a.length → cpN a b < b.length → a[cpN a b]? ≠ b[cpN a b]?
 | [], _, h, _ => by simp [cpN] at h
 | _ :: _, [], _, h => by simp [cpN] at h
 | a :: l, b :: m, h, h2 => by
  by_cases e : a = b
  ·have ec : cpN (a :: l) (b :: m) = cpN l m + 1 := by rw [cpN, if_pos e]
   rw [ec] at h h2 ⊢
   simpa using cpN_stop l m (by simpa using h) (by simpa using h2)
  ·have ec : cpN (a :: l) (b :: m) = 0 := by rw [cpN, if_neg e]
   rw [ec]; simpa using e
theorem q_common (a b : List UInt8) (H : Ab) (ha : a.length < 1152921504606846976) : Sh.f1b (.str a) (.str b) H = some (.ret (.int .i64 (cpN a b : Int)), H) := by
 unfold Sh.f1b
 have hm : (min (a.length : Int) (b.length : Int)) = ((min a.length b.length : Nat) : Int) := by omega
 have hle := cpN_le a b
 have l1 : B6 (.str a) = some (.int .i64 (a.length : Int)) := rfl
 have l2 : B6 (.str b) = some (.int .i64 (b.length : Int)) := rfl
 simp only [GMb, GMc, l1, l2, min_int, hm]
 have key := Bt (G := fun rec1 vs H1 => Sh.f3y H rec1 (ag vs 0) (ag vs 1) (ag vs 2) (ag vs 3) (ag vs 4) H1) (σ := Nat) (fun i => i ≤ cpN a b)
  (fun i => [.str a, .str b, .int .i64 ((min a.length b.length : Nat) : Int), .int .i64 ((min a.length b.length : Nat) : Int), .int .i64 (i : Int)]) (fun _ => H) (fun i => cpN a b - i)
  (fun _ => some (.ret (.int .i64 (cpN a b : Int)), H)) (fun i rec hi hrec => ?_) 0 (Nat.zero_le _) (by omega)
 ·exact key
 ·unfold Sh.f3y
  by_cases hlt : i < min a.length b.length
  ·have hlt' : (i : Int) < ((min a.length b.length : Nat) : Int) := by omega
   have h1 : i < a.length := by omega
   have h2 : i < b.length := by omega
   simp only [GMb, GMc, Az, hlt', Gv h1, Gv h2]
   by_cases e : i = cpN a b
   ·have hne := cpN_stop a b (by omega) (by omega)
    rw [← e, List.getElem?_eq_getElem h1, List.getElem?_eq_getElem h2] at hne
    have hn : ¬ ((a[i].toNat : Int) = (b[i].toNat : Int)) := fun hc => hne (congrArg some (UInt8.toNat_inj.1 (by omega)))
    simp only [hn, GMb, GMc, not_false_eq_true]
    rw [e]
   ·have hg := cpN_get a b i (by omega)
    rw [List.getElem?_eq_getElem h1, List.getElem?_eq_getElem h2] at hg
    have hg' := Option.some.inj hg
    simp only [hg', GMb, GMc, not_true_eq_false, Aw (show i < 9223372036854775807 by omega)]
    exact hrec (i + 1) (by omega) (by omega)
  ·have hlt' : ¬ (i : Int) < ((min a.length b.length : Nat) : Int) := by omega
   simp only [GMb, GMc, Az, hlt']
   have : min a.length b.length = cpN a b := by omega
   rw [this]
def mustO (H : Ab) (p : Nat) (b : List UInt8) (r : List Aa) (a : Nat) (s rest : List UInt8) : Out :=
 if cpN (b.drop a) s < s.length then some (.pan (NR b (a + cpN (b.drop a) s) (s.drop (cpN (b.drop a) s) ++ rest)), AK H p b r (a + cpN (b.drop a) s))
 else some (.ret (.tup []), AK H p b r (a + cpN (b.drop a) s))
theorem lx_must {H : Ab} {p a : Nat} {b : List UInt8} {r : List Aa} (h : Lx H p b a r) (ha : a ≤ b.length) (hb : b.length < 1152921504606846976) (s rest : List UInt8) (hs : s.length ≤ 1000000) (hr : rest.length ≤ 1000000) :
  Sh.f3 (.ptr p 0 0) (.str s) (.str rest) H = mustO H p b r a s rest := by
 unfold Sh.f3 mustO
 have hle := cpN_le (b.drop a) s
 have hd : (b.drop a).length = b.length - a := List.length_drop
 have hq := q_common (b.drop a) s H (by omega)
 have l2 : B6 (.str s) = some (.int .i64 (s.length : Int)) := rfl
 generalize cpN (b.drop a) s = n at hq hle ⊢
 have hw : IntKind.i64.wrap ((a : Int) + (n : Int)) = ((a + n : Nat) : Int) := by rw [A0] <;> omega
 have hm := EY (a' := a) h (a + n)
 rw [BG h] at hm
 have hx := C7 (a' := a + n) h
 simp only [GMb, GMc, Ae, Aj, Nat.zero_add, QB h, Dy h, Df ha, hq, hw, hm, l2]
 by_cases hc : n < s.length
 ·have hc' : (n : Int) < (s.length : Int) := by omega
  have hcat : Af .none .add (.str (s.drop n)) (.str rest) = some (.str (s.drop n ++ rest)) := B5 (by rw [List.length_drop]; omega)
  simp only [hc', GMb, GMc, Df hle.2, hcat, KE hx, if_pos hc]
  rfl
 ·have hc' : ¬ (n : Int) < (s.length : Int) := by omega
  simp only [hc', GMb, GMc, if_neg hc]
end Go.Gm
namespace Go.Gm
theorem K7 {a n : Nat} (h : a + n < 9223372036854775807) : IntKind.i64.wrap ((a : Int) + (n : Int)) = ((a + n : Nat) : Int) := by rw [A0] <;> omega
def GQ (b : List UInt8) (a : Nat) (s : List UInt8) : Nat := a + cpN (b.drop a) s
theorem HK {b : List UInt8} {a : Nat} (ha : a ≤ b.length) (s : List UInt8) : GQ b a s ≤ b.length := by
 have := (cpN_le (b.drop a) s).1
 rw [List.length_drop] at this
 unfold GQ; omega
end Go.Gm
namespace Go.Gm
theorem q_sign (c : UInt8) (H : Ab) : Sh.f1i (.int .u8 (c.toNat : Int)) H = some (.ret (.bool (JF c)), H) := by
 unfold Sh.f1i JF
 by_cases h : (c.toNat : Int) > 32
 ·have : 33 ≤ c.toNat := by omega
  simp [h, this]; omega
 ·have : ¬ 33 ≤ c.toNat := by omega
  simp [h, this]
def onB (b : List UInt8) (f a : Nat) : Bool := match b[a]? with
 | none => false
 | some c => decide (a - f < 40) && JF c
def Fa (b : List UInt8) (f : Nat) : Nat → Nat → Nat
 | 0, a => a
 | n + 1, a => if onB b f a then Fa b f n (a + 1) else a
def ruleO (H : Ab) (p : Nat) (b : List UInt8) (r : List Aa) (f e : Nat) (rest : List UInt8) : Out :=
 if e = f then some (.pan (NR b e (97 :: rest)), AK H p b r e) else some (.ret (.str ((b.take e).drop f)), AK H p b r e)
theorem lx_rule_end {H : Ab} {p a f : Nat} {b : List UInt8} {r : List Aa} (h : Lx H p b f r) (hf : f ≤ a) (ha : a ≤ b.length) (rest : List UInt8) (hr : rest.length ≤ 1000000) :
  (AS (fun j2 =>
 (Ae (.ptr p 0 0)).bind fun x51 =>
 (Ac 1 x51).bind fun x52 =>
 (Ad false 1 x52 (AK H p b r a)).bind fun x53 =>
 (Af .none .eql x53 (.int .i64 (f : Int))).bind fun x54 =>
 Am x54 (
 (Af .none .add (.str [97]) (.str rest)).bind fun x55 =>
 bK H (Sh.f1 (.ptr p 0 0) x55 (AK H p b r a)) fun x56 H57 =>
 j2 [.ptr p 0 0, .int .i64 (f : Int)] H57) (
 j2 [.ptr p 0 0, .int .i64 (f : Int)] (AK H p b r a))) (fun vs H1 => Sh.f43 H (ag vs 0) (ag vs 1) H1)) = ruleO H p b r f a rest := by
 have hx := C7 (a' := a) h
 unfold ruleO
 have hcat : Af .none .add (.str [97]) (.str rest) = some (.str (97 :: rest)) := B5 (by simp only [List.length_cons, List.length_nil]; omega)
 simp only [GMb, GMc, Ae, Aj, Nat.zero_add, Dy hx]
 by_cases e : a = f
 ·simp only [e, GMb, GMc, hcat, if_pos]
  subst e
  simp only [KE hx]
  rfl
 ·have e' : ¬ (a : Int) = (f : Int) := by omega
  simp only [e', GMb, GMc, if_neg e]
  unfold Sh.f43
  simp only [GMb, GMc, Ae, Aj, Nat.zero_add, Dy hx, QB hx, QS hf ha]
theorem Nc {b : List UInt8} {f a : Nat} (h : onB b f a = false) : ∀ n, Fa b f n a = a
 | 0 => rfl
 | n + 1 => by rw [Fa, h]; rfl
theorem ruleN_on {b : List UInt8} {f a : Nat} (h : onB b f a = true) (hf : f ≤ a) : Fa b f (40 - (a - f)) a = Fa b f (40 - (a + 1 - f)) (a + 1) := by
 have : a - f < 40 := by
  unfold onB at h
  split at h
  ·cases h
  ·simp at h; exact h.1
 have e : 40 - (a - f) = (40 - (a + 1 - f)) + 1 := by omega
 rw [e, Fa, h, if_pos rfl]
theorem onB_lt {b : List UInt8} {f a : Nat} (h : onB b f a = true) : a < b.length := by
 rcases Nat.lt_or_ge a b.length with h' | h'
 ·exact h'
 ·unfold onB at h; rw [List.getElem?_eq_none h'] at h; cases h
theorem lx_rule {H : Ab} {p f : Nat} {b : List UInt8} {r : List Aa} (h : Lx H p b f r) (hf : f ≤ b.length) (hb : b.length < 1152921504606846976) (rest : List UInt8) (hr : rest.length ≤ 1000000) :
  Sh.fw (.ptr p 0 0) (.str rest) H = ruleO H p b r f (Fa b f 40 f) rest := by
 unfold Sh.fw
 simp only [GMb, GMc, Ae, Aj, Nat.zero_add, Dy h]
 have key := Bt (G := fun rec1 vs H1 => Sh.f44 H rec1 (ag vs 0) (ag vs 1) (ag vs 2) H1) (σ := Nat) (fun i => f ≤ i ∧ i ≤ b.length) (fun _ => [.ptr p 0 0, .str rest, .int .i64 (f : Int)]) (fun i => AK H p b r i) (fun i => b.length - i)
  (fun i => ruleO H p b r f (Fa b f (40 - (i - f)) i) rest) (fun i rec hi hrec => ?_) f ⟨Nat.le_refl _, hf⟩ (by omega)
 ·rw [BG h, Nat.sub_self, Nat.sub_zero] at key; exact key
 ·unfold Sh.f44
  obtain ⟨h1, h2⟩ := hi
  have hx := C7 (a' := i) h
  have hend := lx_rule_end h h1 h2 rest hr
  simp only [GMb, GMc, GN hx]
  by_cases e : i = b.length
  ·have ho : onB b f i = false := by unfold onB; rw [e, List.getElem?_eq_none (Nat.le_refl _)]
   rw [Nc ho]
   simp only [e, GMb, GMc] at hend ⊢
   exact hend
  ·have hlt : i < b.length := by omega
   have hw : IntKind.i64.wrap ((i : Int) - (f : Int)) = ((i - f : Nat) : Int) := by rw [A0] <;> omega
   simp only [e, GMb, GMc, Ae, Aj, Nat.zero_add, Dy hx, QB hx, hw]
   by_cases h40 : i - f < 40
   ·have h40' : ((i - f : Nat) : Int) < 40 := by omega
    simp only [h40', GMb, GMc, Aj, Nat.zero_add, Dy hx, QB hx, Gv hlt, q_sign]
    cases hs : JF b[i] with
    | true =>
     have ho : onB b f i = true := by unfold onB; rw [List.getElem?_eq_getElem hlt]; simp [h40, hs]
     rw [ruleN_on ho h1]
     simp only [GMb, GMc, Dy hx, Aw (show i < 9223372036854775807 by omega), EY h]
     exact hrec (i + 1) ⟨by omega, by omega⟩ (by omega)
    | false =>
     have ho : onB b f i = false := by unfold onB; rw [List.getElem?_eq_getElem hlt]; simp [hs]
     rw [Nc ho]
     simpa only [GMb, GMc, Ae, Aj, Nat.zero_add, Dy hx] using hend
   ·have h40' : ¬ ((i - f : Nat) : Int) < 40 := by omega
    have ho : onB b f i = false := by unfold onB; rw [List.getElem?_eq_getElem hlt]; simp [h40]
    rw [Nc ho]
    simpa only [h40', GMb, GMc, Ae, Aj, Nat.zero_add, Dy hx] using hend
end Go.Gm
namespace Go.Gm
def eolN (b : List UInt8) (a : Nat) : Nat := if a = b.length then a else if A8 b (crN b a) [10] then crN b a + 1 else crN b a
theorem eolN_le {b : List UInt8} {a : Nat} (ha : a ≤ b.length) : eolN b a ≤ b.length := by
 unfold eolN
 split
 ·exact ha
 ·split
  ·rename_i h; exact Co h
  ·exact crN_le ha
theorem ruleN_le {b : List UInt8} {f : Nat} : ∀ (n a : Nat), a ≤ b.length → a ≤ Fa b f n a ∧ Fa b f n a ≤ b.length
 | 0, a, h => ⟨Nat.le_refl _, h⟩
 | n + 1, a, h => by
  rw [Fa]
  cases ho : onB b f a with
  | true => have := ruleN_le (b := b) (f := f) n (a + 1) (onB_lt ho); simp only [if_true]; omega
  | false => simp only [Bool.false_eq_true, if_false]; omega
end Go.Gm
namespace Go.Gm
abbrev Er := Option (Int × List UInt8)
def codeR : Er → Int
 | none => 0
 | some e => e.1
@[simp] theorem codeR_none : codeR none = 0 := rfl
@[simp] theorem codeR_some (e : Int × List UInt8) : codeR (some e) = e.1 := rfl
def FF (b : List UInt8) (a : Nat) (s : List UInt8) : Int × List UInt8 := if a = b.length then (3, s) else (2, [])
def BD (b : List UInt8) (a : Nat) (s rest : List UInt8) : Er × Nat := (if cpN (b.drop a) s < s.length then some (FF b (GQ b a s) (s.drop (cpN (b.drop a) s) ++ rest)) else none, GQ b a s)
def HQ (b : List UInt8) (a : Nat) (rest : List UInt8) : Er × Nat := (if a = b.length then none else if A8 b (crN b a) [10] then none else some (FF b (crN b a) (10 :: rest)), eolN b a)
def Mc (b : List UInt8) (f : Nat) (rest : List UInt8) : Er × Nat := (if Fa b f 40 f = f then some (FF b f (97 :: rest)) else none, Fa b f 40 f)
def BT : List UInt8 := [48, 49, 50, 51, 52, 53, 54, 55, 56, 57]
def LI (b : List UInt8) (f : Nat) (rest : List UInt8) : Nat → Nat → Er × Nat
 | 0, a => (none, a)
 | n + 1, a =>
  if A8 b a BT then
   if f < a ∧ b[f]? = some 48 then (some (FF b a []), a)
   else if a - f = 400 then (some (4, []), a)
   else LI b f rest n (a + 1)
  else if a = f then (some (FF b a (49 :: rest)), a) else (none, a)
def O8 (b : List UInt8) (a : Nat) (neg : Bool) : Nat := if neg && A8 b a [45] then a + 1 else a
def G6 (b : List UInt8) (a : Nat) (neg : Bool) (rest : List UInt8) : Er × Nat :=
 if neg && A8 b a [45] && A8 b (a + 1) [48] then (some (FF b (a + 1) []), a + 1) else LI b (O8 b a neg) rest 402 (O8 b a neg)
structure MSt where
 law : List UInt8
 nodes : List Nd
 lines : List (Nat × Int)
def NY (b : List UInt8) (a : Nat) (st : MSt) : (Er × Nat) × MSt :=
 if A8 b (a + 1) [67] then ((none, Gi b (a + 1)), st)
 else if A8 b (a + 1) [71] then
  match BD b (a + 1) [71, 32] [49] with
  | (some e, c) => ((some e, c), st)
  | (none, c) => (G6 b c false [], st)
 else if A8 b (a + 1) [82] then
  match BD b (a + 1) [82, 32] [97] with
  | (some e, c) => ((some e, c), st)
  | (none, c) => match Mc b c [] with
   | (some e, d) => ((some e, d), st)
   | (none, d) => ((none, d), { st with law := (b.take d).drop c })
 else ((some (FF b (a + 1) [67]), a + 1), st)
def sqK (on : Nat → Nat → Bool) (rec : Nat → Nat → List Nd → List Nd) (level x y half : Nat) : Nat → List Nd → List Nd × Nd
 | 0, l => (l, ⟨level, 0, 0, 0, 0⟩)
 | k + 1, l =>
  let r := sqK on rec level x y half k l
  if level ≤ 1 then (r.1, r.2.setKid k (if on (x + k % 2 * half) (y + k / 2 * half) then 1 else 0))
  else let m := rec (x + k % 2 * half) (y + k / 2 * half) r.1
   (m, r.2.setKid k (m.length : Int))
def sqF (on : Nat → Nat → Bool) : Nat → Nat → Nat → List Nd → List Nd
 | 0, _, _, l => l
 | v + 1, x, y, l =>
  let r := sqK on (sqF on v) (v + 1) x y (2 ^ v) 4 l
  r.1 ++ [r.2]
def onQ (on : List Bool) (x y : Nat) : Bool := on.getD (y * 8 + x) false
def Cy (b : List UInt8) : Nat → Nat → Nat → Nat → List Bool → Er × Nat × List Bool
 | 0, a, _, _, on => (none, a, on)
 | n + 1, a, x, y, on =>
  if A8 b a [46, 42, 36] then
   if y = 8 ∨ (x = 8 ∧ ¬ A8 b a [36] = true) then (some (FF b a []), a, on)
   else if A8 b a [36] then Cy b n (a + 1) 0 (y + 1) on
   else Cy b n (a + 1) (x + 1) y (on.set (y * 8 + x) (A8 b a [42]))
  else (none, a, on)
def My (b : List UInt8) (a : Nat) (st : MSt) : (Er × Nat) × MSt :=
 match Cy b (b.length + 1 - a) a 0 0 (List.replicate 64 false) with
 | (some e, c, _) => ((some e, c), st)
 | (none, c, on) => ((none, c), { st with nodes := sqF (onQ on) 3 0 0 st.nodes, lines := st.lines ++ [((sqF (onQ on) 3 0 0 st.nodes).length, 3)] })
def D3 (b : List UInt8) (a : Nat) : Nat := (b.getD a 48).toNat - 48
def Gh (b : List UInt8) : Nat → Nat → Nat → Er × Nat × Nat
 | 0, a, n => (none, a, n)
 | k + 1, a, n =>
  if A8 b a BT then
   if 1329 < 10 * n + D3 b a then (some (4, []), a, n) else Gh b k (a + 1) (10 * n + D3 b a)
  else if n = 0 then (some (FF b a []), a, n) else (none, a, n)
def Cc (b : List UInt8) (a : Nat) : Er × Nat × Nat := if A8 b a [48] then (some (FF b a []), a, 0) else Gh b (b.length + 1 - a) a 0
def CS (lines : List (Nat × Int)) (level : Int) (n : Nat) : Bool :=
 if level = 1 then decide (n ≤ 255) else if n = 0 then true else match lines[n - 1]? with
  | some q => decide (q.2 = level - 1)
  | none => false
def FL (lines : List (Nat × Int)) (level : Int) : Nat → Nat → Nat → Option Nat
 | 0, _, _ => none
 | f + 1, low, high =>
  if low ≤ lines.length then
   match (List.range (min high lines.length + 1 - low)).find? (fun i => CS lines level (low + i)) with
   | some i => some (low + i)
   | none => FL lines level f (low * 10) (high * 10 + 9)
  else none
def Fe (lines : List (Nat × Int)) (level : Int) (n : Nat) : Option Nat := if CS lines level n then some n else if n = 0 then none else FL lines level (lines.length + 1) (n * 10) (n * 10 + 9)
def GS (b : List UInt8) (lines : List (Nat × Int)) (level : Int) (f : Nat) (rest : List UInt8) : Nat → Nat → Nat → Er × Nat × Nat
 | 0, a, n => (none, a, n)
 | k + 1, a, n =>
  if A8 b a BT then
   if f < a ∧ n = 0 then (some (FF b a []), a, n)
   else if (Fe lines level (10 * n + D3 b a)).isSome then GS b lines level f rest k (a + 1) (10 * n + D3 b a)
   else (some (FF b a []), a, n)
  else if a = f then (some (FF b a (48 :: rest)), a, n)
  else if CS lines level n then (none, a, n)
  else (some (FF b a ((AU ((Fe lines level n).getD 0)).drop (a - f) ++ rest)), a, n)
def BJ (lines : List (Nat × Int)) (level : Int) (n : Nat) : Nat := if 1 < level ∧ 0 < n then ((lines[n - 1]?).getD (0, 0)).1 else n
def M0 (b : List UInt8) (a : Nat) (lines : List (Nat × Int)) (level : Int) (rest : List UInt8) : Er × Nat × Nat :=
 match GS b lines level a rest (b.length + 1 - a) a 0 with
 | (e, c, n) => (e, c, BJ lines level n)
def Eu (b : List UInt8) (lines : List (Nat × Int)) (level : Int) : Nat → Nat → Nat → Nd → List UInt8 → Er × Nat × Nd
 | 0, _, a, x, _ => (none, a, x)
 | d + 1, k, a, x, rest => match BD b a [32] (48 :: rest) with
  | (some e, c) => (some e, c, x)
  | (none, c) => match M0 b c lines level rest with
   | (some e, c', _) => (some e, c', x)
   | (none, c', n) => Eu b lines level d (k + 1) c' (x.setKid k (n : Int)) (rest.drop 2)
def Mm (b : List UInt8) (a : Nat) (st : MSt) : (Er × Nat) × MSt :=
 match Cc b a with
 | (some e, c, _) => ((some e, c), st)
 | (none, c, v) => match Eu b st.lines v 4 0 c ⟨v, 0, 0, 0, 0⟩ [32, 48, 32, 48, 32, 48] with
  | (some e, c', _) => ((some e, c'), st)
  | (none, c', x) => ((none, c'), { st with nodes := st.nodes ++ [x], lines := st.lines ++ [(st.nodes.length + 1, (v : Int))] })
def rlS (b : List UInt8) (N : Int) (a : Nat) (st : MSt) : (Er × Nat) × MSt :=
 if A8 b a [35] then NY b a st
 else if A8 b a [46, 42, 36, 49, 50, 51, 52, 53, 54, 55, 56, 57] && decide ((st.lines.length : Int) ≥ N) then ((some (4, []), a), st)
 else if A8 b a [46, 42, 36] then My b a st
 else Mm b a st
def Kk (b : List UInt8) (N : Int) (a : Nat) (st : MSt) : (Er × Nat) × MSt :=
 match rlS b N a st with
 | ((some e, c), st') => ((some e, c), st')
 | ((none, c), st') => (HQ b c [], st')
def C1 (b : List UInt8) (N : Int) : Nat → Nat → MSt → (Er × Nat) × MSt
 | 0, a, st => ((none, a), st)
 | k + 1, a, st =>
  if a = b.length then ((none, a), st)
  else match Kk b N a st with
   | ((some e, c), st') => ((some e, c), st')
   | ((none, c), st') => C1 b N k c st'
def D7 : List UInt8 := [91, 77, 50, 93]
def L3 : List UInt8 := [66, 51, 47, 83, 50, 51]
def Jn (b : List UInt8) (N : Int) (st : MSt) : (Er × Nat) × MSt :=
 match BD b 0 D7 [] with
 | (some e, c) => ((some e, c), st)
 | (none, c) => match HQ b (Gi b c) [] with
  | (some e, d) => ((some e, d), st)
  | (none, d) => C1 b N (b.length + 1) d st
end Go.Gm
namespace Go.Gm
section
variable {Q : List Nd}
theorem onF_0 (L : List Nd) (v x y : Nat) : onF L v 0 x y = false := by
 cases v with
 | zero => rfl
 | succ v => unfold onF; rw [if_pos rfl]
theorem onF_kid {v n x y : Nat} (hv : 1 ≤ v) : onF Q (v + 1) (n : Int) x y = onF Q v (kz Q n (2 * (y / 2 ^ v) + x / 2 ^ v)) (x % 2 ^ v) (y % 2 ^ v) := by
 rcases Nat.eq_zero_or_pos n with h0 | h0
 ·subst h0; rw [kz_0, onF_0]; exact onF_0 _ _ _ _
 ·rw [CT h0]
  conv => lhs; unfold onF
  rw [if_neg (by omega), if_neg (by omega)]
theorem onF_1 {n x y : Nat} : onF Q 1 (n : Int) x y = decide (0 < kz Q n (2 * y + x)) := by
 rcases Nat.eq_zero_or_pos n with h0 | h0
 ·subst h0; rw [kz_0]; exact onF_0 _ _ _ _
 ·rw [CT h0]
  show (if (n : Int) = 0 then _ else _) = _
  rw [if_neg (by omega), if_pos rfl, Nat.pow_zero, Nat.div_one, Nat.div_one]
theorem Hv {p a d : Nat} (hp : 0 < p) (hd : d < p) : (a * p + d) / p = a ∧ (a * p + d) % p = d := by
 rw [Nat.add_comm, Nat.add_mul_div_right _ _ hp, Nat.add_mul_mod_self_right, Nat.div_eq_of_lt hd, Nat.mod_eq_of_lt hd]
 exact ⟨Nat.zero_add _, rfl⟩
theorem onF_q {v n k dx dy : Nat} (hv : 1 ≤ v) (hk : k < 4) (hx : dx < 2 ^ v) (hy : dy < 2 ^ v) : onF Q (v + 1) (n : Int) (k % 2 * 2 ^ v + dx) (k / 2 * 2 ^ v + dy) = onF Q v (kz Q n k) dx dy := by
 have hp : 0 < 2 ^ v := Nat.pow_pos (by omega)
 rw [onF_kid hv, (Hv hp hx).1, (Hv hp hx).2, (Hv hp hy).1, (Hv hp hy).2, show 2 * (k / 2) + k % 2 = k by omega]
theorem off_nil (hl : Ao Q = true) : ∀ v n, Lv Q v n → (∀ dx dy, dx < 2 ^ v → dy < 2 ^ v → onF Q v (n : Int) dx dy = false) → sem Q v n = .nil := by
 intro v
 induction v with
 | zero => intro n _ _; rfl
 | succ v ih =>
  intro n h hc
  by_cases hv : v = 0
  ·subst hv
   rw [semL hl h]
   refine Ms fun k hk => ?_
   have := hc (k % 2) (k / 2) (by omega) (by omega)
   rw [onF_1, show 2 * (k / 2) + k % 2 = k by omega, decide_eq_false_iff_not] at this
   rcases Nat.eq_zero_or_pos n with h0 | h0
   ·rw [h0, kz_0]
   ·have hge : 0 ≤ kz Q n k := by
     rw [CT h0]
     obtain ⟨m, rfl⟩ : ∃ m, n = m + 1 := ⟨n - 1, by omega⟩
     rw [A1 h.1]
     exact ((Ax hl h.1).2.2 k hk).1
    omega
  ·rw [semN hl h (by omega)]
   refine Mr fun k hk => ?_
   obtain ⟨a, b, c⟩ := kq_lv hl h (by omega) hk
   refine ih _ a fun dx dy hx hy => ?_
   have hb : k % 2 * 2 ^ v + dx < 2 ^ (v + 1) := by
    rw [Nat.pow_succ]
    have : k % 2 = 0 ∨ k % 2 = 1 := by omega
    rcases this with e | e <;> rw [e] <;> omega
   have hb2 : k / 2 * 2 ^ v + dy < 2 ^ (v + 1) := by
    rw [Nat.pow_succ]
    have : k / 2 = 0 ∨ k / 2 = 1 := by omega
    rcases this with e | e <;> rw [e] <;> omega
   have := hc _ _ hb hb2
   rw [onF_q (by omega) hk hx hy] at this
   have e : ((kq Q n k : Nat) : Int) = kz Q n k := by unfold kq; omega
   rw [e]; exact this
structure SqR (Q l M : List Nd) (v n : Nat) : Prop where
 pre : ∃ e, M = l ++ e
 lo : Ao M = true
 pos : 0 < M.length
 lv : Lv M v M.length
 sm : sem M v M.length = sem Q v n
structure SqI (Q l : List Nd) (v n k : Nat) (r : List Nd × Nd) : Prop where
 pre : ∃ e, r.1 = l ++ e
 lo : Ao r.1 = true
 lv : r.2.lv = ((v + 1 : Nat) : Int)
 kid : ∀ j, j < k → 0 ≤ r.2.kid j ∧ Lv r.1 v (r.2.kid j).toNat ∧ sem r.1 v (r.2.kid j).toNat = sem Q v (kq Q n j)
def Cells (Q : List Nd) (on : Nat → Nat → Bool) (v n x y : Nat) : Prop := ∀ dx dy, dx < 2 ^ v → dy < 2 ^ v → on (x + dx) (y + dy) = onF Q v (n : Int) dx dy
theorem sqK_ok {on : Nat → Nat → Bool} {v n x y : Nat} {l : List Nd} (hlQ : Ao Q = true) (hv : 1 ≤ v) (ih : ∀ x y l n, Ao l = true → Lv Q v n → Cells Q on v n x y → SqR Q l (sqF on v x y l) v n)
  (hl : Ao l = true) (hn : Lv Q (v + 1) n) (hc : Cells Q on (v + 1) n x y) : ∀ k, k ≤ 4 → SqI Q l v n k (sqK on (sqF on v) (v + 1) x y (2 ^ v) k l)
 | 0, _ => ⟨⟨[], by simp [sqK]⟩, hl, rfl, fun j hj => absurd hj (by omega)⟩
 | k + 1, hk => by
  obtain ⟨⟨e, he⟩, i2, i3, i4⟩ := sqK_ok hlQ hv ih hl hn hc k (by omega)
  unfold sqK
  dsimp only
  rw [if_neg (by omega)]
  generalize sqK on (sqF on v) (v + 1) x y (2 ^ v) k l = r at *
  obtain ⟨q1, q2, q3⟩ := kq_lv hlQ hn hv (show k < 4 by omega)
  have ezq : ((kq Q n k : Nat) : Int) = kz Q n k := by unfold kq; omega
  obtain ⟨⟨e', he'⟩, r2, r3, r4, r5⟩ := ih (x + k % 2 * 2 ^ v) (y + k / 2 * 2 ^ v) r.1 (kq Q n k) i2 q1 (by
   intro dx dy hx hy
   have hb : k % 2 * 2 ^ v + dx < 2 ^ (v + 1) := by
    rw [Nat.pow_succ]
    have : k % 2 = 0 ∨ k % 2 = 1 := by omega
    rcases this with e | e <;> rw [e] <;> omega
   have hb2 : k / 2 * 2 ^ v + dy < 2 ^ (v + 1) := by
    rw [Nat.pow_succ]
    have : k / 2 = 0 ∨ k / 2 = 1 := by omega
    rcases this with e | e <;> rw [e] <;> omega
   have := hc _ _ hb hb2
   rw [onF_q hv (by omega) hx hy, ← Nat.add_assoc, ← Nat.add_assoc] at this
   rw [ezq]; exact this)
  generalize sqF on v (x + k % 2 * 2 ^ v) (y + k / 2 * 2 ^ v) r.1 = m at *
  refine ⟨⟨e ++ e', by rw [he', he]; simp⟩, r2, by rw [Ci]; exact i3, fun j hj => ?_⟩
  show 0 ≤ (r.2.setKid k (m.length : Int)).kid j ∧ Lv m v ((r.2.setKid k (m.length : Int)).kid j).toNat ∧ sem m v ((r.2.setKid k (m.length : Int)).kid j).toNat = _
  by_cases hjk : j = k
  ·subst hjk
   rw [Dg _ _ (by omega), Int.toNat_natCast]
   exact ⟨by omega, r4, r5⟩
  ·rw [BK _ _ (by omega) (by omega) hjk]
   obtain ⟨a, b, c⟩ := i4 j (by omega)
   refine ⟨a, ?_, ?_⟩
   ·rw [he']; exact b.old
   ·rw [he', CY i2 v _ b]; exact c
theorem sq_one (on : Nat → Nat → Bool) (x y : Nat) (l : List Nd) : sqF on 1 x y l = l ++ [⟨1, if on (x + 0) (y + 0) then 1 else 0, if on (x + 1) (y + 0) then 1 else 0, if on (x + 0) (y + 1) then 1 else 0, if on (x + 1) (y + 1) then 1 else 0⟩] := rfl
theorem sq_sem (hlQ : Ao Q = true) (h2 : ∀ n k, Lv Q 1 n → k < 4 → kz Q n k ≤ 1) (on : Nat → Nat → Bool) : ∀ v, v + 1 ≤ 1329 → ∀ x y l n, Ao l = true → Lv Q (v + 1) n → Cells Q on (v + 1) n x y → SqR Q l (sqF on (v + 1) x y l) (v + 1) n
 | 0, _, x, y, l, n, hl, hn, hc => by
  have hz : ∀ k, k < 4 → 0 ≤ kz Q n k := fun k hk => by
   rcases Nat.eq_zero_or_pos n with h0 | h0
   ·rw [h0, kz_0]; exact Int.le_refl _
   ·rw [CT h0]
    obtain ⟨m, rfl⟩ : ∃ m, n = m + 1 := ⟨n - 1, by omega⟩
    rw [A1 hn.1]
    exact ((Ax hlQ hn.1).2.2 k hk).1
  have hb : ∀ k, k < 4 → (if on (x + k % 2) (y + k / 2) = true then (1 : Int) else 0) = kz Q n k := fun k hk => by
   have h1 := hc (k % 2) (k / 2) (by omega) (by omega)
   rw [onF_1, show 2 * (k / 2) + k % 2 = k by omega] at h1
   have h3 := hz k hk
   have h4 := h2 n k hn hk
   by_cases h5 : 0 < kz Q n k
   ·rw [if_pos (by rw [h1]; exact decide_eq_true h5)]; omega
   ·rw [if_neg (by rw [h1, decide_eq_false h5]; decide)]; omega
  rw [sq_one]
  have b0 := hb 0 (by decide); have b1 := hb 1 (by decide); have b2 := hb 2 (by decide); have b3 := hb 3 (by decide)
  simp only [Nat.reduceMod, Nat.reduceDiv, show 0 % 2 = 0 from rfl, show 0 / 2 = 0 from rfl] at b0 b1 b2 b3
  rw [b0, b1, b2, b3]
  have hkz : ∀ k, k < 4 → (⟨1, kz Q n 0, kz Q n 1, kz Q n 2, kz Q n 3⟩ : Nd).kid k = kz Q n k := fun k hk => by
   match k, hk with
   | 0, _ => rfl
   | 1, _ => rfl
   | 2, _ => rfl
   | 3, _ => rfl
  obtain ⟨s1, s3, s4⟩ := MV hl (x := ⟨1, kz Q n 0, kz Q n 1, kz Q n 2, kz Q n 3⟩) rfl (fun k hk => by rw [hkz k hk]; have := hz k hk; have := h2 n k hn hk; omega)
  refine ⟨⟨_, rfl⟩, s1, by simp, by rw [List.length_append, List.length_singleton]; exact s3, ?_⟩
  rw [List.length_append, List.length_singleton, s4, semL hlQ hn]
  exact mkL_eq hkz
 | v + 1, hv, x, y, l, n, hl, hn, hc => by
  obtain ⟨⟨e, he⟩, i2, i3, i4⟩ := sqK_ok hlQ (by omega) (sq_sem hlQ h2 on v (by omega)) hl hn hc 4 (Nat.le_refl _)
  show SqR Q l ((sqK on (sqF on (v + 1)) (v + 1 + 1) x y (2 ^ (v + 1)) 4 l).1 ++ [(sqK on (sqF on (v + 1)) (v + 1 + 1) x y (2 ^ (v + 1)) 4 l).2]) (v + 1 + 1) n
  generalize sqK on (sqF on (v + 1)) (v + 1 + 1) x y (2 ^ (v + 1)) 4 l = r at *
  obtain ⟨s1, s3, s4⟩ := KA i2 (v := v + 1) (by omega) hv i3 (fun k hk => ⟨(i4 k hk).1, (i4 k hk).2.1⟩)
  refine ⟨⟨e ++ [r.2], by rw [he]; simp⟩, s1, by simp, by rw [List.length_append, List.length_singleton]; exact s3, ?_⟩
  rw [List.length_append, List.length_singleton, s4, semN hlQ hn (by omega)]
  exact PF fun k hk => (i4 k hk).2.2

end
end Go.Gm
namespace Go.Gm
theorem q05_nodes (A B : List Nd) (t t' : Tok) (H : Ab) (hA : A.length < 1000000000000) : Sh.f2g (.sl (enL cNd A) t) (.sl (enL cNd B) t') H = some (.ret (.bool (decide (A = B))), H) := by
 unfold Sh.f2g
 simp only [GMb, GMc, A3]
 by_cases hl : A.length = B.length
 ·have hd : decide ((A.length : Int) = (B.length : Int)) = true := decide_eq_true (by omega)
  simp only [GMb, GMc, hd]
  have key := Bt (G := fun rec1 vs H1 => Sh.f4r H rec1 (ag vs 0) (ag vs 1) (ag vs 2) H1) (σ := Nat) (fun i => i ≤ A.length)
   (fun i => [.sl (enL cNd A) t, .sl (enL cNd B) t', .int .i64 (i : Int)]) (fun _ => H) (fun i => A.length - i) (fun i => some (.ret (.bool (decide (A.drop i = B.drop i))), H)) (fun i rec hi hrec => ?_) 0 (Nat.zero_le _) (by omega)
  ·simpa using key
  ·unfold Sh.f4r
   by_cases h : i < A.length
   ·have h' : i < B.length := by omega
    have hlt : (i : Int) < (A.length : Int) := by omega
    have hw := Aw (show i < 9223372036854775807 by omega)
    have := hrec (i + 1) h (by omega)
    rw [List.drop_eq_getElem_cons h, List.drop_eq_getElem_cons h']
    simp only [GMb, GMc, Az, A3, hlt, Av h, Av h', Gn, neq_nd, hw]
    by_cases he : A[i] = B[i]
    ·simp only [he, GMb, GMc, List.cons.injEq, true_and]
     exact this
    ·simp only [he, GMb, GMc, List.cons.injEq, false_and]
   ·have hlt : ¬ (i : Int) < (A.length : Int) := by omega
    rw [List.drop_eq_nil_of_le (by omega), List.drop_eq_nil_of_le (by omega)]
    simp only [GMb, GMc, Az, A3, hlt]
 ·have hd : decide ((A.length : Int) = (B.length : Int)) = false := decide_eq_false (by omega)
  have hne : decide (A = B) = false := decide_eq_false fun h => hl (by rw [h])
  simp only [GMb, GMc, hd, hne]
theorem q05_same (A B : List Nd) (H : Ab) (hA : A.length < 1000000000000) : Sh.fv (.agg [.sl (enL cNd A) .no]) (.agg [.sl (enL cNd B) .no]) H = some (.ret (.bool (decide (A = B))), H) := by
 unfold Sh.fv
 simp only [GMb, GMc, HPa, HPc, HPd, HPe, HPz, Nat.reduceAdd, Nat.reduceLT, q05_nodes A B .no .no _ hA]
theorem q11_same (r r' : List UInt8) (A B : List Nd) (H : Ab) (hA : A.length < 1000000000000) : Sh.fn (pat r A) (pat r' B) H = some (.ret (.bool (decide (r = r') && decide (A = B))), H) := by
 unfold Sh.fn pat P1
 have hq : CL A = [.sl (enL cNd A) .no] := rfl
 have hq2 : CL B = [.sl (enL cNd B) .no] := rfl
 have hl : ∀ (c d : Aa) (G : Ab), Ad true 1 (.ptr 0 0 1) (.cel 0 [c, d] :: G) = some (.agg [d]) := fun c d G => by
  simp only [Ad, Kq]; rfl
 by_cases hr : r = r'
 ·have hd : (r == r') = true := by simp [hr]
  have hd2 : decide (r = r') = true := decide_eq_true hr
  simp only [GMb, GMc, HPa, HPc, HPd, HPe, HPz, Nat.reduceAdd, Nat.reduceLT, K3, hd, hd2, hl, q05_same A B _ hA]
 ·have hd : (r == r') = false := by simp [hr]
  have hd2 : decide (r = r') = false := decide_eq_false hr
  simp only [GMb, GMc, HPa, HPc, HPd, HPe, HPz, Nat.reduceAdd, Nat.reduceLT, K3, hd, hd2]
end Go.Gm
namespace Go.Gm
structure On (p : Nat) (H H' : Ab) : Prop where
 len : H.length ≤ H'.length
 old : ∀ i, i < H.length → i ≠ p → H'[i]? = H[i]?
theorem On.refl (p : Nat) (H : Ab) : On p H H := ⟨Nat.le_refl _, fun _ _ _ => rfl⟩
theorem On.trans {p : Nat} {H H1 H2 : Ab} (h : On p H H1) (k : On p H1 H2) : On p H H2 :=
 ⟨Nat.le_trans h.len k.len, fun i hi hp => (k.old i (Nat.lt_of_lt_of_le hi h.len) hp).trans (h.old i hi hp)⟩
theorem On.push (p : Nat) (H G : Ab) : On p H (H ++ G) :=
 ⟨by simp, fun i hi hp => List.getElem?_append_left hi⟩
theorem Lx.push {H G : Ab} {p a : Nat} {b : List UInt8} {r : List Aa} (h : Lx H p b a r) : Lx (H ++ G) p b a r := by
 have : p < H.length := by
  rcases Nat.lt_or_ge p H.length with h' | h'
  ·exact h'
  ·unfold Lx at h; rw [List.getElem?_eq_none h'] at h; cases h
 unfold Lx
 rw [List.getElem?_append_left this]; exact h
theorem digs_mem (c : UInt8) : ([48, 49, 50, 51, 52, 53, 54, 55, 56, 57] : List UInt8).contains c = decide (48 ≤ c.toNat ∧ c.toNat ≤ 57) := by
 simp only [List.contains_eq_mem, List.mem_cons, List.not_mem_nil, or_false, decide_eq_decide, ← UInt8.toNat_inj]
 simp only [UInt8.reduceToNat]
 omega
end Go.Gm
namespace Go.Gm

def LJ (b : List UInt8) (f : Nat) (rest : List UInt8) : Nat → Nat → Option Aa × Nat
 | 0, a => (none, a)
 | n + 1, a =>
  if A8 b a BT then
   if f < a ∧ b[f]? = some 48 then (some (NR b a []), a)
   else if a - f = 400 then (some (Qc 4 []), a)
   else LJ b f rest n (a + 1)
  else if a = f then (some (NR b a (49 :: rest)), a) else (none, a)
theorem numR_le (b : List UInt8) (f : Nat) (rest : List UInt8) : ∀ n a, a ≤ b.length → a ≤ (LJ b f rest n a).2 ∧ (LJ b f rest n a).2 ≤ b.length
 | 0, a, h => ⟨Nat.le_refl _, h⟩
 | n + 1, a, h => by
  unfold LJ
  by_cases hs : A8 b a BT = true
  ·rw [if_pos hs]
   by_cases h1 : f < a ∧ b[f]? = some 48
   ·rw [if_pos h1]; exact ⟨Nat.le_refl _, h⟩
   ·rw [if_neg h1]
    by_cases h2 : a - f = 400
    ·rw [if_pos h2]; exact ⟨Nat.le_refl _, h⟩
    ·rw [if_neg h2]
     have := numR_le b f rest n (a + 1) (Co hs)
     exact ⟨by omega, this.2⟩
  ·rw [if_neg hs]
   by_cases h1 : a = f
   ·rw [if_pos h1]; exact ⟨Nat.le_refl _, h⟩
   ·rw [if_neg h1]; exact ⟨Nat.le_refl _, h⟩
theorem numR_on {b : List UInt8} {f a : Nat} {rest : List UInt8} {n : Nat} (hs : A8 b a BT = true) (h1 : ¬ (f < a ∧ b[f]? = some 48)) (h2 : ¬ a - f = 400) : LJ b f rest (n + 1) a = LJ b f rest n (a + 1) := by
 rw [LJ, if_pos hs, if_neg h1, if_neg h2]
noncomputable def numO (H0 K : Ab) (p : Nat) (b : List UInt8) (r : List Aa) (q from_ : Aa) : Option Aa × Nat → Out
 | (some v, e) => some (.pan v, AK K p b r e)
 | (none, e) => Sh.f2i H0 (.ptr p 0 0) q from_ (AK K p b r e)
theorem lx_num_loop {H0 K : Ab} {p f : Nat} {b : List UInt8} {r : List Aa} (h : Lx K p b f r) (hf : f ≤ b.length) (hb : b.length < 1152921504606846976) (rest : List UInt8) (hr : rest.length ≤ 1000000) (q from_ : Aa) :
  Ap (fun rec2 vs H => Sh.f2x H0 rec2 (ag vs 0) (ag vs 1) (ag vs 2) (ag vs 3) (ag vs 4) H) AM [.ptr p 0 0, .str rest, q, from_, .int .i64 (f : Int)] K = numO H0 K p b r q from_ (LJ b f rest 402 f) := by
 have key := Bt (G := fun rec2 vs H => Sh.f2x H0 rec2 (ag vs 0) (ag vs 1) (ag vs 2) (ag vs 3) (ag vs 4) H) (σ := Nat) (fun i => f ≤ i ∧ i ≤ b.length ∧ i - f ≤ 400) (fun _ => [.ptr p 0 0, .str rest, q, from_, .int .i64 (f : Int)]) (fun i => AK K p b r i) (fun i => b.length - i)
  (fun i => numO H0 K p b r q from_ (LJ b f rest (402 - (i - f)) i)) (fun i rec hi hrec => ?_) f ⟨Nat.le_refl _, hf, by omega⟩ (by omega)
 ·rw [BG h, Nat.sub_self, Nat.sub_zero] at key; exact key
 ·obtain ⟨h1, h2, h3⟩ := hi
  have hx := C7 (a' := i) h
  have e : 402 - (i - f) = (401 - (i - f)) + 1 := by omega
  have hcat : Af .none .add (.str [49]) (.str rest) = some (.str (49 :: rest)) := B5 (by simp only [List.length_cons, List.length_nil]; omega)
  unfold Sh.f2x
  have hsee := BW hx h2 BT
  unfold BT at hsee
  rw [e]
  have hseesd : A8 b i [48, 49, 50, 51, 52, 53, 54, 55, 56, 57] = A8 b i BT := rfl
  simp only [GMb, GMc, hsee, hseesd]
  cases hs : A8 b i BT with
  | true =>
   have hlt := Co hs
   have hfl : f < b.length := by omega
   have hw : IntKind.i64.wrap ((i : Int) - (f : Int)) = ((i - f : Nat) : Int) := by rw [A0] <;> omega
   have tail : ¬ (f < i ∧ b[f]? = some 48) → ((Af .none .sub (.int .i64 (i : Int)) (.int .i64 (f : Int))).bind fun x56 =>
     (Af .none .eql x56 (.int .i64 400)).bind fun x57 =>
     Am x57 (bK H0 (Sh.f6 (.ptr p 0 0) (AK K p b r i)) fun x58 H59 => Sh.f2w H0 rec (.ptr p 0 0) (.str rest) q from_ (.int .i64 (f : Int)) H59)
      (Sh.f2w H0 rec (.ptr p 0 0) (.str rest) q from_ (.int .i64 (f : Int)) (AK K p b r i))) = numO H0 K p b r q from_ (LJ b f rest (401 - (i - f) + 1) i) := by
    intro hn
    simp only [GMb, GMc, hw]
    by_cases h4 : i - f = 400
    ·have h4' : ((i - f : Nat) : Int) = 400 := by omega
     rw [LJ, if_pos hs, if_neg hn, if_pos h4]
     simp only [h4', GMb, GMc, lx_limit]
     rfl
    ·have h4' : ¬ ((i - f : Nat) : Int) = 400 := by omega
     rw [numR_on hs hn h4]
     unfold Sh.f2w
     simp only [h4', GMb, GMc, Ae, Aj, Nat.zero_add, Dy hx, Aw (show i < 9223372036854775807 by omega), EY h]
     have := hrec (i + 1) ⟨by omega, by omega, by omega⟩ (by omega)
     rw [show 402 - (i + 1 - f) = 401 - (i - f) by omega] at this
     exact this
   by_cases hfi : f < i
   ·have hfi' : (i : Int) > (f : Int) := by omega
    simp only [GMb, GMc, Ae, Aj, Nat.zero_add, Dy hx, QB hx, hfi', Gv hfl, Az]
    by_cases h0 : b[f] = 48
    ·rw [LJ, if_pos hs, if_pos ⟨hfi, by rw [List.getElem?_eq_getElem hfl, h0]⟩]
     simp only [h0, GMb, GMc, KE hx]
     rfl
    ·have h0' : ¬ ((b[f].toNat : Int) = 48) := fun hc => h0 (UInt8.toNat_inj.1 (by show b[f].toNat = 48; omega))
     simp only [h0', GMb, GMc]
     exact tail (fun hc => h0 (by have := hc.2; rw [List.getElem?_eq_getElem hfl] at this; exact Option.some.inj this))
   ·have hfi' : ¬ (i : Int) > (f : Int) := by omega
    simp only [GMb, GMc, Ae, Aj, Nat.zero_add, Dy hx, hfi', Az]
    exact tail (fun hc => hfi hc.1)
  | false =>
   rw [LJ, if_neg (by rw [hs]; exact Bool.false_ne_true)]
   simp only [GMb, GMc, Ae, Aj, Nat.zero_add, Dy hx, Az]
   by_cases he : i = f
   ·have he' : (i : Int) = (f : Int) := by omega
    rw [if_pos he]
    simp only [he', GMb, GMc, hcat, KE hx]
    rfl
   ·have he' : ¬ (i : Int) = (f : Int) := by omega
    rw [if_neg he]
    simp only [he', GMb, GMc]
    rfl
end Go.Gm
namespace Go.Gm
def Jp (l : List Nat) : Nat → Nat
 | 0 => 0
 | k + 1 => if l[k]?.getD 0 = 0 then Jp l k else k + 1
theorem topK_le (l : List Nat) : ∀ k, Jp l k ≤ k
 | 0 => Nat.le_refl _
 | k + 1 => by
  have := topK_le l k
  unfold Jp
  split <;> omega
theorem QQ {l : List Nat} (hx : Lim l) : ∀ k, k ≤ l.length → l.take (Jp l k) = CA (val (l.take k))
 | 0, _ => by
  have : CA (val ([] : List Nat)) = [] := (PQ (l := []) ⟨fun x h => (by cases h), fun x h => (by cases h)⟩).symm
  simpa [Jp] using this.symm
 | k + 1, hk => by
  have hg : l[k]? = some l[k] := List.getElem?_eq_getElem (by omega)
  have ht : l.take (k + 1) = l.take k ++ [l[k]] := List.take_succ_eq_append_getElem (by omega)
  unfold Jp
  split
  ·rename_i h
   rw [QQ hx k (by omega), ht, EL]
   rw [hg, Option.getD_some] at h
   rw [h]
   simp [val]
  ·rename_i h
   rw [hg, Option.getD_some] at h
   refine PQ ⟨fun x hxl => hx x (List.mem_of_mem_take hxl), fun x hxl => ?_⟩
   rw [ht, List.getLast?_concat] at hxl
   cases hxl
   exact h
theorem q_right {l : List Nat} {H : Ab} {id k : Nat} (hg : H[id]? = some (.cel 0 (flat cU l))) (hk : k ≤ l.length) (hl : l.length < 9223372036854775807) : Sh.f17 (.ms id 0 0 k l.length 1 true) H = some (.ret (.bool (decide (k = 0) || decide (l[k - 1]?.getD 0 ≠ 0))), H) := by
 unfold Sh.f17
 cases k with
 | zero => simp [AG]
 | succ k =>
  have hidx := Ew (sz := 1) (id := id) (n := k + 1) (K := .i64) (g := 0) (off := 0) (cap := l.length) (ex := true) (i := k) (by omega)
  simp only [Nat.zero_add, Nat.mul_one] at hidx
  have hld := HJ (f := cU) (id := id) (l := l) (H := H) (show A4 H id 0 = some (flat cU l) by simp [A4, hg]) (i := k) (by omega)
  have h0 : ¬ ((k + 1 : Nat) : Int) = 0 := by omega
  have hw : IntKind.i64.wrap (((k + 1 : Nat) : Int) - 1) = (k : Int) := by rw [A0] <;> omega
  have hgk : l[k]? = some l[k] := List.getElem?_eq_getElem (by omega)
  simp only [show AG (.ms id 0 0 (k + 1) l.length 1 true) = some (.int .i64 ((k + 1 : Nat) : Int)) from rfl, GMb, GMc, h0, hw, hidx, hld, Nat.add_sub_cancel, hgk, Option.getD_some, Nat.succ_ne_zero]
  by_cases h : l[k] = 0
  ·simp [h]
  ·have : ¬ (l[k] : Int) = 0 := by omega
   simp [h, this]
theorem q_cut {l : List Nat} {H : Ab} {id : Nat} (hg : H[id]? = some (.cel 0 (flat cU l))) (hl : l.length < 1152921504606846976) : Sh.f18 (.ms id 0 0 l.length l.length 1 true) H = some (.ret (.ms id 0 0 (Jp l l.length) l.length 1 true), H) := by
 unfold Sh.f18
 refine Bt (σ := Nat) (fun k => k ≤ l.length ∧ Jp l k = Jp l l.length) (fun k => [.ms id 0 0 k l.length 1 true]) (fun _ => H) (fun k => k) (fun _ => some (.ret (.ms id 0 0 (Jp l l.length) l.length 1 true), H)) (fun k rec hi hrec => ?_) l.length ⟨Nat.le_refl _, rfl⟩ (by omega)
 obtain ⟨hk, ht⟩ := hi
 unfold Sh.f4s
 simp only [AB, q_right hg hk (by omega), GMb, GMc]
 cases k with
 | zero => simp [← ht, Jp, rKN, fin, forget, F2, fgt]
 | succ k =>
  by_cases h : l[k]?.getD 0 = 0
  ·have hw : IntKind.i64.wrap (((k + 1 : Nat) : Int) - 1) = (k : Int) := by rw [A0] <;> omega
   have hsl : F0 1 (.ms id 0 0 (k + 1) l.length 1 true) none (some (.int .i64 (k : Int))) none = some (.ms id 0 0 k l.length 1 true) := by
    have : (0 : Int) ≤ (k : Int) := by omega
    simp only [F0, Bc, Option.bind_some, this, if_true, Int.toNat_natCast]
    rw [if_pos ⟨trivial, by omega, by omega, by omega⟩]
    simp
   have ht' : Jp l k = Jp l l.length := by rw [← ht]; simp [Jp, h]
   have hr := hrec k ⟨by omega, ht'⟩ (by omega)
   simp only [h, show AG (.ms id 0 0 (k + 1) l.length 1 true) = some (.int .i64 ((k + 1 : Nat) : Int)) from rfl, GMb, GMc, hw, hsl, Nat.add_sub_cancel, ne_eq, not_true_eq_false, Nat.succ_ne_zero]
   exact hr
  ·have ht' : Jp l (k + 1) = k + 1 := by simp [Jp, h]
   rw [← ht, ht']
   simp only [h, GMb, GMc, Nat.add_sub_cancel, ne_eq, not_false_eq_true, Nat.succ_ne_zero]
   simp [rKN, fin, forget, F2, fgt]
end Go.Gm
namespace Go.Gm
theorem fall_msT {α : Type} {f : α → List Aa} {sz : Nat} [hf : Sz f sz] [hp : Pl f] {H : Ab} {l : List α} {id b d cap k : Nat} {ex : Bool} (hg : A4 H id 0 = some (flat f l)) (hi : b ≤ id) (hk : k ≤ l.length) : Ft H b (d + 3) (.ms id 0 0 k cap sz ex) = some (.sl (enL f (l.take k)) .no) := by
 have h1 : ¬ id < b := by omega
 have h2 : k * sz ≤ l.length * sz := Nat.mul_le_mul_right _ hk
 have h3 : (l.take k).length = k := by simp; omega
 have h4 := Qp (f := f) (l.take k)
 rw [h3] at h4
 unfold Ft
 simp only [frz, h1, if_false, hg, Option.bind_some, List.drop_zero, Nat.zero_add, Ks, h2, if_true, N9, GI (OP (f := f) (l.take k)), flat_imm (f := f) (l.take k), h4, Option.map_some, forget, F2, fgt]
theorem wrap_u32m (t : Nat) : IntKind.u32.wrap (t : Int) = ((t % 4294967296 : Nat) : Int) := by
 simp only [IntKind.wrap, IntKind.bits, IntKind.signed]
 simp
theorem bin_shr64 (t : Nat) : Af .none .shr (.int .u64 (t : Int)) (.int .u64 32) = some (.int .u64 ((t / 4294967296 : Nat) : Int)) := by
 show some (Aa.int .u64 ((t : Int).fdiv 4294967296)) = _
 rw [Int.fdiv_eq_ediv_of_nonneg _ (by decide)]
 rfl
theorem mul_step {x m c : Nat} (hx : x < 4294967296) (hm : m < 4294967296) (hc : c < 4294967296) : c + x * m < 18446744073709551616 := by
 have h1 : x * m ≤ 4294967295 * 4294967295 := Nat.mul_le_mul (by omega) (by omega)
 omega
theorem val_single (x : Nat) : val [x] = x := by simp [val]
def Dd (l : List Nat) (m c : Nat) : Nat → List Nat × Nat
 | 0 => ([], c)
 | i + 1 => ((Dd l m c i).1 ++ [((Dd l m c i).2 + l[i]?.getD 0 * m) % 4294967296], ((Dd l m c i).2 + l[i]?.getD 0 * m) / 4294967296)
theorem mulS_ok {l : List Nat} {m c : Nat} (hx : Lim l) (hm : m < 4294967296) (hc : c < 4294967296) : ∀ i, i ≤ l.length →
  (Dd l m c i).1.length = i ∧ (Dd l m c i).2 < 4294967296 ∧ Lim (Dd l m c i).1 ∧ val (Dd l m c i).1 + 4294967296 ^ i * (Dd l m c i).2 = val (l.take i) * m + c
 | 0, _ => ⟨rfl, hc, fun x h => (by cases h), by simp [Dd, val]⟩
 | i + 1, hi => by
  obtain ⟨h1, h2, h3, h4⟩ := mulS_ok hx hm hc i (by omega)
  have hxi := hx _ (List.getElem_mem (show i < l.length by omega))
  have hg : l[i]?.getD 0 = l[i] := by rw [List.getElem?_eq_getElem (by omega)]; rfl
  have ht := mul_step hxi hm h2
  simp only [Dd, hg]
  refine ⟨by simp [h1], ?_, ?_, ?_⟩
  ·omega
  ·intro x hxx
   rcases List.mem_append.1 hxx with h | h
   ·exact h3 x h
   ·rw [List.mem_singleton.1 h]; exact Nat.mod_lt _ (by decide)
  ·rw [List.take_succ_eq_append_getElem (by omega), EL, EL, h1, List.length_take, Nat.min_eq_left (by omega)]
   have hdm := Nat.div_add_mod ((Dd l m c i).2 + l[i] * m) 4294967296
   simp only [val, Nat.mul_zero, Nat.add_zero]
   generalize ((Dd l m c i).2 + l[i] * m) / 4294967296 = q at *
   generalize ((Dd l m c i).2 + l[i] * m) % 4294967296 = r at *
   rw [Nat.pow_succ, Nat.mul_assoc, Nat.add_assoc, ← Nat.mul_add, show r + 4294967296 * q = (Dd l m c i).2 + l[i] * m by omega, Nat.mul_add, Nat.add_mul]
   rw [← Nat.add_assoc, h4, Nat.mul_assoc]
   omega
theorem q_mul {l : List Nat} {tk : Tok} {m c : Nat} (H : Ab) (hx : Lim l) (hl : l.length ≤ 1099511627776) (hm : m < 4294967296) (hc : c < 4294967296) :
  Sh.f1f (.sl (enL cU l) tk) (.int .u32 (m : Int)) (.int .u32 (c : Int)) H = some (.ret (.sl (enL cU (CA (val l * m + c))) .no), H) := by
 unfold Sh.f1f
 have hn : IntKind.i64.wrap ((l.length : Int) + 1) = ((l.length + 1 : Nat) : Int) := by rw [A0] <;> omega
 have hmk := FA (f := cU) (a := 0) (n := l.length + 1) (bytes := 4) (H := H) (by omega) (by omega)
 simp only [show cU 0 = [Aa.int .u32 0] from rfl] at hmk
 have hcc : AZ .u64 (.int .u32 (c : Int)) = some (.int .u64 (c : Int)) := by rw [BU, CI (by omega) (by omega)]
 have hcm : AZ .u64 (.int .u32 (m : Int)) = some (.int .u64 (m : Int)) := by rw [BU, CI (by omega) (by omega)]
 simp only [GMb, GMc, A3, hn, hmk, hcc]
 refine Cp l.length (fun i => [.sl (enL cU l) tk, .int .u32 (m : Int), .ms H.length 0 0 (l.length + 1) (l.length + 1) 1 true, .int .u64 ((Dd l m c i).2 : Int), .sl (enL cU l) tk, .int .i64 (l.length : Int), .int .i64 (i : Int)])
  (fun i => H ++ [.cel 0 (flat cU ((Dd l m c i).1 ++ List.replicate (l.length + 1 - i) 0))]) _ (by omega) (fun rec i hi => ?_) (fun rec => ?_)
 ·obtain ⟨h1, h2, h3, h4⟩ := mulS_ok hx hm hc i (by omega)
  have hi' : (i : Int) < (l.length : Int) := by omega
  have hxi := hx _ (List.getElem_mem hi)
  have hg : l[i]?.getD 0 = l[i] := by rw [List.getElem?_eq_getElem hi]; rfl
  have ht := mul_step hxi hm h2
  have hidx := Ew (sz := 1) (id := H.length) (n := l.length + 1) (K := .i64) (g := 0) (off := 0) (cap := l.length + 1) (ex := true) (i := i) (by omega)
  simp only [Nat.zero_add, Nat.mul_one] at hidx
  obtain ⟨t, htt⟩ : ∃ t, t = (Dd l m c i).2 + l[i] * m := ⟨_, rfl⟩
  have hP : l[i] * m ≤ 4294967295 * 4294967295 := Nat.mul_le_mul (by omega) (by omega)
  have w1 : AZ .u64 (.int .u32 (l[i] : Int)) = some (.int .u64 (l[i] : Int)) := by rw [BU, CI (by omega) (by omega)]
  have w2 : IntKind.u64.wrap ((l[i] : Int) * (m : Int)) = ((l[i] * m : Nat) : Int) := by rw [← Int.natCast_mul, CI (by omega) (by omega)]
  have w3 : IntKind.u64.wrap (((Dd l m c i).2 : Int) + ((l[i] * m : Nat) : Int)) = (t : Int) := by rw [CI] <;> omega
  have w4 : AZ .u32 (.int .u64 (t : Int)) = some (.int .u32 ((t % 4294967296 : Nat) : Int)) := by rw [BU, wrap_u32m]
  have w5 : Af .none .shr (.int .u64 (t : Int)) (.int .u64 32) = some (.int .u64 ((t / 4294967296 : Nat) : Int)) := bin_shr64 t
  have w6 : IntKind.i64.wrap ((i : Int) + 1) = ((i + 1 : Nat) : Int) := by rw [A0] <;> omega
  have hst := FG (f := cU) (sz := 1) (l := (Dd l m c i).1 ++ List.replicate (l.length + 1 - i) 0) (i := i) (a := t % 4294967296) (v := .int .u32 ((t % 4294967296 : Nat) : Int)) (H := H ++ [Blk.cel 0 (flat cU ((Dd l m c i).1 ++ List.replicate (l.length + 1 - i) 0))]) (id := H.length) (AY AD) (by simp; omega) rfl
  have hset : ((Dd l m c i).1 ++ List.replicate (l.length + 1 - i) 0).set i (t % 4294967296) = (Dd l m c (i + 1)).1 ++ List.replicate (l.length + 1 - (i + 1)) 0 := by
   rw [show l.length + 1 - i = (l.length + 1 - (i + 1)) + 1 by omega, List.replicate_succ, List.set_append_right _ _ (by omega), h1, Nat.sub_self, List.set_cons_zero]
   simp [Dd, hg, ← htt]
  rw [Nat.mul_one, CK AD, Cd, hset] at hst
  unfold Sh.f41
  simp only [GMb, GMc, Az, hi', Av hi, Au, List.getElem?_cons_zero, w1, hcm, w2, w3, w4, hidx, hst, w5, w6]
  simp only [Dd, hg, ← htt]
 ·obtain ⟨h1, h2, h3, h4⟩ := mulS_ok hx hm hc l.length (Nat.le_refl _)
  have hidx := Ew (sz := 1) (id := H.length) (n := l.length + 1) (K := .i64) (g := 0) (off := 0) (cap := l.length + 1) (ex := true) (i := l.length) (by omega)
  simp only [Nat.zero_add, Nat.mul_one] at hidx
  have w4 : AZ .u32 (.int .u64 ((Dd l m c l.length).2 : Int)) = some (.int .u32 ((Dd l m c l.length).2 : Int)) := by rw [BU, De (by omega) (by omega)]
  have hst := FG (f := cU) (sz := 1) (l := (Dd l m c l.length).1 ++ List.replicate (l.length + 1 - l.length) 0) (i := l.length) (a := (Dd l m c l.length).2) (v := .int .u32 ((Dd l m c l.length).2 : Int)) (H := H ++ [Blk.cel 0 (flat cU ((Dd l m c l.length).1 ++ List.replicate (l.length + 1 - l.length) 0))]) (id := H.length) (AY AD) (by simp; omega) rfl
  have hset : ((Dd l m c l.length).1 ++ List.replicate (l.length + 1 - l.length) 0).set l.length (Dd l m c l.length).2 = (Dd l m c l.length).1 ++ [(Dd l m c l.length).2] := by
   rw [show l.length + 1 - l.length = 1 by omega, List.set_append_right _ _ (by omega), h1, Nat.sub_self]
   rfl
  rw [Nat.mul_one, CK AD, Cd, hset] at hst
  obtain ⟨o, ho⟩ : ∃ o, o = (Dd l m c l.length).1 ++ [(Dd l m c l.length).2] := ⟨_, rfl⟩
  have hol : o.length = l.length + 1 := by rw [ho]; simp [h1]
  have hox : Lim o := by
   intro x hxx
   rw [ho] at hxx
   rcases List.mem_append.1 hxx with h | h
   ·exact h3 x h
   ·rw [List.mem_singleton.1 h]; exact h2
  have hov : val o = val l * m + c := by
   rw [ho, EL, h1, val_single]
   rw [List.take_length] at h4
   exact h4
  rw [← ho] at hst
  have hct := q_cut (l := o) (H := H ++ [Blk.cel 0 (flat cU o)]) (id := H.length) AD (by omega)
  have htk := QQ hox o.length (Nat.le_refl _)
  rw [List.take_length, hov] at htk
  have hfa := fall_msT (f := cU) (sz := 1) (b := H.length) (d := 5) (cap := o.length) (ex := true) (k := Jp o o.length) (l := o) (H := H ++ [Blk.cel 0 (flat cU o)]) (id := H.length) (AY AD) (Nat.le_refl _) (topK_le o _)
  rw [htk] at hfa
  rw [hol] at hct hfa
  unfold Sh.f41
  simp only [GMb, GMc, Az, Int.lt_irrefl, A3, w4, hidx, hst, hct, DO, hfa, Option.map_some]
end Go.Gm
namespace Go.Gm
end Go.Gm
namespace Go.Gm
theorem decN_lib (n : Nat) : Lib.decDigits n = AU n := by
 induction n using Nat.strongRecOn with
 | ind n ih =>
  unfold Lib.decDigits AU
  split
  ·rfl
  ·rw [ih (n / 10) (by omega)]
theorem decN_pos (n : Nat) : 0 < (AU n).length := by
 unfold AU
 split <;> simp
section
variable {H : Ab} {id g i : Nat} {L : List (List UInt8)}
end
def Turn (P L : List (List UInt8)) (i : Nat) : Prop := L.length = P.length ∧ ∀ k, k < P.length → L[k]? = if k < i ∨ P.length - i ≤ k then P[P.length - 1 - k]? else P[k]?
theorem Turn.step {P L : List (List UInt8)} {i : Nat} (h : Turn P L i) (hi : i < P.length - 1 - i) (hl : i < L.length) (hj : P.length - 1 - i < L.length) : Turn P ((L.set i L[P.length - 1 - i]).set (P.length - 1 - i) L[i]) (i + 1) := by
 obtain ⟨h1, h2⟩ := h
 refine ⟨by simp [h1], fun k hk => ?_⟩
 have ei := h2 i (by omega)
 have ej := h2 (P.length - 1 - i) (by omega)
 rw [List.getElem?_eq_getElem hl, if_neg (by omega)] at ei
 rw [List.getElem?_eq_getElem hj, if_neg (by omega)] at ej
 by_cases k1 : k = P.length - 1 - i
 ·subst k1
  rw [List.getElem?_set_self (by simp; omega), if_pos (by omega), ei]
  congr 1
  omega
 ·rw [List.getElem?_set_ne (Ne.symm k1)]
  by_cases k2 : k = i
  ·subst k2
   rw [List.getElem?_set_self hl, if_pos (by omega), ej]
  ·rw [List.getElem?_set_ne (Ne.symm k2), h2 k hk]
   by_cases k3 : k < i ∨ P.length - i ≤ k
   ·rw [if_pos k3, if_pos (by omega)]
   ·rw [if_neg k3, if_neg (by omega)]
theorem Turn.done {P L : List (List UInt8)} {i : Nat} (h : Turn P L i) (hi : ¬ i < P.length - 1 - i) : L = P.reverse := by
 apply List.ext_getElem?
 intro k
 by_cases hk : k < P.length
 ·rw [h.2 k hk, List.getElem?_reverse hk]
  split
  ·rfl
  ·congr 1
   omega
 ·rw [List.getElem?_eq_none (by rw [h.1]; omega), List.getElem?_eq_none (by simp; omega)]
end Go.Gm
namespace Go.Gm
def padk : Nat → Nat → List UInt8
 | 0, _ => []
 | k + 1, r => padk k (r / 10) ++ [UInt8.ofNat (48 + r % 10)]
theorem Dp {n : Nat} (h : n < 10) : AU n = [UInt8.ofNat (48 + n)] := by unfold AU; rw [dif_pos h]
theorem Dq {n : Nat} (h : ¬ n < 10) : AU n = AU (n / 10) ++ [UInt8.ofNat (48 + n % 10)] := by
 conv => lhs; unfold AU
 rw [dif_neg h]
theorem RJ {q : Nat} (hq : 0 < q) : ∀ k r, r < 10 ^ k → AU (q * 10 ^ k + r) = AU q ++ padk k r
 | 0, r, h => by
  have : r = 0 := by simpa using h
  subst this
  simp [padk]
 | k + 1, r, h => by
  have h2 : r / 10 < 10 ^ k := by
   rw [Nat.div_lt_iff_lt_mul (by omega), ← Nat.pow_succ]; exact h
  have hp : 1 ≤ 10 ^ k := Nat.pow_pos (by omega)
  have hqk : 1 ≤ q * 10 ^ k := Nat.mul_pos hq hp
  have e : q * 10 ^ (k + 1) + r = 10 * (q * 10 ^ k) + r := by rw [Nat.pow_succ]; rw [← Nat.mul_assoc]; omega
  rw [e, Dq (by omega), show (10 * (q * 10 ^ k) + r) / 10 = q * 10 ^ k + r / 10 by omega, show (10 * (q * 10 ^ k) + r) % 10 = r % 10 by omega, RJ hq k _ h2, padk]
  simp
theorem RK (n : Nat) (h : n ≠ 0) : ∃ c r, AU n = c :: r ∧ c ≠ 48 := by
 induction n using Nat.strongRecOn with
 | ind n ih =>
  by_cases hn : n < 10
  ·refine ⟨_, _, Dp hn, fun e => ?_⟩
   have := congrArg UInt8.toNat e
   rw [UInt8.toNat_ofNat_of_lt' (show 48 + n < 256 by omega)] at this
   have h48 : (48 : UInt8).toNat = 48 := rfl
   omega
  ·obtain ⟨c, r, h1, h2⟩ := ih (n / 10) (by omega) (by omega)
   exact ⟨c, r ++ [UInt8.ofNat (48 + n % 10)], by rw [Dq hn, h1]; rfl, h2⟩
theorem pow10_up {a b : Nat} (h : a ≤ b) : 10 ^ a ≤ 10 ^ b := Nat.pow_le_pow_right (by omega) h
end Go.Gm
namespace Go.Gm
def Fy (c : UInt8) : Bool := decide (48 ≤ c.toNat) && decide (c.toNat ≤ 57)
def FQ (s : List UInt8) : Nat := (s.takeWhile Fy).length
theorem digN_le (s : List UInt8) : FQ s ≤ s.length := (List.takeWhile_sublist Fy).length_le
theorem RF (c : UInt8) (s : List UInt8) : FQ (c :: s) = if Fy c then FQ s + 1 else 0 := by
 unfold FQ
 rw [List.takeWhile_cons]
 split <;> simp
theorem byteAt (s : List UInt8) (pos : Nat) (h : pos < s.length) : ((⟨s.toArray⟩ : ByteArray)[pos]'(by show pos < s.toArray.size; simpa using h)) = s[pos] := by
 show s.toArray[pos] = s[pos]
 simp
theorem idx_from (s : List UInt8) : ∀ (f pos : Nat), pos ≤ s.length → s.length - pos ≤ f → Lib.idxFuncFrom It true ⟨s.toArray⟩ f pos = if pos + FQ (s.drop pos) < s.length then ((pos + FQ (s.drop pos) : Nat) : Int) else -1
 | 0, pos, h1, h2 => by
  have : pos = s.length := by omega
  subst this
  rw [Lib.idxFuncFrom, if_neg (by omega)]
 | f + 1, pos, h1, h2 => by
  have hsz : (⟨s.toArray⟩ : ByteArray).size = s.length := by simp [ByteArray.size]
  unfold Lib.idxFuncFrom
  rw [hsz]
  by_cases hp : pos < s.length
  ·rw [if_pos hp, List.drop_eq_getElem_cons hp, RF]
   have hb := byteAt s pos hp
   by_cases ha : s[pos].toNat < 128
   ·rw [decode_ascii ⟨s.toArray⟩ pos (by omega) (by rw [hb]; exact ha), hb]
    simp only []
    by_cases hd : Fy s[pos] = true
    ·have hnd : It s[pos].toNat = false := by
      simp only [Fy, Bool.and_eq_true, decide_eq_true_eq] at hd
      simp only [It, Bool.or_eq_false_iff, decide_eq_false_iff_not]
      omega
     rw [hnd, if_neg (by simp), if_pos hd, idx_from s f (pos + 1) (by omega) (by omega)]
     rw [show pos + (FQ (s.drop (pos + 1)) + 1) = pos + 1 + FQ (s.drop (pos + 1)) by omega]
    ·have hnd : It s[pos].toNat = true := by
      simp only [Fy, Bool.and_eq_true, decide_eq_true_eq] at hd
      simp only [It, Bool.or_eq_true, decide_eq_true_eq]
      omega
     rw [hnd, if_pos rfl, if_neg hd, if_pos (by omega)]
     rfl
   ·obtain ⟨k1, k2⟩ := decode_high ⟨s.toArray⟩ pos (by omega) (by rw [hb]; omega)
    have hd : ¬ Fy s[pos] = true := by
     simp only [Fy, Bool.and_eq_true, decide_eq_true_eq]
     omega
    have hnd : It (Utf8.decode ⟨s.toArray⟩ pos).1 = true := by
     simp only [It, Bool.or_eq_true, decide_eq_true_eq]
     omega
    rw [hnd, if_pos rfl, if_neg hd, if_pos (by omega)]
    rfl
  ·rw [if_neg hp, if_neg (by omega)]
theorem idx_dig (s : List UInt8) : Lib.idxFunc It true ⟨s.toArray⟩ = if FQ s < s.length then (FQ s : Int) else -1 := by
 have hsz : (⟨s.toArray⟩ : ByteArray).size = s.length := by simp [ByteArray.size]
 have := idx_from s s.length 0 (Nat.zero_le _) (by omega)
 rw [Nat.zero_add, List.drop_zero] at this
 rw [Lib.idxFunc, hsz, this]
def digA (s : List UInt8) (at' : Int) : Nat := if at' < 0 then 0 else FQ (s.drop at'.toNat)
theorem q_digits (s : List UInt8) (at' : Int) (H : Ab) (hs : s.length < 1152921504606846976) : Sh.f1e (.str s) (.int .i64 at') H = some (.ret (.int .i64 (digA s at')), H) := by
 unfold Sh.f1e digA
 by_cases h0 : at' < 0
 ·simp only [GMb, GMc, h0, if_true]
  rfl
 ·obtain ⟨a, rfl⟩ : ∃ a : Nat, at' = (a : Int) := ⟨at'.toNat, by omega⟩
  simp only [GMb, GMc, h0, if_false, Es, Int.toNat_natCast]
  by_cases h1 : a ≤ s.length
  ·have h1' : ¬ ((a : Int) > (s.length : Int)) := by omega
   have hsl : Br (.str s) (some (.int .i64 (a : Int))) none = some (.str (s.drop a)) := by
    simp [Br, Bc, h1]
   have hi : Sh.f15 (.str (s.drop a)) (.fn 120 []) H = some (.ret (.int .i64 (if FQ (s.drop a) < (s.drop a).length then (FQ (s.drop a) : Int) else -1)), H) := by
    unfold Sh.f15
    simp only [idx_dig]
   have hle := digN_le (s.drop a)
   simp only [h1', GMb, GMc, hsl]
   by_cases hd : FQ (s.drop a) < (s.drop a).length
   ·have : ¬ ((FQ (s.drop a) : Int) < 0) := by omega
    rw [hi, if_pos hd]
    simp only [this, GMb, GMc]
   ·have e : FQ (s.drop a) = (s.drop a).length := by omega
    rw [hi, if_neg hd]
    simp only [show ((-1 : Int) < 0) from by decide, GMb, GMc, Es, ← e]
  ·have h1' : (a : Int) > (s.length : Int) := by omega
   rw [List.drop_eq_nil_of_le (by omega)]
   simp only [h1', GMb, GMc]
   rfl
end Go.Gm
namespace Go.Gm
def Fu (s : List UInt8) : Nat := s.foldl (fun v c => v * 10 + (c.toNat - 48)) 0
theorem KO (s : List UInt8) (c : UInt8) : Fu (s ++ [c]) = Fu s * 10 + (c.toNat - 48) := by simp [Fu]
theorem digN_all {s : List UInt8} (h : FQ s = s.length) : ∀ c ∈ s, Fy c = true := by
 induction s with
 | nil => intro c hc; cases hc
 | cons x s ih =>
  rw [RF] at h
  by_cases hx : Fy x = true
  ·rw [if_pos hx, List.length_cons] at h
   intro c hc
   rcases List.mem_cons.1 hc with e | e
   ·rw [e]; exact hx
   ·exact ih (by omega) c e
  ·rw [if_neg hx] at h
   simp at h
theorem FB (c : UInt8) : Fy c = true ↔ 48 ≤ c.toNat ∧ c.toNat ≤ 57 := by simp [Fy]
theorem decV_lt {s : List UInt8} (h : ∀ c ∈ s, Fy c = true) : ∀ i, i ≤ s.length → Fu (s.take i) < 10 ^ i
 | 0, _ => by simp [Fu]
 | i + 1, hi => by
  have := decV_lt h i (by omega)
  have hc := (FB _).1 (h _ (List.getElem_mem (show i < s.length by omega)))
  rw [List.take_succ_eq_append_getElem (by omega), KO, Nat.pow_succ]
  omega
def MX (s : List UInt8) : Bool := match s with
 | c :: _ => c == 45
 | [] => false
def BB (s : List UInt8) : List UInt8 := if MX s then s.drop 1 else s
def Ox (s : List UInt8) : Bool := BB s == [] || decide (FQ (BB s) < (BB s).length) || ((BB s)[0]?.getD 0 == 48 && !(s == [48]))
def Hy (s : List UInt8) : Int := if Ox s then 2 else if (BB s).length > 400 then 4 else 0
def EN (s : List UInt8) : Int := if Hy s = 0 then (if MX s then -(Fu (BB s) : Int) else Fu (BB s)) else 0
theorem q_cutprefix (s : List UInt8) (H : Ab) (hs : s.length < 1152921504606846976) : Sh.f1d (.str s) (.str [45]) H = some (.ret (.tup [.str (BB s), .bool (MX s)]), H) := by
 have hp : Sh.f1c (.str s) (.str [45]) H = some (.ret (.bool (MX s)), H) := by
  unfold Sh.f1c
  cases s with
  | nil => simp [B6, MX]
  | cons c r =>
   have h1 : ((c :: r).length : Int) ≥ (([45] : List UInt8).length : Int) := by simp; omega
   have h2 : Br (.str (c :: r)) none (some (.int .i64 (([45] : List UInt8).length : Int))) = some (.str [c]) := by
    rw [Hr (by simp)]; rfl
   simp only [Es, GMb, GMc, h1, h2, K3]
   simp [MX]
 unfold Sh.f1d Sh.f2h
 cases hb : MX s with
 | false => simp only [GMb, GMc, hp, hb, D0, ER, BB, Bool.false_eq_true, if_false]
 | true =>
  have h2 : Br (.str s) (some (.int .i64 (([45] : List UInt8).length : Int))) none = some (.str (s.drop 1)) := by
   refine Df (l := 1) ?_
   cases s with
   | nil => cases hb
   | cons c r => simp
  simp only [GMb, GMc, hp, hb, Es, h2, D0, ER, BB, if_true]
theorem next_dig {B : Ab} {d : List UInt8} {i : Nat} (h : i < d.length) (hd : d[i].toNat < 128) : Mn (.ptr B.length 0 0) (B ++ [.iter d i]) = some (.tup [.bool true, .int .i64 (i : Int), .int .i32 (d[i].toNat : Int)], B ++ [.iter d (i + 1)]) := by
 have hb := byteAt d i h
 have hdec := decode_ascii ⟨d.toArray⟩ i (by show i < d.toArray.size; simpa using h) (by rw [hb]; exact hd)
 simp only [Mn, List.getElem?_concat_length, h, if_true, hdec, hb, Cd]
theorem next_end {B : Ab} {d : List UInt8} : Mn (.ptr B.length 0 0) (B ++ [.iter d d.length]) = some (.tup [.bool false], B ++ [.iter d d.length]) := by
 simp [Mn]
theorem fin_big {H G : Ab} {zb : List Aa} {neg : Bool} {l : List Nat} {tk : Tok} {e : Int} (hz : zb.length = 2) :
  (bP H (AN (Al 2 (.ptr H.length 0 0) (.agg [.bool neg, .sl (enL cU l) tk]) (H ++ (.cel 0 zb :: G)))) fun _ H40 => (La [Ad true 2 (.ptr H.length 0 0) H40, some (.int .i64 e)]).bind fun x => rPN H x H40) = some (.ret (.tup [.agg [.bool neg, .sl (enL cU l) .no], .int .i64 e]), H) := by
 have h1 : Al 2 (.ptr H.length 0 0) (.agg [.bool neg, .sl (enL cU l) tk]) (H ++ (.cel 0 zb :: G)) = some (H ++ (.cel 0 [.bool neg, .sl (enL cU l) tk] :: G)) := by
  rw [FH, MU (vs := [.bool neg, .sl (enL cU l) tk]) rfl hz rfl]
  rfl
 have h2 : Ad true 2 (.ptr H.length 0 0) (H ++ (.cel 0 [.bool neg, .sl (enL cU l) tk] :: G)) = some (.agg [.bool neg, .sl (enL cU l) tk]) := by
  rw [GP]; rfl
 simp only [h1, GMb, GMc, h2, resM_eq, MZ, Ps, Option.map_some, DO, Fh, C4, Dn, KK, Gx, HP, M7, Qk, Ef]
theorem big_zero : Aa.agg [.bool false, .sl (enL cU []) .no] = big 0 := by
 rw [big_eq, show (0 : Int).natAbs = 0 from rfl, KF]
 rfl
theorem big_of {neg : Bool} {n : Nat} (h : neg = true → n ≠ 0) : Aa.agg [.bool neg, .sl (enL cU (CA n)) .no] = big (if neg then -(n : Int) else n) := by
 have h1 := big_sgn neg n
 have h2 : sgn neg n = neg := by
  unfold sgn
  cases neg with
  | false => rfl
  | true => simp [h rfl]
 rw [h2] at h1
 rw [h1]
 rfl
theorem Qu : A6 (some [(.bool false), (.sl [] .tight)]) [] = some (.agg [.bool false, .sl (enL cU []) .tight]) := rfl
theorem build_both {neg : Bool} {es : List (List Aa)} {tk : Tok} : A6 (some [(.bool false), (.sl [] .tight)]) [(0, 1, .bool neg), (1, 1, .sl es tk)] = some (.agg [.bool neg, .sl es tk]) := by simp [A6, GV, DQ]
theorem syn_dig {s : List UInt8} (h : Ox s = false) : BB s ≠ [] ∧ FQ (BB s) = (BB s).length ∧ ((BB s)[0]?.getD 0 = 48 → s = [48]) := by
 unfold Ox at h
 simp only [Bool.or_eq_false_iff, Bool.and_eq_false_iff, beq_eq_false_iff_ne, decide_eq_false_iff_not, ne_eq, Bool.not_eq_false', beq_iff_eq] at h
 have := digN_le (BB s)
 refine ⟨h.1.1, by omega, fun h0 => ?_⟩
 rcases h.2 with h3 | h3
 ·exact absurd h0 h3
 ·exact h3
theorem decV_cons (c : UInt8) (s : List UInt8) : Fu (c :: s) = (c.toNat - 48) * 10 ^ s.length + Fu s := by
 have key : ∀ (s : List UInt8) (v : Nat), s.foldl (fun v c => v * 10 + (c.toNat - 48)) v = v * 10 ^ s.length + Fu s := by
  intro s
  induction s with
  | nil => intro v; simp [Fu]
  | cons x s ih =>
   intro v
   rw [List.foldl_cons, ih, List.length_cons, Nat.pow_succ]
   have e : Fu (x :: s) = (x.toNat - 48) * 10 ^ s.length + Fu s := by
    have := ih (0 * 10 + (x.toNat - 48))
    rw [Nat.zero_mul, Nat.zero_add] at this
    unfold Fu
    rw [List.foldl_cons, Nat.zero_mul, Nat.zero_add]
    exact this
   rw [e, Nat.add_mul, Nat.mul_assoc v 10, Nat.mul_comm 10]
   omega
 have := key s (0 * 10 + (c.toNat - 48))
 rw [Nat.zero_mul, Nat.zero_add] at this
 conv => lhs; unfold Fu
 rw [List.foldl_cons, Nat.zero_mul, Nat.zero_add]
 exact this
theorem decV_ne {s : List UInt8} (h : Ox s = false) (hn : MX s = true) : Fu (BB s) ≠ 0 := by
 obtain ⟨h1, h2, h3⟩ := syn_dig h
 cases hd : BB s with
 | nil => exact absurd hd h1
 | cons c r =>
  rw [decV_cons]
  have hc := digN_all h2 c (by rw [hd]; simp)
  rw [FB] at hc
  have h48 : c.toNat ≠ 48 := fun e => by
   have : c = 48 := UInt8.toNat.inj e
   have := h3 (by rw [hd, this]; rfl)
   rw [this] at hn
   cases hn
  have : 1 ≤ 10 ^ r.length := Nat.pow_pos (by omega)
  have : 1 ≤ (c.toNat - 48) * 10 ^ r.length := Nat.mul_pos (by omega) this
  omega
theorem wrap_i32 {n : Int} (h0 : -2147483648 ≤ n) (h : n ≤ 2147483647) : IntKind.i32.wrap n = n := by
 have h1 : IntKind.i32.bits = 32 := rfl
 have h2 : IntKind.i32.signed = true := rfl
 unfold IntKind.wrap
 simp only [h1, h2, Bool.true_and]
 split <;> rename_i hc <;> simp at hc <;> omega
theorem wrap_dig {c : UInt8} (h : Fy c = true) : IntKind.i32.wrap ((c.toNat : Int) - 48) = ((c.toNat - 48 : Nat) : Int) := by
 rw [FB] at h
 rw [wrap_i32 (by omega) (by omega)]
 omega
theorem lims_short2 {n m : Nat} (h : n < 10 ^ m) (hm : m ≤ 4096) : (CA n).length ≤ 4096 := PR (n := n) (Nat.lt_of_lt_of_le (m := 10 ^ m) h (pow10_up (a := m) (b := 4096) hm))
theorem q_parse (s : List UInt8) (H : Ab) (hs : s.length < 1152921504606846976) : Sh.f1g (.str s) H = some (.ret (.tup [big (EN s), .int .i64 (Hy s)]), H) := by
 unfold Sh.f1g
 have htl : (BB s).length ≤ s.length := by unfold BB; split <;> simp
 have hcp := q_cutprefix s (H ++ [Blk.cel 0 [.bool false, .sl [] .tight]]) hs
 have hdg := q_digits (BB s) 0 (H ++ [Blk.cel 0 [.bool false, .sl [] .tight]]) (by omega)
 have hd0 : (digA (BB s) 0 : Int) = (FQ (BB s) : Int) := by simp [digA]
 rw [hd0] at hdg
 simp only [alloc_eq (cs := [.bool false, .sl [] .tight]) rfl, BP, hcp, GMb, GMc, D0, ER, K3]
 have tail : Sh.f42 H (.ptr H.length 0 0) (.str (BB s)) (.bool (MX s)) (.bool (Ox s)) (H ++ [Blk.cel 0 [.bool false, .sl [] .tight]]) = some (.ret (.tup [big (EN s), .int .i64 (Hy s)]), H) := by
  unfold Sh.f42
  cases hsyn : Ox s with
  | true =>
   have hE : Hy s = 2 := by simp [Hy, hsyn]
   have hZ : EN s = 0 := by simp [EN, hE]
   rw [hE, hZ, ← big_zero]
   simp only [GMb, GMc, Qu]
   exact fin_big rfl
  | false =>
   obtain ⟨n1, n2, n3⟩ := syn_dig hsyn
   simp only [GMb, GMc, Es]
   by_cases hl : (BB s).length > 400
   ·have hl' : ((BB s).length : Int) > 400 := by omega
    have hE : Hy s = 4 := by simp [Hy, hsyn, hl]
    have hZ : EN s = 0 := by simp [EN, hE]
    rw [hE, hZ, ← big_zero]
    simp only [hl', GMb, GMc, Qu]
    exact fin_big rfl
   ·have hl' : ¬ ((BB s).length : Int) > 400 := by omega
    have hE : Hy s = 0 := by simp [Hy, hsyn, hl]
    have hZ : EN s = (if MX s then -(Fu (BB s) : Int) else Fu (BB s)) := by simp [EN, hE]
    have hne := decV_ne hsyn
    have hall := digN_all n2
    have hlt := decV_lt hall
    rw [hE, hZ, ← big_of (neg := MX s) hne]
    generalize hd : BB s = d at *
    simp only [hl', GMb, GMc]
    have hrg : L9 (.str d) (H ++ [Blk.cel 0 [.bool false, .sl [] .tight]]) = some (.ptr (H.length + 1) 0 0, H ++ [.cel 0 [.bool false, .sl [] .tight]] ++ [.iter d 0]) := by simp [L9]
    simp only [hrg, GMb, GMc]
    have hBl : (H ++ [Blk.cel 0 [.bool false, .sl [] .tight]]).length = H.length + 1 := by simp
    obtain ⟨tkf, htk⟩ : ∃ tkf : Nat → Tok, tkf = fun i => if i = 0 then .tight else .no := ⟨_, rfl⟩
    have key := Cp (G := fun rec2 vs H1 => Sh.f2v H rec2 (ag vs 0) (ag vs 1) (ag vs 2) (ag vs 3) H1) d.length (fun i => [.ptr H.length 0 0, .bool (MX s), .sl (enL cU (CA (Fu (d.take i)))) (tkf i), .ptr (H.length + 1) 0 0])
     (fun i => H ++ [.cel 0 [.bool false, .sl [] .tight]] ++ [.iter d i]) (some (.ret (.tup [.agg [.bool (MX s), .sl (enL cU (CA (Fu d))) .no], .int .i64 0]), H)) (by omega) (fun rec i hi => ?_) (fun rec => ?_)
    ·rw [List.take_zero, show Fu [] = 0 from rfl, KF, htk] at key
     exact key
    ·have hdi := hall _ (List.getElem_mem hi)
     have hdi2 := (FB _).1 hdi
     have hnx := next_dig (B := H ++ [Blk.cel 0 [.bool false, .sl [] .tight]]) hi (by omega)
     rw [hBl] at hnx
     have hw := wrap_dig hdi
     have hcv : AZ .u32 (.int .i32 ((d[i].toNat - 48 : Nat) : Int)) = some (.int .u32 ((d[i].toNat - 48 : Nat) : Int)) := by rw [BU, De (by omega) (by omega)]
     have hsh := lims_short2 (hlt i (by omega)) (by omega)
     have hml := fun H => q_mul (l := CA (Fu (d.take i))) (tk := tkf i) (m := 10) (c := d[i].toNat - 48) H (lim_lims _) (by omega) (by omega) (by omega)
     simp only [GA, ← KO, ← List.take_succ_eq_append_getElem hi, show ((10 : Nat) : Int) = 10 from rfl] at hml
     have htk1 : tkf (i + 1) = .no := by rw [htk]; rfl
     unfold Sh.f2v
     simp only [AB, Az, hnx, GMb, GMc, D0, show ∀ (x y z : Aa), Ar 2 (.tup [x, y, z]) = some z from fun _ _ _ => rfl, show ∀ (x y z : Aa), Ar 0 (.tup [x, y, z]) = some x from fun _ _ _ => rfl, hw, hcv, hml, htk1]
    ·have hnx := next_end (B := H ++ [Blk.cel 0 [.bool false, .sl [] .tight]]) (d := d)
     rw [hBl] at hnx
     unfold Sh.f2v
     simp only [AB, Az, hnx, GMb, GMc, show ∀ (x : Aa), Ar 0 (.tup [x]) = some x from fun _ => rfl, build_both, List.take_length]
     rw [List.append_assoc H]
     exact fin_big rfl
 by_cases h0 : BB s = []
 ·have hsyn : Ox s = true := by simp [Ox, h0]
  rw [hsyn] at tail
  simp only [h0, beq_self_eq_true, GMb, GMc, AB, Az] at tail ⊢
  exact tail
 ·have hb : (BB s == []) = false := by simpa using h0
  simp only [hb, GMb, GMc, hdg, Es]
  by_cases hlt : FQ (BB s) < (BB s).length
  ·have hlt' : (FQ (BB s) : Int) < ((BB s).length : Int) := by omega
   have hsyn : Ox s = true := by simp [Ox, hlt]
   rw [hsyn] at tail
   simp only [hlt', GMb, GMc, AB, Az]
   exact tail
  ·have hlt' : ¬ (FQ (BB s) : Int) < ((BB s).length : Int) := by omega
   obtain ⟨c, r, hcr⟩ := List.exists_cons_of_ne_nil h0
   have hix : Dl (.str (BB s)) (.int .i64 0) = some (.int .u8 (c.toNat : Int)) := by rw [hcr]; exact idx_str0
   have hsyn : Ox s = ((c == 48) && !(s == [48])) := by
    simp only [Ox, hb, decide_eq_false hlt, Bool.false_or]
    rw [hcr]
    rfl
   have hcc : decide ((c.toNat : Int) = 48) = (c == 48) := by
    rw [Bool.eq_iff_iff]
    simp only [decide_eq_true_eq, beq_iff_eq]
    constructor
    ·intro h
     exact UInt8.toNat.inj (show c.toNat = (48 : UInt8).toNat from by have : (48 : UInt8).toNat = 48 := rfl; omega)
    ·intro h; rw [h]; rfl
   rw [hsyn] at tail
   simp only [hlt', GMb, GMc, hix, hcc, bin_sneq]
   cases hc48 : (c == 48) with
   | false =>
    rw [hc48, Bool.false_and] at tail
    simp only [GMb, GMc, AB, Az]
    exact tail
   | true =>
    rw [hc48, Bool.true_and] at tail
    simp only [GMb, GMc, AB, Az]
    exact tail
end Go.Gm
namespace Go.Gm
def hv (e : Int × List UInt8) : Aa := Qc e.1 e.2
def Me (er : Er) (v : Aa) : Res := match er with
 | none => .ret v
 | some e => .pan (hv e)
@[simp] theorem Bz (v : Aa) : Me none v = .ret v := (rfl)
@[simp] theorem Bo (e : Int × List UInt8) (v : Aa) : Me (some e) v = .pan (hv e) := (rfl)
theorem GF (b : List UInt8) (a : Nat) (s : List UInt8) : NR b a s = hv (FF b a s) := by
 unfold NR hv FF; split <;> rfl
section
variable {H : Ab} {p a : Nat} {b : List UInt8} {r : List Aa}
theorem DE (h : Lx H p b a r) (s : List UInt8) : Sh.f1 (.ptr p 0 0) (.str s) H = some (.pan (hv (FF b a s)), H) := by
 rw [KE h, ← GF]; rfl
theorem lx_endS (h : Lx H p b a r) (ha : a ≤ b.length) (hb : b.length < 1152921504606846976) (rest : List UInt8) (hr : rest.length ≤ 1000000) :
  Sh.fg (.ptr p 0 0) (.str rest) H = some (Me (HQ b a rest).1 (.tup []), AK H p b r (HQ b a rest).2) := by
 rw [lx_end h ha hb rest hr]
 unfold endO HQ eolN
 by_cases e : a = b.length
 ·have hs := BG h
  rw [e] at hs
  simp only [e, if_true, Bz, hs]
 ·simp only [if_neg e]
  cases hs : A8 b (crN b a) [10] with
  | true => simp only [if_true, Bz]
  | false => simp only [Bool.false_eq_true, if_false, Bo, GF]
theorem Mw (h : Lx H p b a r) (ha : a ≤ b.length) (hb : b.length < 1152921504606846976) (s rest : List UInt8) (hs : s.length ≤ 1000000) (hr : rest.length ≤ 1000000) :
  Sh.f3 (.ptr p 0 0) (.str s) (.str rest) H = some (Me (BD b a s rest).1 (.tup []), AK H p b r (BD b a s rest).2) := by
 rw [lx_must h ha hb s rest hs hr]
 unfold mustO BD GQ
 by_cases e : cpN (b.drop a) s < s.length
 ·simp only [if_pos e, Bo, GF]
 ·simp only [if_neg e, Bz]
theorem lx_ruleS (h : Lx H p b a r) (ha : a ≤ b.length) (hb : b.length < 1152921504606846976) (rest : List UInt8) (hr : rest.length ≤ 1000000) :
  Sh.fw (.ptr p 0 0) (.str rest) H = some (Me (Mc b a rest).1 (.str ((b.take (Mc b a rest).2).drop a)), AK H p b r (Mc b a rest).2) := by
 rw [lx_rule h ha hb rest hr]
 unfold ruleO Mc
 by_cases e : Fa b a 40 a = a
 ·simp only [e, if_true, Bo, GF]
 ·simp only [if_neg e, Bz]
theorem numR_S (b : List UInt8) (f : Nat) (rest : List UInt8) : ∀ n a, LJ b f rest n a = ((LI b f rest n a).1.map hv, (LI b f rest n a).2)
 | 0, a => rfl
 | n + 1, a => by
  rw [LJ, LI]
  split
  ·split
   ·rw [GF]; rfl
   ·split
    ·rfl
    ·exact numR_S b f rest n (a + 1)
  ·split
   ·rw [GF]; rfl
   ·rfl
theorem lx_lt (h : Lx H p b a r) : p < H.length := by
 rcases Nat.lt_or_ge p H.length with h' | h'
 ·exact h'
 ·unfold Lx at h; rw [List.getElem?_eq_none h'] at h; cases h
theorem MY {G : Ab} {e : Nat} (h : p < H.length) : AK (H ++ G) p b r e = AK H p b r e ++ G := by
 unfold AK; rw [List.set_append_left _ _ h]
theorem lx_num_end (h : Lx H p b a r) {f e : Nat} (hfe : f ≤ e) (he : e ≤ b.length) (hb : b.length < 1152921504606846976) (zb : List Aa) (hz : zb.length = 2) :
  ∃ G, Sh.f2i H (.ptr p 0 0) (.ptr H.length 0 0) (.int .i64 (f : Int)) (AK H p b r e ++ [.cel 0 zb]) = some (.ret (big (EN ((b.take e).drop f))), AK H p b r e ++ G) := by
 have hx := C7 (a' := e) h
 have hl := FI H p e b r
 have hld0 : ∀ G, Ad false 1 (.ptr p 0 0) (AK H p b r e ++ G) = some (.str b) := fun G => QB (Lx.push hx)
 have hld1 : ∀ G, Ad false 1 (.ptr p 0 1) (AK H p b r e ++ G) = some (.int .i64 (e : Int)) := fun G => Dy (Lx.push hx)
 unfold Sh.f2i
 rw [← hl]
 generalize AK H p b r e = K at *
 have hq := fun H => q_parse ((b.take e).drop f) H (by simp only [List.length_drop, List.length_take]; omega)
 obtain ⟨sg, es, hbig⟩ : ∃ sg es, big (EN ((b.take e).drop f)) = .agg [.bool sg, .sl es .no] := ⟨_, _, big_eq _⟩
 rw [hbig] at hq ⊢
 refine ⟨[.cel 0 [.bool sg, .sl es .no], .cel 0 [.bool sg, .sl es .no]], ?_⟩
 simp only [GMb, GMc, HPa, HPc, HPd, HPe, HPz, Nat.reduceAdd, Nat.reduceLT, hld0, hld1, QS hfe he, hq, hz]
 rfl

end
end Go.Gm
namespace Go.Gm
theorem numS_le (b : List UInt8) (f : Nat) (rest : List UInt8) : ∀ n a, a ≤ b.length → a ≤ (LI b f rest n a).2 ∧ (LI b f rest n a).2 ≤ b.length := fun n a h => by
 have := numR_le b f rest n a h
 rw [numR_S] at this; exact this
theorem intF_le {b : List UInt8} {a : Nat} (ha : a ≤ b.length) (neg : Bool) : a ≤ O8 b a neg ∧ O8 b a neg ≤ b.length := by
 unfold O8
 cases neg with
 | false => exact ⟨Nat.le_refl _, ha⟩
 | true =>
  cases hs : A8 b a [45] with
  | true => have := Co hs; simp; omega
  | false => simpa using ha
theorem intS_le {b : List UInt8} {a : Nat} (ha : a ≤ b.length) (neg : Bool) (rest : List UInt8) : a ≤ (G6 b a neg rest).2 ∧ (G6 b a neg rest).2 ≤ b.length := by
 unfold G6
 have h1 := intF_le ha neg
 have h2 := numS_le b (O8 b a neg) rest 402 (O8 b a neg) h1.2
 split
 ·rename_i h
  simp only [Bool.and_eq_true] at h
  have := Co h.2
  exact ⟨Nat.le_succ _, by omega⟩
 ·omega
section
variable {H : Ab} {p a : Nat} {b : List UInt8} {r : List Aa}
theorem Rn (h : Lx H p b a r) {f : Nat} (haf : a ≤ f) (hf : f ≤ b.length) (hb : b.length < 1152921504606846976) (rest : List UInt8) (hr : rest.length ≤ 1000000) (zb : List Aa) (hz : zb.length = 2) :
  ∃ G, Sh.f2y H (.ptr p 0 0) (.str rest) (.ptr H.length 0 0) (.int .i64 (a : Int)) (AK H p b r f ++ [.cel 0 zb]) = some (Me (LI b f rest 402 f).1 (big (EN ((b.take (LI b f rest 402 f).2).drop a))), AK H p b r (LI b f rest 402 f).2 ++ G) := by
 have hp := lx_lt h
 have hx : Lx (AK H p b r f ++ [.cel 0 zb]) p b f r := Lx.push (C7 h)
 have key := lx_num_loop (H0 := H) hx hf hb rest hr (.ptr H.length 0 0) (.int .i64 (a : Int))
 have hle := numS_le b f rest 402 f hf
 unfold Sh.f2y
 simp only [GMb, GMc, HPa, HPc, HPd, HPe, HPz, Nat.reduceAdd, Nat.reduceLT, Dy hx]
 rw [key, numR_S]
 generalize LI b f rest 402 f = R at *
 obtain ⟨er, e⟩ := R
 have hpp : ∀ G : Ab, AK (AK H p b r f ++ G) p b r e = AK H p b r e ++ G := fun G => by
  rw [MY (by rw [FI]; exact hp), KB]
 cases er with
 | some v =>
  refine ⟨[.cel 0 zb], ?_⟩
  show some (Res.pan (hv v), AK _ p b r e) = _
  rw [hpp]; rfl
 | none =>
  obtain ⟨G, hG⟩ := lx_num_end h (f := a) (e := e) (by dsimp only at hle; omega) hle.2 hb zb hz
  refine ⟨G, ?_⟩
  show Sh.f2i H (.ptr p 0 0) (.ptr H.length 0 0) (.int .i64 (a : Int)) (AK _ p b r e) = _
  rw [hpp, hG]; rfl
theorem lx_number (h : Lx H p b a r) (ha : a ≤ b.length) (hb : b.length < 1152921504606846976) (neg : Bool) (rest : List UInt8) (hr : rest.length ≤ 1000000) :
  ∃ G, Sh.f1h (.ptr p 0 0) (.bool neg) (.str rest) H = some (Me (G6 b a neg rest).1 (big (EN ((b.take (G6 b a neg rest).2).drop a))), AK H p b r (G6 b a neg rest).2 ++ G) := by
 have hx : Lx (H ++ [.cel 0 [.bool false, .sl [] .tight]]) p b a r := Lx.push h
 have hss := BG h
 unfold Sh.f1h
 have plain : O8 b a neg = a → G6 b a neg rest = LI b a rest 402 a → ∃ G, Sh.f2y H (.ptr p 0 0) (.str rest) (.ptr H.length 0 0) (.int .i64 (a : Int)) (H ++ [.cel 0 [.bool false, .sl [] .tight]]) = some (Me (G6 b a neg rest).1 (big (EN ((b.take (G6 b a neg rest).2).drop a))), AK H p b r (G6 b a neg rest).2 ++ G) := by
  intro e1 e2
  have := Rn h (Nat.le_refl a) ha hb rest hr [.bool false, .sl [] .tight] rfl
  rw [hss] at this
  rw [e2]; exact this
 cases neg with
 | false =>
  simp only [GMb, GMc, HPa, HPc, HPd, HPe, HPz, Nat.reduceAdd, Nat.reduceLT, Dy hx]
  exact plain rfl rfl
 | true =>
  simp only [GMb, GMc, HPa, HPc, HPd, HPe, HPz, Nat.reduceAdd, Nat.reduceLT, Dy hx, BW hx ha]
  cases hs : A8 b a [45] with
  | false =>
   simp only [GMb, GMc, HPa, HPc, HPd, HPe, HPz, Nat.reduceAdd, Nat.reduceLT]
   exact plain (by simp [O8, hs]) (by simp [G6, O8, hs])
  | true =>
   have hlt := Co hs
   have hm := EY (a' := a) hx (a + 1)
   rw [BG hx] at hm
   have hx1 := C7 (a' := a + 1) hx
   have hpu := MY (b := b) (r := r) (G := [.cel 0 [.bool false, .sl [] .tight]]) (e := a + 1) (lx_lt h)
   simp only [GMb, GMc, HPa, HPc, HPd, HPe, HPz, Nat.reduceAdd, Nat.reduceLT, Dy hx, Aw (show a < 9223372036854775807 by omega), hm, BW hx1 (show a + 1 ≤ b.length by omega)]
   have e1 : O8 b a true = a + 1 := by simp [O8, hs]
   cases h0 : A8 b (a + 1) [48] with
   | true =>
    have e2 : G6 b a true rest = (some (FF b (a + 1) []), a + 1) := by simp [G6, hs, h0]
    rw [e2]
    refine ⟨[.cel 0 [.bool false, .sl [] .tight]], ?_⟩
    simp only [GMb, GMc, HPa, HPc, HPd, HPe, HPz, Nat.reduceAdd, Nat.reduceLT, DE hx1]
    rw [hpu]; rfl
   | false =>
    have e2 : G6 b a true rest = LI b (a + 1) rest 402 (a + 1) := by simp [G6, hs, h0, e1]
    rw [e2]
    have := Rn h (f := a + 1) (by omega) hlt hb rest hr [.bool false, .sl [] .tight] rfl
    simp only [GMb, GMc, HPa, HPc, HPd, HPe, HPz, Nat.reduceAdd, Nat.reduceLT]
    rw [hpu]
    exact this

end
end Go.Gm
namespace Go.Gm
def lnC (q : Nat × Int) : List Aa := [.int .i64 (q.1 : Int), .int .i64 q.2]
instance : Sz lnC 2 := ⟨fun _ => rfl⟩
instance : Pl lnC := ⟨fun _ => rfl⟩
def rdR (bx N : Int) (law : List UInt8) (v w : Aa) : List Aa := [.int .i64 bx, .int .i64 N, .str law, v, w]
structure RDx (b0 p : Nat) (b : List UInt8) (a : Nat) (bx N : Int) (st : MSt) (v w : Aa) (H : Ab) : Prop where
 hb : b0 ≤ p
 lx : Lx H p b a (rdR bx N st.law v w)
 nodes : RS cNd As 5 b0 st.nodes v H
 lines : RS lnC CQ 2 b0 st.lines w H
def RD (b0 p : Nat) (b : List UInt8) (a : Nat) (bx N : Int) (st : MSt) (H : Ab) : Prop := ∃ v w, RDx b0 p b a bx N st v w H
section
variable {b0 p a : Nat} {b : List UInt8} {bx N : Int} {st : MSt} {H : Ab} {v w : Aa}
theorem RDx.lt (h : RDx b0 p b a bx N st v w H) : p < H.length := lx_lt h.lx
theorem RDx.move (h : RDx b0 p b a bx N st v w H) (a' : Nat) : RDx b0 p b a' bx N st v w (AK H p b (rdR bx N st.law v w) a') :=
 ⟨h.hb, C7 h.lx, h.nodes.put h.lx, h.lines.put h.lx⟩
theorem RDx.push (h : RDx b0 p b a bx N st v w H) (G : Ab) : RDx b0 p b a bx N st v w (H ++ G) :=
 ⟨h.hb, Lx.push h.lx, h.nodes.left G, h.lines.left G⟩
theorem Ext.setP (h : RDx b0 p b a bx N st v w H) (cs : List Aa) : Ext b0 p H (H.set p (.cel 0 cs)) :=
 ⟨by simp, fun i c hi hc => by rw [List.getElem?_set_ne (Ne.symm hi)]; exact hc, fun i hi => by rw [List.getElem?_set_ne (by have := h.hb; omega)]⟩
theorem Ext.push (b id : Nat) (hb : b ≤ H.length) (G : Ab) : Ext b id H (H ++ G) :=
 ⟨by simp, fun i c hi hc => BA hc, fun i hi => List.getElem?_append_left (by omega)⟩
theorem RDx.ble (h : RDx b0 p b a bx N st v w H) : b0 ≤ H.length := Nat.le_trans h.hb (Nat.le_of_lt h.lt)
theorem RDx.go (h : RDx b0 p b a bx N st v w H) (a' : Nat) (G : Ab) : RDx b0 p b a' bx N st v w (AK H p b (rdR bx N st.law v w) a' ++ G) ∧ Ext b0 p H (AK H p b (rdR bx N st.law v w) a' ++ G) :=
 ⟨(h.move a').push G, (Ext.setP h _).trans (Ext.push b0 p (by show b0 ≤ List.length _; rw [show (H.set p _).length = H.length from by simp]; exact h.ble) G)⟩
theorem RDx.go0 (h : RDx b0 p b a bx N st v w H) (a' : Nat) : RDx b0 p b a' bx N st v w (AK H p b (rdR bx N st.law v w) a') ∧ Ext b0 p H (AK H p b (rdR bx N st.law v w) a') :=
 ⟨h.move a', Ext.setP h _⟩
def NN (b0 p : Nat) (b : List UInt8) (bx N : Int) (H : Ab) (x : Out) (v : Aa) (s : (Er × Nat) × MSt) : Prop := ∃ H', x = some (Me s.1.1 v, H') ∧ Ext b0 p H H' ∧ RD b0 p b s.1.2 bx N s.2 H'
theorem mustS_le {s rest : List UInt8} (ha : a ≤ b.length) : (BD b a s rest).2 ≤ b.length := HK ha s
theorem rulS_le {rest : List UInt8} (ha : a ≤ b.length) : a ≤ (Mc b a rest).2 ∧ (Mc b a rest).2 ≤ b.length := ruleN_le 40 a ha
theorem anyN_le (ha : a ≤ b.length) : Gi b a ≤ b.length := by
 unfold Gi
 have := (List.takeWhile_sublist (l := b.drop a) fun c => !([13, 10] : List UInt8).contains c).length_le
 rw [List.length_drop] at this
 omega
theorem rd_mark (h : RD b0 p b a bx N st H) (ha : a < b.length) (hb : b.length < 1152921504606846976) : NN b0 p b bx N H (Sh.f1j (.ptr p 0 0) H) (.tup []) (NY b a st) := by
 obtain ⟨v, w, h⟩ := h
 have hm := EY (a' := a) h.lx (a + 1)
 rw [BG h.lx] at hm
 have h1 := (h.go0 (a + 1)).1
 have e1 := (h.go0 (a + 1)).2
 have hle : a + 1 ≤ b.length := by omega
 unfold NN Sh.f1j NY
 simp only [GMb, GMc, HPa, HPc, HPd, HPe, HPz, Nat.reduceAdd, Nat.reduceLT, Dy h.lx, Aw (show a < 9223372036854775807 by omega), hm]
 generalize AK H p b (rdR bx N st.law v w) (a + 1) = H1 at h1 e1
 simp only [BW h1.lx hle]
 cases hC : A8 b (a + 1) [67] with
 | true =>
  simp only [GMb, GMc, HPa, HPc, HPd, HPe, HPz, Nat.reduceAdd, Nat.reduceLT, lx_any h1.lx hle hb, if_true]
  exact ⟨_, rfl, e1.trans (h1.go0 _).2, _, _, (h1.go0 _).1⟩
 | false =>
  simp only [GMb, GMc, HPa, HPc, HPd, HPe, HPz, Nat.reduceAdd, Nat.reduceLT, BW h1.lx hle, Bool.false_eq_true, if_false]
  cases hG : A8 b (a + 1) [71] with
  | true =>
   simp only [GMb, GMc, HPa, HPc, HPd, HPe, HPz, Nat.reduceAdd, Nat.reduceLT, Mw h1.lx hle hb [71, 32] [49] (by decide) (by decide), if_true]
   have hM := mustS_le (s := [71, 32]) (rest := [49]) hle
   generalize BD b (a + 1) [71, 32] [49] = M at hM
   obtain ⟨er, c⟩ := M
   dsimp only at hM ⊢
   obtain ⟨h2, e2⟩ := h1.go0 c
   cases er with
   | some e =>
    simp only [GMb, GMc, HPa, HPc, HPd, HPe, HPz, Nat.reduceAdd, Nat.reduceLT, Bo]
    exact ⟨_, rfl, e1.trans e2, _, _, h2⟩
   | none =>
    obtain ⟨G, hn⟩ := lx_number h2.lx hM hb false [] (by decide)
    obtain ⟨h3, e3⟩ := h2.go (G6 b c false []).2 G
    simp only [GMb, GMc, HPa, HPc, HPd, HPe, HPz, Nat.reduceAdd, Nat.reduceLT, Bz, hn]
    generalize AK _ p b _ (G6 b c false []).2 ++ G = H3 at h3 e3
    refine ⟨H3, ?_, (e1.trans e2).trans e3, _, _, h3⟩
    cases (G6 b c false []).1 <;> simp only [GMb, GMc, HPa, HPc, HPd, HPe, HPz, Nat.reduceAdd, Nat.reduceLT, Bz, Bo]
  | false =>
   simp only [GMb, GMc, HPa, HPc, HPd, HPe, HPz, Nat.reduceAdd, Nat.reduceLT, BW h1.lx hle, Bool.false_eq_true, if_false]
   cases hR : A8 b (a + 1) [82] with
   | true =>
    simp only [GMb, GMc, HPa, HPc, HPd, HPe, HPz, Nat.reduceAdd, Nat.reduceLT, Mw h1.lx hle hb [82, 32] [97] (by decide) (by decide), if_true]
    have hM := mustS_le (s := [82, 32]) (rest := [97]) hle
    generalize BD b (a + 1) [82, 32] [97] = M at hM
    obtain ⟨er, c⟩ := M
    dsimp only at hM ⊢
    obtain ⟨h2, e2⟩ := h1.go0 c
    cases er with
    | some e =>
     simp only [GMb, GMc, HPa, HPc, HPd, HPe, HPz, Nat.reduceAdd, Nat.reduceLT, Bo]
     exact ⟨_, rfl, e1.trans e2, _, _, h2⟩
    | none =>
     simp only [GMb, GMc, HPa, HPc, HPd, HPe, HPz, Nat.reduceAdd, Nat.reduceLT, Bz, lx_ruleS h2.lx hM hb [] (by decide)]
     generalize Mc b c [] = M
     obtain ⟨er, d⟩ := M
     dsimp only
     obtain ⟨h3, e3⟩ := h2.go0 d
     generalize AK _ p b _ d = H3 at h3 e3
     cases er with
     | some e =>
      simp only [GMb, GMc, HPa, HPc, HPd, HPe, HPz, Nat.reduceAdd, Nat.reduceLT, Bo]
      exact ⟨_, rfl, (e1.trans e2).trans e3, _, _, h3⟩
     | none =>
      have hst := st_cel (o := 4) (v := .str ((b.take d).drop c)) h3.lx rfl (by simp [rdR])
      simp only [GMb, GMc, HPa, HPc, HPd, HPe, HPz, Nat.reduceAdd, Nat.reduceLT, Bz, hst]
      refine ⟨_, rfl, ((e1.trans e2).trans e3).trans (Ext.setP h3 _), v, w, h3.hb, ?_, h3.nodes.put h3.lx, h3.lines.put h3.lx⟩
      unfold Lx
      rw [List.getElem?_set_self h3.lt]; rfl
   | false =>
    simp only [GMb, GMc, HPa, HPc, HPd, HPe, HPz, Nat.reduceAdd, Nat.reduceLT, DE h1.lx, Bool.false_eq_true, if_false]
    exact ⟨_, rfl, e1, _, _, h1⟩

end
end Go.Gm
namespace Go.Gm
section
variable {α β : Type} {f : α → List Aa} {g : β → List Aa} {ty ty2 : TypeId} {sz sz2 : Nat}
structure Hj (v v' : Aa) (H H' : Ab) : Prop where
 len : H.length ≤ H'.length
 keep : ∀ i, i < H.length → (∀ es, v ≠ .sl es (.own i)) → H'[i]? = H[i]?
 own : ∀ i es, v' = .sl es (.own i) → H.length ≤ i ∨ ∃ es', v = .sl es' (.own i)
theorem RS.snoc2 [hf : Sz f sz] {bytes b : Nat} {out : List α} {v : Aa} {H : Ab} (h : RS f ty sz b out v H) (hb : b ≤ H.length) (x : α) (tk : Tok) (hl : (out.length + 1) * bytes ≤ 140737488355328) (hl2 : out.length + 1 ≤ 140737488355328) :
  ∃ v' H', AI ty sz bytes v (.sl (enL f [x]) tk) H = some (v', H') ∧ RS f ty sz b (out ++ [x]) v' H' ∧ Kp b H H' ∧ Hj v v' H H' := by
 rcases h with ⟨rfl, rfl⟩ | ⟨t, h1, rfl, h3⟩
 ·have := Cu (f := f) (l := []) (m := [x]) (ty := ty) (bytes := bytes) (tk := tk) (H := H) (by simp) (by simpa using hl) (by simp)
  refine ⟨_, _, this, .inr ⟨H.length, hb, rfl, by simp⟩, Kp.app hb _, by simp, fun i hi _ => List.getElem?_append_left hi, fun i es e => ?_⟩
  injection e with _ e; injection e with e
  exact .inl (by omega)
 ·have := DW (f := f) (l := out) (m := [x]) (ty := ty) (bytes := bytes) (tk := tk) (H := H) (t := t) (by simp) h3 (by simpa using hl) (by simpa using hl2)
  have htl := (List.getElem?_eq_some_iff.1 h3).1
  refine ⟨_, _, this, .inr ⟨t, h1, rfl, by simp [htl]⟩, ⟨by simp, fun i cs hc => ?_, fun i hi => ?_⟩, by simp, fun i hi hne => ?_, fun i es e => ?_⟩
  ·have : t ≠ i := fun e => by rw [← e, h3] at hc; cases hc
   rw [List.getElem?_set_ne this]; exact hc
  ·rw [List.getElem?_set_ne (by omega)]
  ·have : t ≠ i := fun e => hne _ (by rw [e])
   rw [List.getElem?_set_ne this]
  ·injection e with _ e; injection e with e
   exact .inr ⟨_, by rw [e]⟩
theorem RS.stay {b : Nat} {out : List α} {v w w' : Aa} {H H' : Ab} (h : RS f ty sz b out v H) (hg : Hj w w' H H') (hne : ∀ i es es', v = .sl es (.own i) → w ≠ .sl es' (.own i)) : RS f ty sz b out v H' := by
 rcases h with h1 | ⟨t, h1, h2, h3⟩
 ·exact .inl h1
 ·have htl := (List.getElem?_eq_some_iff.1 h3).1
  exact .inr ⟨t, h1, h2, by rw [hg.keep t htl fun es => hne t _ es h2]; exact h3⟩
theorem RS.apart {b b2 : Nat} {out : List α} {out2 : List β} {v w : Aa} {H : Ab} (h : RS f ty sz b out v H) (h2 : RS g ty2 sz2 b2 out2 w H) (hne : (ty, sz) ≠ (ty2, sz2)) : ∀ i es es', v = .sl es (.own i) → w ≠ .sl es' (.own i) := by
 intro i es es' e1 e2
 rcases h with ⟨_, k1⟩ | ⟨t, _, k1, k2⟩
 ·rw [k1] at e1; injection e1 with _ e1; cases e1
 ·rcases h2 with ⟨_, l1⟩ | ⟨t2, _, l1, l2⟩
  ·rw [l1] at e2; injection e2 with _ e2; cases e2
  ·rw [k1] at e1; injection e1 with _ e1; injection e1 with e1
   rw [l1] at e2; injection e2 with _ e2; injection e2 with e2
   rw [e1] at k2; rw [e2, k2] at l2
   injection l2 with l2; injection l2 with _ l3 l4
   exact hne (by rw [l3, l4])
theorem RS.notok {b i : Nat} {out : List α} {v : Aa} {H : Ab} {B : Blk} (h : RS f ty sz b out v H) (hB : H[i]? = some B) (hn : ∀ n e s, B ≠ .tok n e s) : ∀ es, v ≠ .sl es (.own i) := by
 intro es e
 rcases h with ⟨_, k1⟩ | ⟨t, _, k1, k2⟩
 ·rw [k1] at e; injection e with _ e; cases e
 ·rw [k1] at e; injection e with _ e; injection e with e
  rw [e, hB] at k2; injection k2 with k2
  exact hn _ _ _ k2
theorem RS.setB {b i : Nat} {out : List α} {v : Aa} {H : Ab} {B B' : Blk} (h : RS f ty sz b out v H) (hB : H[i]? = some B) (hn : ∀ n e s, B ≠ .tok n e s) : RS f ty sz b out v (H.set i B') := by
 have hne := h.notok hB hn
 rcases h with h1 | ⟨t, h1, h2, h3⟩
 ·exact .inl h1
 ·refine .inr ⟨t, h1, h2, ?_⟩
  have : i ≠ t := fun e => hne _ (by rw [h2, e])
  rw [List.getElem?_set_ne this]; exact h3
theorem RS.one {b : Nat} {out : List α} {v : Aa} {H : Ab} (h : RS f ty sz b out v H) : v.isScal = true := by
 obtain ⟨tk, rfl⟩ := h.sl; rfl
theorem RS.len {b : Nat} {out : List α} {v : Aa} {H : Ab} (h : RS f ty sz b out v H) : AG v = some (.int .i64 (out.length : Int)) := by
 obtain ⟨tk, rfl⟩ := h.sl; exact A3
theorem RS.idx [hf : Sz f sz] {b i : Nat} {out : List α} {v : Aa} {H : Ab} (h : RS f ty sz b out v H) (hi : i < out.length) (K : IntKind) : A5 sz v (.int K (i : Int)) = some (.cptr (f out[i]) 0) := by
 obtain ⟨tk, rfl⟩ := h.sl; exact Av hi

end
end Go.Gm
namespace Go.Gm
theorem cNd_len (x : Nd) : (cNd x).length = 5 := (rfl)
theorem shl_one {v : Nat} (h : v < 60) : Af .none .shl (.int .i64 1) (.int .i64 (v : Int)) = some (.int .i64 ((2 ^ v : Nat) : Int)) := by
 have hm : min ((v : Int)).toNat IntKind.i64.bits = v := by simp [IntKind.bits]; omega
 have hp : 2 ^ v < 1152921504606846976 := Nat.lt_of_lt_of_le (Nat.pow_lt_pow_right (by decide) h) (by decide)
 have hn : ¬ (v : Int) < 0 := by omega
 unfold Af
 simp only [Cs, if_true, JG, if_neg hn, hm]
 have : (1 * 2 ^ v : Int) = ((2 ^ v : Nat) : Int) := by simp
 rw [this]
 generalize 2 ^ v = m at *
 rw [CJ (by omega)]
section
variable {b0 p a : Nat} {b : List UInt8} {bx N : Int} {st : MSt} {H : Ab}
def RDw (b0 p : Nat) (b : List UInt8) (a : Nat) (bx N : Int) (st : MSt) (w : Aa) (H : Ab) : Prop := ∃ v, RDx b0 p b a bx N st v w H
def MSt.put (st : MSt) (x : Nd) : MSt := { st with nodes := st.nodes ++ [x] }
theorem rd_put {w : Aa} (h : RDw b0 p b a bx N st w H) (x : Nd) (hn : st.nodes.length < 3000000000000) :
  ∃ H', Sh.fh (.ptr p 0 0) (.agg (cNd x)) H = some (.ret (.int .i64 ((st.nodes.length + 1 : Nat) : Int)), H') ∧ Ext b0 p H H' ∧ RDw b0 p b a bx N (st.put x) w H' := by
 obtain ⟨v, h⟩ := h
 have hB : b0 ≤ (H ++ [Blk.cel 0 (cNd x)]).length := by have := h.ble; simp; omega
 have h1 := h.push [.cel 0 (cNd x)]
 obtain ⟨v', H', ha, hr, hk, hg⟩ := RS.snoc2 (bytes := 40) h1.nodes hB x .tight (by omega) (by omega)
 have hc' := hk.cel _ _ h1.lx
 have hst := st_cel (o := 5) (v := v') hc' hr.one (by simp [rdR])
 have hlt' : p < H'.length := (List.getElem?_eq_some_iff.1 hc').1
 have e1 : Ext b0 p H (H ++ [.cel 0 (cNd x)]) := Ext.push b0 p h.ble _
 have e2 : Ext b0 p (H ++ [.cel 0 (cNd x)]) H' := ⟨hk.len, fun i cs _ hc => hk.cel i cs hc, hk.old⟩
 have e3 : ∀ cs, Ext b0 p H' (H'.set p (.cel 0 cs)) := fun cs => ⟨by simp, fun i c hi hc => by rw [List.getElem?_set_ne (Ne.symm hi)]; exact hc, fun i hi => by rw [List.getElem?_set_ne (by have := h.hb; omega)]⟩
 have hset : ∀ cs : List Aa, (H'.set p (.cel 0 cs))[p]? = some (.cel 0 cs) := fun cs => by rw [List.getElem?_set_self hlt']
 unfold Sh.fh
 rw [Ig (sz := 5) CP rfl]
 simp only [GMb, GMc, HPa, HPc, HPd, HPe, HPz, Nat.reduceAdd, Nat.reduceLT, B7 h1.lx, rdR, cNd_len, FU, ha, hst, B7 (hset _), hr.len]
 refine ⟨_, by rw [List.length_append]; rfl, (e1.trans e2).trans (e3 _), v', h.hb, ?_, hr.put hc', (h1.lines.stay hg (RS.apart h1.lines h1.nodes (by decide))).put hc'⟩
 unfold Lx
 rw [hset]; rfl
def OnC (q : Nat) (on : List Bool) (H : Ab) : Prop := H[q]? = some (.cel 0 (flat cB on))
theorem onC_load {q : Nat} {on : List Bool} (h : OnC q on H) (hl : on.length = 64) {x y : Nat} (hx : x < 8) (hy : y < 8) : Ad false 1 (.ptr q 0 (y * 8 + x * 1)) H = some (.bool (onQ on x y)) := by
 have hi : y * 8 + x < on.length := by omega
 rw [show y * 8 + x * 1 = y * 8 + x by omega, HJ (f := cB) (AY h) hi]
 unfold onQ
 rw [List.getD_eq_getElem?_getD, List.getElem?_eq_getElem hi]; rfl
theorem OG {on : Nat → Nat → Bool} {rec : Nat → Nat → List Nd → List Nd} {m : Nat} (hr : ∀ x y l, (rec x y l).length ≤ l.length + m) (level x y half : Nat) : ∀ k l, (sqK on rec level x y half k l).1.length ≤ l.length + k * m
 | 0, l => by simp [sqK]
 | k + 1, l => by
  have ih := OG (on := on) hr level x y half k l
  unfold sqK
  simp only
  split
  ·rw [Nat.succ_mul]; dsimp only; omega
  ·have := hr (x + k % 2 * half) (y + k / 2 * half) (sqK on rec level x y half k l).1
   rw [Nat.succ_mul]; dsimp only; omega
def sqM : Nat → Nat
 | 0 => 0
 | v + 1 => 4 * sqM v + 1
theorem OH (on : Nat → Nat → Bool) : ∀ v x y l, (sqF on v x y l).length ≤ l.length + sqM v
 | 0, x, y, l => by simp [sqF, sqM]
 | v + 1, x, y, l => by
  have := OG (on := on) (OH on v) (v + 1) x y (2 ^ v) 4 l
  unfold sqF sqM
  simp only [List.length_append, List.length_singleton]
  omega
theorem rd_square {w : Aa} {q : Nat} {on : List Bool} (hl : on.length = 64) (hq : q ≠ p) : ∀ (v d x y : Nat) (st : MSt) (H : Ab), v ≤ 3 → v < d → x + 2 ^ v ≤ 8 → y + 2 ^ v ≤ 8 → 0 < v → st.nodes.length + sqM v < 3000000000000 → RDw b0 p b a bx N st w H → OnC q on H →
  ∃ H', Sh.fa d (.ptr p 0 0) (.ptr q 0 0) (.int .i64 (v : Int)) (.int .i64 (x : Int)) (.int .i64 (y : Int)) H = some (.ret (.int .i64 ((sqF (onQ on) v x y st.nodes).length : Int)), H') ∧ Ext b0 p H H' ∧ RDw b0 p b a bx N { st with nodes := sqF (onQ on) v x y st.nodes } w H' := by
 intro v
 induction v with
 | zero => intro d x y st H _ _ _ _ h0; omega
 | succ v ih =>
  intro d x y st H hv hd hx hy _ hn h hon
  obtain ⟨d, rfl⟩ : ∃ e, d = e + 1 := ⟨d - 1, by omega⟩
  have hble : b0 ≤ H.length := by obtain ⟨_, h⟩ := h; exact h.ble
  have hlt : p < H.length := by obtain ⟨_, h⟩ := h; exact h.lt
  have hw1 : IntKind.i64.wrap (((v + 1 : Nat) : Int) - 1) = (v : Int) := by rw [A0] <;> omega
  have hbd : A6 (some [(.int .i64 0), (.int .i64 0), (.int .i64 0), (.int .i64 0), (.int .i64 0)]) [(0, 1, .int .i64 ((v + 1 : Nat) : Int))] = some (.agg (cNd ⟨((v + 1 : Nat) : Int), 0, 0, 0, 0⟩)) := rfl
  have hhalf : 2 ^ v ≤ 4 := by
   have : v = 0 ∨ v = 1 ∨ v = 2 := by omega
   rcases this with h | h | h <;> subst h <;> decide
  have h2v : 2 ^ (v + 1) = 2 * 2 ^ v := by rw [Nat.pow_succ]; omega
  have hpos : 0 < 2 ^ v := Nat.pow_pos (by decide)
  show ∃ H', Sh.f45 (Sh.fa d) _ _ _ _ _ _ = _ ∧ _
  unfold Sh.f45
  simp only [GMb, GMc, hw1, shl_one (show v < 60 by omega), hbd, FW, EM (AD (B := H) (cs := cNd nd0)) rfl, Cd]
  have hsl : ∀ k, k ≤ 4 → (sqK (onQ on) (sqF (onQ on) v) (v + 1) x y (2 ^ v) k st.nodes).1.length ≤ st.nodes.length + 4 * sqM v := fun k hk => by
   have := OG (on := onQ on) (OH (onQ on) v) (v + 1) x y (2 ^ v) k st.nodes
   have : k * sqM v ≤ 4 * sqM v := Nat.mul_le_mul_right _ hk
   omega
  have hsm : sqM (v + 1) = 4 * sqM v + 1 := rfl
  have hsk : ∀ k, k < 4 → (sqK (onQ on) (sqF (onQ on) v) (v + 1) x y (2 ^ v) k st.nodes).1.length ≤ st.nodes.length + 3 * sqM v := fun k hk => by
   have := OG (on := onQ on) (OH (onQ on) v) (v + 1) x y (2 ^ v) k st.nodes
   have : k * sqM v ≤ 3 * sqM v := Nat.mul_le_mul_right _ (by omega)
   omega
  generalize hhf : 2 ^ v = half at *
  have loop := Mx (G := fun rec1 vs H1 => Sh.f1k H (Sh.fa d) rec1 (ag vs 0) (ag vs 1) (ag vs 2) (ag vs 3) (ag vs 4) (ag vs 5) (ag vs 6) (ag vs 7) H1) 4
   (fun k vs Hc => vs = [.ptr p 0 0, .ptr q 0 0, .int .i64 ((v + 1 : Nat) : Int), .int .i64 (x : Int), .int .i64 (y : Int), .int .i64 (half : Int), .ptr H.length 0 0, .int .i64 (k : Int)] ∧ Ext b0 p H Hc ∧
    RDw b0 p b a bx N { st with nodes := (sqK (onQ on) (sqF (onQ on) v) (v + 1) x y half k st.nodes).1 } w Hc ∧ Hc[H.length]? = some (.cel 0 (cNd (sqK (onQ on) (sqF (onQ on) v) (v + 1) x y half k st.nodes).2)))
   (by decide) (fun k vs Hc hk hI => ?_) (vs := [.ptr p 0 0, .ptr q 0 0, .int .i64 ((v + 1 : Nat) : Int), .int .i64 (x : Int), .int .i64 (y : Int), .int .i64 (half : Int), .ptr H.length 0 0, .int .i64 0]) (H := H ++ [.cel 0 (cNd ⟨((v + 1 : Nat) : Int), 0, 0, 0, 0⟩)])
   ⟨rfl, Ext.push b0 p hble _, by obtain ⟨v', h⟩ := h; exact ⟨v', h.push _⟩, by simp [sqK]⟩
  ·obtain ⟨vs', Hc, ⟨rfl, hE, hR, hcell⟩, rec, hloop⟩ := loop
   rw [hloop]
   unfold Sh.f1k
   obtain ⟨H', hp1, hp2, hp3⟩ := rd_put hR (sqK (onQ on) (sqF (onQ on) v) (v + 1) x y half 4 st.nodes).2 (by have := hsl 4 (by omega); dsimp only; omega)
   simp only [GMb, GMc, Az, show ¬ (((4 : Nat) : Int) < 4) from by decide, DG hcell, hp1]
   have hfin : sqF (onQ on) (v + 1) x y st.nodes = (sqK (onQ on) (sqF (onQ on) v) (v + 1) x y half 4 st.nodes).1 ++ [(sqK (onQ on) (sqF (onQ on) v) (v + 1) x y half 4 st.nodes).2] := by
    unfold sqF; rw [hhf]
   rw [hfin]
   exact ⟨H', by rw [List.length_append]; rfl, hE.trans hp2, hp3⟩
  ·obtain ⟨rfl, hE, hR, hcell⟩ := hI
   have hk' : (k : Int) < 4 := by omega
   have hk2 : k % 2 ≤ 1 := by omega
   have hk3 : k / 2 ≤ 1 := by omega
   have m1 : k % 2 * half ≤ half := by rcases Nat.le_one_iff_eq_zero_or_eq_one.1 hk2 with h | h <;> rw [h] <;> omega
   have m2 : k / 2 * half ≤ half := by rcases Nat.le_one_iff_eq_zero_or_eq_one.1 hk3 with h | h <;> rw [h] <;> omega
   have hr2 : Af .none .rem (.int .i64 (k : Int)) (.int .i64 2) = some (.int .i64 ((k % 2 : Nat) : Int)) := by rw [Ij (by decide)]; rfl
   have hq2 : Af .none .quo (.int .i64 (k : Int)) (.int .i64 2) = some (.int .i64 ((k / 2 : Nat) : Int)) := by
    rw [KR (by decide), show ((k : Int).tdiv 2) = ((k / 2 : Nat) : Int) from rfl, CJ (by omega)]
   have hm1 : IntKind.i64.wrap (((k % 2 : Nat) : Int) * (half : Int)) = ((k % 2 * half : Nat) : Int) := by rw [← Int.natCast_mul, CJ (by omega)]
   have hm2 : IntKind.i64.wrap (((k / 2 : Nat) : Int) * (half : Int)) = ((k / 2 * half : Nat) : Int) := by rw [← Int.natCast_mul, CJ (by omega)]
   have ha1 : IntKind.i64.wrap ((x : Int) + ((k % 2 * half : Nat) : Int)) = ((x + k % 2 * half : Nat) : Int) := K7 (by omega)
   have ha2 : IntKind.i64.wrap ((y : Int) + ((k / 2 * half : Nat) : Int)) = ((y + k / 2 * half : Nat) : Int) := K7 (by omega)
   have hws := Aw (show k < 9223372036854775807 by omega)
   have hon' : OnC q on Hc := hE.cel q _ hq hon
   have hHl : H.length ≠ p := by omega
   generalize hX : x + k % 2 * half = X at *
   generalize hY : y + k / 2 * half = Y at *
   have hl1 := hsl (k + 1) (by omega)
   have hl0 := hsk k (by omega)
   by_cases hv0 : v = 0
   ·have hgt : ¬ (((v + 1 : Nat) : Int) > 1) := by omega
    have hh1 : half = 1 := by rw [← hhf, hv0]
    have hX8 : X < 8 := by omega
    have hY8 : Y < 8 := by omega
    have hstep : sqK (onQ on) (sqF (onQ on) v) (v + 1) x y half (k + 1) st.nodes = ((sqK (onQ on) (sqF (onQ on) v) (v + 1) x y half k st.nodes).1, (sqK (onQ on) (sqF (onQ on) v) (v + 1) x y half k st.nodes).2.setKid k (if onQ on X Y then 1 else 0)) := by
     conv => lhs; unfold sqK
     simp only [hX, hY]
     rw [if_pos (show v + 1 ≤ 1 by omega)]
    have hkid0 : (sqK (onQ on) (sqF (onQ on) v) (v + 1) x y half k st.nodes).2.setKid k 0 = (sqK (onQ on) (sqF (onQ on) v) (v + 1) x y half k st.nodes).2 := by
     have : ∀ j, (sqK (onQ on) (sqF (onQ on) v) (v + 1) x y half j st.nodes).2.kid k = 0 ∨ k < j := by
      intro j
      induction j with
      | zero => left; match k, hk with
       | 0, _ => rfl
       | 1, _ => rfl
       | 2, _ => rfl
       | 3, _ => rfl
      | succ j ihj =>
       by_cases hkj : k < j + 1
       ·exact .inr hkj
       ·left
        rcases ihj with h | h
        ·unfold sqK
         simp only
         by_cases hj4 : j < 4
         ·split <;> (rw [BK _ _ hj4 hk (by omega)]; exact h)
         ·omega
        ·omega
     have h0 := (this k).resolve_right (by omega)
     generalize (sqK (onQ on) (sqF (onQ on) v) (v + 1) x y half k st.nodes).2 = z at h0
     obtain ⟨z0, z1, z2, z3, z4⟩ := z
     match k, hk, h0 with
     | 0, _, h0 => simp only [Nd.kid] at h0; simp [Nd.setKid, h0]
     | 1, _, h0 => simp only [Nd.kid] at h0; simp [Nd.setKid, h0]
     | 2, _, h0 => simp only [Nd.kid] at h0; simp [Nd.setKid, h0]
     | 3, _, h0 => simp only [Nd.kid] at h0; simp [Nd.setKid, h0]
    have hi1 := OO (sz := 8) (K := .i64) (id := q) (g := 0) (o := 0) hY8
    have hi2 := OO (sz := 1) (K := .i64) (id := q) (g := 0) (o := Y * 8) hX8
    have hld := onC_load hon' hl hX8 hY8
    rw [hstep]
    cases hb1 : onQ on X Y with
    | true =>
     rw [hb1] at hld
     refine ⟨[.ptr p 0 0, .ptr q 0 0, .int .i64 ((v + 1 : Nat) : Int), .int .i64 (x : Int), .int .i64 (y : Int), .int .i64 (half : Int), .ptr H.length 0 0, .int .i64 ((k + 1 : Nat) : Int)], Hc.set H.length (.cel 0 (cNd ((sqK (onQ on) (sqF (onQ on) v) (v + 1) x y half k st.nodes).2.setKid k 1))), ⟨rfl, ⟨by have := hE.len; simpa using this, fun i cs hi hc => ?_, fun i hi => ?_⟩, ?_, ?_⟩, fun rec => ?_⟩
     ·rw [List.getElem?_set_ne (by have := (List.getElem?_eq_some_iff.1 hc).1; omega)]; exact hE.cel i cs hi hc
     ·rw [List.getElem?_set_ne (by omega)]; exact hE.old i hi
     ·obtain ⟨v', hR⟩ := hR
      refine ⟨v', hR.hb, ?_, hR.nodes.put hcell, hR.lines.put hcell⟩
      unfold Lx; rw [List.getElem?_set_ne hHl]; exact hR.lx
     ·rw [List.getElem?_set_self (List.getElem?_eq_some_iff.1 hcell).1]; rfl
     ·unfold Sh.f1k
      simp only [GMb, GMc, Az, hk', hr2, hm1, ha1, hq2, hm2, ha2, hgt, Ae, hi1, hi2, hld, Aj, Nat.zero_add, Ex hk, C6 hcell hk, hws]
    | false =>
     rw [hb1] at hld
     simp only [Bool.false_eq_true, if_false, hkid0]
     refine ⟨[.ptr p 0 0, .ptr q 0 0, .int .i64 ((v + 1 : Nat) : Int), .int .i64 (x : Int), .int .i64 (y : Int), .int .i64 (half : Int), .ptr H.length 0 0, .int .i64 ((k + 1 : Nat) : Int)], Hc, ⟨rfl, hE, hR, hcell⟩, fun rec => ?_⟩
     unfold Sh.f1k
     simp only [GMb, GMc, Az, hk', hr2, hm1, ha1, hq2, hm2, ha2, hgt, Ae, hi1, hi2, hld, hws, Nat.zero_add]
   ·have hgt : (((v + 1 : Nat) : Int) > 1) := by omega
    have hstep : sqK (onQ on) (sqF (onQ on) v) (v + 1) x y half (k + 1) st.nodes = (sqF (onQ on) v X Y (sqK (onQ on) (sqF (onQ on) v) (v + 1) x y half k st.nodes).1, (sqK (onQ on) (sqF (onQ on) v) (v + 1) x y half k st.nodes).2.setKid k ((sqF (onQ on) v X Y (sqK (onQ on) (sqF (onQ on) v) (v + 1) x y half k st.nodes).1).length : Int)) := by
     conv => lhs; unfold sqK
     simp only [hX, hY]
     rw [if_neg (show ¬ v + 1 ≤ 1 by omega)]
    rw [hstep]
    obtain ⟨H1, i1, i2, i3⟩ := ih d X Y _ Hc (by omega) (by omega) (by omega) (by omega) (by omega) (by dsimp only; omega) hR hon'
    dsimp only at i1 i3
    have hcell1 := i2.cel _ _ hHl hcell
    refine ⟨[.ptr p 0 0, .ptr q 0 0, .int .i64 ((v + 1 : Nat) : Int), .int .i64 (x : Int), .int .i64 (y : Int), .int .i64 (half : Int), .ptr H.length 0 0, .int .i64 ((k + 1 : Nat) : Int)], H1.set H.length (.cel 0 (cNd ((sqK (onQ on) (sqF (onQ on) v) (v + 1) x y half k st.nodes).2.setKid k ((sqF (onQ on) v X Y (sqK (onQ on) (sqF (onQ on) v) (v + 1) x y half k st.nodes).1).length : Int)))), ⟨rfl, ⟨?_, fun i cs hi hc => ?_, fun i hi => ?_⟩, ?_, ?_⟩, fun rec => ?_⟩
    ·have := hE.len; have := i2.len; simp; omega
    ·rw [List.getElem?_set_ne (by have := (List.getElem?_eq_some_iff.1 hc).1; omega)]; exact i2.cel i cs hi (hE.cel i cs hi hc)
    ·rw [List.getElem?_set_ne (by omega), i2.old i hi]; exact hE.old i hi
    ·obtain ⟨v', hR⟩ := i3
     refine ⟨v', hR.hb, ?_, hR.nodes.put hcell1, hR.lines.put hcell1⟩
     unfold Lx; rw [List.getElem?_set_ne hHl]; exact hR.lx
    ·rw [List.getElem?_set_self (List.getElem?_eq_some_iff.1 hcell1).1]
    ·unfold Sh.f1k
     simp only [GMb, GMc, Az, hk', hr2, hm1, ha1, hq2, hm2, ha2, hgt, hw1, i1, Aj, Nat.zero_add, Ex hk, C6 hcell1 hk, hws]

end
end Go.Gm
namespace Go.Gm
theorem flat_cB (on : List Bool) : flat cB on = on.map Aa.bool := by
 induction on with
 | nil => rfl
 | cons c l ih => rw [Ck, ih]; rfl
theorem flat_cB_set (on : List Bool) (i : Nat) (t : Bool) : (flat cB on).set i (.bool t) = flat cB (on.set i t) := by
 rw [flat_cB, flat_cB, List.map_set]
theorem lx_moveG {H G : Ab} {p a a' : Nat} {b : List UInt8} {r : List Aa} (h : Lx H p b a r) (n : Nat) : Al 1 (.ptr p 0 1) (.int .i64 (n : Int)) (AK H p b r a' ++ G) = some (AK H p b r n ++ G) := by
 have hp := lx_lt h
 rw [lx_step (Lx.push (C7 (a' := a') h))]
 congr 1
 rw [List.set_append_left _ _ (by rw [FI]; exact hp)]
 congr 1
 exact KB H p a' n b r r
theorem GR (b : List UInt8) : ∀ n a x y on, a ≤ b.length → a ≤ (Cy b n a x y on).2.1 ∧ (Cy b n a x y on).2.1 ≤ b.length ∧ (Cy b n a x y on).2.2.length = on.length
 | 0, a, x, y, on, h => ⟨Nat.le_refl _, h, rfl⟩
 | n + 1, a, x, y, on, h => by
  unfold Cy
  cases hs : A8 b a [46, 42, 36] with
  | false => exact ⟨Nat.le_refl _, h, rfl⟩
  | true =>
   simp only [if_true]
   split
   ·exact ⟨Nat.le_refl _, h, rfl⟩
   ·split
    ·have := GR b n (a + 1) 0 (y + 1) on (Co hs); omega
    ·have := GR b n (a + 1) (x + 1) y (on.set (y * 8 + x) (A8 b a [42])) (Co hs)
     rw [List.length_set] at this; omega
section
variable {b0 p a : Nat} {b : List UInt8} {bx N : Int} {st : MSt} {H : Ab}
noncomputable def PT (H0 : Ab) (r_4 on_5 : Aa) (H12 : Ab) : Out :=
 Cg (Sh.fa AM r_4 on_5 (.int .i64 3) (.int .i64 0) (.int .i64 0) H12) fun x60 H61 =>
 (Ae r_4).bind fun x62 =>
 (Ac 6 x62).bind fun x63 =>
 bC (Ad false 1 x63 H61) (fun x64 => Ad false 1 x63 H12 = some x64 ∧ True) fun x64 =>
 (A6 (some [(.int .i64 0), (.int .i64 0)]) [(0, 1, x60), (1, 1, (.int .i64 3))]).bind fun x65 =>
 (AH 2 [x65]).bind fun x66 =>
 Cg (BF (AI CQ 2 16 x64 x66 H61)) fun x67 H68 =>
 (Ae r_4).bind fun x69 =>
 (Ac 6 x69).bind fun x70 =>
 bK H0 (AN (Al 1 x70 x67 H68)) fun _ H72 =>
 rK H0 (.tup []) H72
theorem leaf_loop {r : List Aa} (h : Lx H p b a r) (ha : a ≤ b.length) (hb : b.length < 1152921504606846976) :
  Ap (fun rec1 vs H1 => Sh.f30 H rec1 (ag vs 0) (ag vs 1) (ag vs 2) (ag vs 3) H1) AM [.ptr p 0 0, .ptr H.length 0 0, .int .i64 0, .int .i64 0] (H ++ [.cel 0 (flat cB (List.replicate 64 false))]) =
   match Cy b (b.length + 1 - a) a 0 0 (List.replicate 64 false) with
   | (some e, c, on) => some (.pan (hv e), AK H p b r c ++ [.cel 0 (flat cB on)])
   | (none, c, on) => PT H (.ptr p 0 0) (.ptr H.length 0 0) (AK H p b r c ++ [.cel 0 (flat cB on)]) := by
 have key := Bt (G := fun rec1 vs H1 => Sh.f30 H rec1 (ag vs 0) (ag vs 1) (ag vs 2) (ag vs 3) H1) (σ := Nat × Nat × Nat × List Bool) (fun s => s.1 ≤ b.length ∧ s.2.1 ≤ 8 ∧ s.2.2.1 ≤ 8 ∧ s.2.2.2.length = 64)
  (fun s => [.ptr p 0 0, .ptr H.length 0 0, .int .i64 (s.2.1 : Int), .int .i64 (s.2.2.1 : Int)]) (fun s => AK H p b r s.1 ++ [.cel 0 (flat cB s.2.2.2)]) (fun s => b.length - s.1)
  (fun s => match Cy b (b.length + 1 - s.1) s.1 s.2.1 s.2.2.1 s.2.2.2 with
   | (some e, c, on) => some (.pan (hv e), AK H p b r c ++ [.cel 0 (flat cB on)])
   | (none, c, on) => PT H (.ptr p 0 0) (.ptr H.length 0 0) (AK H p b r c ++ [.cel 0 (flat cB on)])) (fun s rec hi hrec => ?_) (a, 0, 0, List.replicate 64 false) ⟨ha, by simp, by simp, by simp⟩ (by dsimp only; omega)
 ·rw [BG h] at key; exact key
 ·obtain ⟨i, x, y, on⟩ := s
  obtain ⟨h1, h2, h3, h4⟩ := hi
  dsimp only at h1 h2 h3 h4 hrec ⊢
  have hx : Lx (AK H p b r i ++ [.cel 0 (flat cB on)]) p b i r := Lx.push (C7 h)
  rw [show b.length + 1 - i = (b.length - i) + 1 by omega]
  unfold Sh.f30
  simp only [GMb, GMc, HPa, HPc, HPd, HPe, HPz, Nat.reduceAdd, Nat.reduceLT, Az, BW hx h1]
  unfold Cy
  cases hs : A8 b i [46, 42, 36] with
  | false =>
   unfold PT
   simp only [GMb, GMc, HPa, HPc, HPd, HPe, HPz, Nat.reduceAdd, Nat.reduceLT, Bool.false_eq_true, if_false]
  | true =>
   have hlt := Co hs
   simp only [GMb, GMc, HPa, HPc, HPd, HPe, HPz, Nat.reduceAdd, Nat.reduceLT, BW hx h1, if_true]
   have hy8 : decide ((y : Int) = 8) = decide (y = 8) := by rw [Bool.eq_iff_iff]; simp only [decide_eq_true_eq]; omega
   have hx8 : decide ((x : Int) = 8) = decide (x = 8) := by rw [Bool.eq_iff_iff]; simp only [decide_eq_true_eq]; omega
   rw [hy8]
   have go : ¬ (y = 8 ∨ (x = 8 ∧ ¬ A8 b i [36] = true)) → Sh.f46 H (fun vs H1 => Sh.f2z H rec (ag vs 0) (ag vs 1) (ag vs 2) (ag vs 3) H1) (.ptr p 0 0) (.ptr H.length 0 0) (.int .i64 (x : Int)) (.int .i64 (y : Int)) (.bool (A8 b i [36])) (AK H p b r i ++ [.cel 0 (flat cB on)]) =
     match (if A8 b i [36] then Cy b (b.length - i) (i + 1) 0 (y + 1) on else Cy b (b.length - i) (i + 1) (x + 1) y (on.set (y * 8 + x) (A8 b i [42]))) with
     | (some e, c, on) => some (.pan (hv e), AK H p b r c ++ [.cel 0 (flat cB on)])
     | (none, c, on) => PT H (.ptr p 0 0) (.ptr H.length 0 0) (AK H p b r c ++ [.cel 0 (flat cB on)]) := by
    intro hn
    unfold Sh.f46
    cases hd : A8 b i [36] with
    | true =>
     have hyl : y < 8 := by omega
     have := hrec (i + 1, 0, y + 1, on) ⟨hlt, by simp, hyl, h4⟩ (by dsimp only; omega)
     dsimp only at this
     rw [show b.length + 1 - (i + 1) = b.length - i by omega] at this
     simp only [GMb, GMc, HPa, HPc, HPd, HPe, HPz, Nat.reduceAdd, Nat.reduceLT, Aw (show y < 9223372036854775807 by omega), if_true]
     unfold Sh.f2z
     simp only [GMb, GMc, HPa, HPc, HPd, HPe, HPz, Nat.reduceAdd, Nat.reduceLT, Dy hx, Aw (show i < 9223372036854775807 by omega), lx_moveG h]
     exact this
    | false =>
     have hyl : y < 8 := by omega
     have hxl : x < 8 := by
      rcases Nat.lt_or_ge x 8 with h | h
      ·exact h
      ·exact absurd (.inr ⟨by omega, by rw [hd]; decide⟩) hn
     have hi1 := OO (sz := 8) (K := .i64) (id := H.length) (g := 0) (o := 0) hyl
     have hi2 := OO (sz := 1) (K := .i64) (id := H.length) (g := 0) (o := y * 8) hxl
     rw [Nat.zero_add] at hi1
     rw [Nat.mul_one] at hi2
     have hst : ∀ t, Al 1 (.ptr H.length 0 (y * 8 + x)) (.bool t) (AK H p b r i ++ [.cel 0 (flat cB on)]) = some (AK H p b r i ++ [.cel 0 (flat cB (on.set (y * 8 + x) t))]) := fun t => by
      rw [← FI H p i b r, FH, K9 rfl (by rw [flat_cB, List.length_map]; omega), flat_cB_set]; rfl
     have hx2 : Lx (AK H p b r i ++ [.cel 0 (flat cB (on.set (y * 8 + x) (A8 b i [42])))]) p b i r := Lx.push (C7 h)
     have := hrec (i + 1, x + 1, y, on.set (y * 8 + x) (A8 b i [42])) ⟨hlt, hxl, h3, by rw [List.length_set]; exact h4⟩ (by dsimp only; omega)
     dsimp only at this
     rw [show b.length + 1 - (i + 1) = b.length - i by omega] at this
     simp only [GMb, GMc, HPa, HPc, HPd, HPe, HPz, Nat.reduceAdd, Nat.reduceLT, BW hx h1, hi1, hi2, hst, Aw (show x < 9223372036854775807 by omega), Bool.false_eq_true, if_false]
     unfold Sh.f2z
     simp only [GMb, GMc, HPa, HPc, HPd, HPe, HPz, Nat.reduceAdd, Nat.reduceLT, Dy hx2, Aw (show i < 9223372036854775807 by omega), lx_moveG h]
     exact this
   by_cases hy : y = 8
   ·simp only [hy, GMb, GMc, HPa, HPc, HPd, HPe, HPz, Nat.reduceAdd, Nat.reduceLT, hx8, DE hx, true_or, if_true]
   ·by_cases hxx : x = 8
    ·cases hd : A8 b i [36] with
     | false =>
      have hx8' : decide ((x : Int) = 8) = true := by rw [hx8, hxx]; rfl
      rw [if_pos (.inr ⟨hxx, by decide⟩)]
      simp only [hy, hx8', GMb, GMc, HPa, HPc, HPd, HPe, HPz, Nat.reduceAdd, Nat.reduceLT, DE hx]
     | true =>
      have := go (by rw [hd]; simp [hy])
      rw [hd] at this
      simp only [hy, hx8, hxx, GMb, GMc, HPa, HPc, HPd, HPe, HPz, Nat.reduceAdd, Nat.reduceLT, false_or, not_true_eq_false, if_false] at this ⊢
      exact this
    ·have := go (by simp [hy, hxx])
     simp only [hy, hx8, hxx, GMb, GMc, HPa, HPc, HPd, HPe, HPz, Nat.reduceAdd, Nat.reduceLT, false_or, false_and, if_false] at this ⊢
     exact this
theorem build_ln (n : Nat) (v : Int) : A6 (some [(.int .i64 0), (.int .i64 0)]) [(0, 1, .int .i64 (n : Int)), (1, 1, .int .i64 v)] = some (.agg (lnC (n, v))) := (rfl)
theorem RR (q : Nat × Int) : AH 2 [.agg (lnC q)] = some (.sl (enL lnC [q]) .tight) := by
 simp [AH, Cb, Aa.acells]; simp [lnC, LO, Bp, enL, Aa.isScal]
theorem Ext.ble {b id : Nat} {H H' : Ab} (h : Ext b id H H') (hb : b ≤ H.length) : b ≤ H'.length := Nat.le_trans hb h.len
theorem rd_line {v w : Aa} (h : RDx b0 p b a bx N st v w H) (q : Nat × Int) (hn : st.lines.length < 3000000000000) :
  ∃ w' H', AI CQ 2 16 w (.sl (enL lnC [q]) .tight) H = some (w', H') ∧ Al 1 (.ptr p 0 6) w' H' = some (H'.set p (.cel 0 (.str b :: .int .i64 (a : Int) :: rdR bx N st.law v w'))) ∧
   Ext b0 p H (H'.set p (.cel 0 (.str b :: .int .i64 (a : Int) :: rdR bx N st.law v w'))) ∧ RD b0 p b a bx N { st with lines := st.lines ++ [q] } (H'.set p (.cel 0 (.str b :: .int .i64 (a : Int) :: rdR bx N st.law v w'))) := by
 obtain ⟨w', H', ha, hr, hk, hg⟩ := RS.snoc2 (bytes := 16) h.lines h.ble q .tight (by omega) (by omega)
 have hc' := hk.cel _ _ h.lx
 have hlt' : p < H'.length := (List.getElem?_eq_some_iff.1 hc').1
 have hst := st_cel (o := 6) (v := w') hc' hr.one (by simp [rdR])
 have e2 : Ext b0 p H H' := ⟨hk.len, fun i cs _ hc => hk.cel i cs hc, hk.old⟩
 have e3 : ∀ cs, Ext b0 p H' (H'.set p (.cel 0 cs)) := fun cs => ⟨by simp, fun i c hi hc => by rw [List.getElem?_set_ne (Ne.symm hi)]; exact hc, fun i hi => by rw [List.getElem?_set_ne (by have := h.hb; omega)]⟩
 refine ⟨w', H', ha, hst, e2.trans (e3 _), v, w', h.hb, ?_, (h.nodes.stay hg (RS.apart h.nodes h.lines (by decide))).put hc', hr.put hc'⟩
 unfold Lx; rw [List.getElem?_set_self hlt']
theorem rd_leaf (h : RD b0 p b a bx N st H) (ha : a ≤ b.length) (hb : b.length < 1152921504606846976) (hn : st.nodes.length + 100 < 3000000000000) (hn2 : st.lines.length < 3000000000000) : NN b0 p b bx N H (Sh.f1l (.ptr p 0 0) H) (.tup []) (My b a st) := by
 obtain ⟨v, w, h⟩ := h
 have hal : ∀ K : Ab, AF (some [(.bool false), (.bool false), (.bool false), (.bool false), (.bool false), (.bool false), (.bool false), (.bool false), (.bool false), (.bool false), (.bool false), (.bool false), (.bool false), (.bool false), (.bool false), (.bool false), (.bool false), (.bool false), (.bool false), (.bool false), (.bool false), (.bool false), (.bool false), (.bool false), (.bool false), (.bool false), (.bool false), (.bool false), (.bool false), (.bool false), (.bool false), (.bool false), (.bool false), (.bool false), (.bool false), (.bool false), (.bool false), (.bool false), (.bool false), (.bool false), (.bool false), (.bool false), (.bool false), (.bool false), (.bool false), (.bool false), (.bool false), (.bool false), (.bool false), (.bool false), (.bool false), (.bool false), (.bool false), (.bool false), (.bool false), (.bool false), (.bool false), (.bool false), (.bool false), (.bool false), (.bool false), (.bool false), (.bool false), (.bool false)]) K = some (.ptr K.length 0 0, K ++ [.cel 0 (flat cB (List.replicate 64 false))]) := fun K => by
  rw [alloc_eq rfl]; rfl
 unfold Sh.f1l NN My
 rw [hal]
 simp only [GMb, GMc]
 rw [leaf_loop h.lx ha hb]
 have hle := GR b (b.length + 1 - a) a 0 0 (List.replicate 64 false) ha
 generalize Cy b (b.length + 1 - a) a 0 0 (List.replicate 64 false) = R at hle
 obtain ⟨er, c, on⟩ := R
 dsimp only at hle ⊢
 obtain ⟨h1, e1⟩ := h.go c [.cel 0 (flat cB on)]
 cases er with
 | some e => exact ⟨_, rfl, e1, _, _, h1⟩
 | none =>
  have hon : OnC H.length on (AK H p b (rdR bx N st.law v w) c ++ [.cel 0 (flat cB on)]) := by
   unfold OnC
   rw [← FI H p c b (rdR bx N st.law v w)]; exact AD
  have hld1 := B7 (o := 6) (sz := 1) h1.lx
  dsimp only
  generalize AK H p b (rdR bx N st.law v w) c ++ [.cel 0 (flat cB on)] = H1 at h1 e1 hon hld1 ⊢
  obtain ⟨H2, s1, s2, v2, s3⟩ := rd_square (w := w) (on := on) (q := H.length) (by rw [hle.2.2]; simp) (by have := h.lt; omega) 3 AM 0 0 st H1 (by omega) (by rw [Dm]; decide) (by decide) (by decide) (by decide) (by have : sqM 3 = 21 := rfl; omega) ⟨v, h1⟩ hon
  have hld2 := B7 (o := 6) (sz := 1) s3.lx
  obtain ⟨w3, H3, t1, t2, t3, t4⟩ := rd_line s3 ((sqF (onQ on) 3 0 0 st.nodes).length, 3) hn2
  unfold PT
  rw [show (((3 : Nat) : Int)) = 3 from rfl, show (((0 : Nat) : Int)) = 0 from rfl] at s1
  simp only [GMb, GMc, HPa, HPc, HPd, HPe, HPz, Nat.reduceAdd, Nat.reduceLT, s1, hld1, hld2, rdR, build_ln, RR, t1, t2]
  exact ⟨_, rfl, (e1.trans s2).trans t3, t4⟩

end
end Go.Gm
namespace Go.Gm
theorem MF {b : List UInt8} {i : Nat} (h : A8 b i BT = true) : ∃ hl : i < b.length, 48 ≤ b[i].toNat ∧ b[i].toNat ≤ 57 ∧ D3 b i = b[i].toNat - 48 := by
 have hl := Co h
 unfold A8 at h
 rw [List.getElem?_eq_getElem hl] at h
 unfold BT at h
 simp only [digs_mem, decide_eq_true_eq] at h
 refine ⟨hl, h.1, h.2, ?_⟩
 unfold D3
 rw [List.getD_eq_getElem?_getD, List.getElem?_eq_getElem hl]; rfl
theorem digV_le {b : List UInt8} {i : Nat} (h : A8 b i BT = true) : D3 b i ≤ 9 := by
 obtain ⟨hl, h1, h2, h3⟩ := MF h; omega
theorem dig_bin {b : List UInt8} {i : Nat} (h : A8 b i BT = true) (hl : i < b.length) : IntKind.u8.wrap ((b[i].toNat : Int) - 48) = (D3 b i : Int) ∧ IntKind.i64.wrap (D3 b i : Int) = (D3 b i : Int) := by
 obtain ⟨_, h1, h2, h3⟩ := MF h
 rw [h3]
 refine ⟨?_, by rw [CJ (by omega)]⟩
 rw [wrap_u8 (by omega) (by omega)]; omega
theorem OM (b : List UInt8) : ∀ k a n, a ≤ b.length → a ≤ (Gh b k a n).2.1 ∧ (Gh b k a n).2.1 ≤ b.length
 | 0, a, n, h => ⟨Nat.le_refl _, h⟩
 | k + 1, a, n, h => by
  unfold Gh
  cases hs : A8 b a BT with
  | true =>
   simp only [if_true]
   split
   ·exact ⟨Nat.le_refl _, h⟩
   ·have := OM b k (a + 1) (10 * n + D3 b a) (Co hs); omega
  | false =>
   simp only [Bool.false_eq_true, if_false]
   split <;> exact ⟨Nat.le_refl _, h⟩
theorem levF_ok (b : List UInt8) : ∀ k a n, n ≤ 1329 → a ≤ b.length → b.length < a + k → (Gh b k a n).1 = none → 0 < (Gh b k a n).2.2 ∧ (Gh b k a n).2.2 ≤ 1329
 | 0, a, n, h, ha, hk, _ => by omega
 | k + 1, a, n, h, ha, hk, he => by
  unfold Gh at he ⊢
  cases hs : A8 b a BT with
  | true =>
   rw [hs] at he
   simp only [if_true] at he ⊢
   split
   ·rename_i hgt; rw [if_pos hgt] at he; cases he
   ·rename_i hgt; rw [if_neg hgt] at he
    exact levF_ok b k (a + 1) _ (by omega) (Co hs) (by omega) he
  | false =>
   rw [hs] at he
   simp only [Bool.false_eq_true, if_false] at he ⊢
   split
   ·rename_i h0; rw [if_pos h0] at he; cases he
   ·rename_i h0; exact ⟨by dsimp only; omega, h⟩
section
variable {b0 p a : Nat} {b : List UInt8} {bx N : Int} {st : MSt} {H : Ab} {r : List Aa}
theorem lx_level (h : Lx H p b a r) (ha : a ≤ b.length) (hb : b.length < 1152921504606846976) :
  Sh.f1m (.ptr p 0 0) H = some (Me (Cc b a).1 (.int .i64 ((Cc b a).2.2 : Int)), AK H p b r (Cc b a).2.1) := by
 have hss := BG h
 unfold Sh.f1m Cc
 simp only [GMb, GMc, HPa, HPc, HPd, HPe, HPz, Nat.reduceAdd, Nat.reduceLT, BW h ha]
 cases h0 : A8 b a [48] with
 | true =>
  simp only [GMb, GMc, HPa, HPc, HPd, HPe, HPz, Nat.reduceAdd, Nat.reduceLT, DE h, if_true, Bo, hss]
 | false =>
  simp only [GMb, GMc, HPa, HPc, HPd, HPe, HPz, Nat.reduceAdd, Nat.reduceLT, Bool.false_eq_true, if_false]
  unfold Sh.f4v
  have key := Bt (G := fun rec2 vs H1 => Sh.f47 H rec2 (ag vs 0) (ag vs 1) H1) (σ := Nat × Nat) (fun s => s.1 ≤ b.length ∧ s.2 ≤ 1329) (fun s => [.ptr p 0 0, .int .i64 (s.2 : Int)]) (fun s => AK H p b r s.1) (fun s => b.length - s.1)
   (fun s => some (Me (Gh b (b.length + 1 - s.1) s.1 s.2).1 (.int .i64 ((Gh b (b.length + 1 - s.1) s.1 s.2).2.2 : Int)), AK H p b r (Gh b (b.length + 1 - s.1) s.1 s.2).2.1)) (fun s rec hi hrec => ?_) (a, 0) ⟨ha, by simp⟩ (by dsimp only; omega)
  ·rw [hss] at key; exact key
  ·obtain ⟨i, n⟩ := s
   obtain ⟨h1, h2⟩ := hi
   dsimp only at h1 h2 hrec ⊢
   have hx := C7 (a' := i) h
   have hsd := BW hx h1 BT
   unfold BT at hsd
   rw [show b.length + 1 - i = (b.length - i) + 1 by omega]
   have hds : A8 b i [48, 49, 50, 51, 52, 53, 54, 55, 56, 57] = A8 b i BT := rfl
   rw [hds] at hsd
   unfold Sh.f47
   simp only [GMb, GMc, HPa, HPc, HPd, HPe, HPz, Nat.reduceAdd, Nat.reduceLT, hsd]
   unfold Gh
   cases hs : A8 b i BT with
   | true =>
    obtain ⟨hlt, d1, d2, d3⟩ := MF hs
    obtain ⟨w1, w2⟩ := dig_bin hs hlt
    have hd9 := digV_le hs
    have w3 : IntKind.i64.wrap (10 * (n : Int)) = ((10 * n : Nat) : Int) := by rw [show (10 * (n : Int)) = ((10 * n : Nat) : Int) by omega, CJ (by omega)]
    have w4 : IntKind.i64.wrap (((10 * n : Nat) : Int) + (D3 b i : Int)) = ((10 * n + D3 b i : Nat) : Int) := K7 (by omega)
    simp only [GMb, GMc, HPa, HPc, HPd, HPe, HPz, Nat.reduceAdd, Nat.reduceLT, Dy hx, QB hx, Gv hlt, w1, BU, w2, w3, w4, if_true]
    by_cases hgt : 1329 < 10 * n + D3 b i
    ·have hgt' : ((10 * n + D3 b i : Nat) : Int) > 1329 := by omega
     simp only [hgt', GMb, GMc, HPa, HPc, HPd, HPe, HPz, Nat.reduceAdd, Nat.reduceLT, lx_limit, if_pos hgt, Bo]
     rfl
    ·have hgt' : ¬ ((10 * n + D3 b i : Nat) : Int) > 1329 := by omega
     have := hrec (i + 1, 10 * n + D3 b i) ⟨hlt, by dsimp only; omega⟩ (by dsimp only; omega)
     dsimp only at this
     rw [show b.length + 1 - (i + 1) = b.length - i by omega] at this
     unfold Sh.f4u
     simp only [hgt', GMb, GMc, HPa, HPc, HPd, HPe, HPz, Nat.reduceAdd, Nat.reduceLT, if_neg hgt, Dy hx, Aw (show i < 9223372036854775807 by omega), EY h]
     exact this
   | false =>
    by_cases hn : n = 0
    ·have hn' : ((0 : Nat) : Int) = 0 := rfl
     simp only [hn, hn', GMb, GMc, HPa, HPc, HPd, HPe, HPz, Nat.reduceAdd, Nat.reduceLT, DE hx, Bool.false_eq_true, if_false, if_true, Bo]
    ·have hn' : ¬ (n : Int) = 0 := by omega
     simp only [hn', hn, GMb, GMc, HPa, HPc, HPd, HPe, HPz, Nat.reduceAdd, Nat.reduceLT, Bool.false_eq_true, if_false, Bz]
theorem rd_may {v w : Aa} (h : RDx b0 p b a bx N st v w H) {level : Int} (h1 : 1 ≤ level) (h2 : level ≤ 1329) (n : Nat) (hn : n < 4000000000000000000) : Sh.fb (.ptr p 0 0) (.int .i64 level) (.int .i64 (n : Int)) H = some (.ret (.bool (CS st.lines level n)), H) := by
 have hld := B7 (o := 6) (sz := 1) h.lx
 have w1 : IntKind.i64.wrap (level - 1) = level - 1 := by rw [A0] <;> omega
 unfold Sh.fb CS
 by_cases hl : level = 1
 ·have : decide ((n : Int) ≤ 255) = decide (n ≤ 255) := by rw [Bool.eq_iff_iff]; simp only [decide_eq_true_eq]; omega
  simp only [hl, GMb, GMc, HPa, HPc, HPd, HPe, HPz, Nat.reduceAdd, Nat.reduceLT, this, if_true]
 ·simp only [hl, GMb, GMc, HPa, HPc, HPd, HPe, HPz, Nat.reduceAdd, Nat.reduceLT, if_false]
  by_cases h0 : n = 0
  ·have h0' : ((0 : Nat) : Int) = 0 := rfl
   simp only [h0, h0', GMb, GMc, HPa, HPc, HPd, HPe, HPz, Nat.reduceAdd, Nat.reduceLT, if_true]
  ·have h0' : ¬ (n : Int) = 0 := by omega
   simp only [h0', h0, GMb, GMc, HPa, HPc, HPd, HPe, HPz, Nat.reduceAdd, Nat.reduceLT, if_false, hld, rdR, h.lines.len]
   by_cases hle : n ≤ st.lines.length
   ·have hle' : (n : Int) ≤ (st.lines.length : Int) := by omega
    have hlt : n - 1 < st.lines.length := by omega
    have w2 : IntKind.i64.wrap ((n : Int) - 1) = ((n - 1 : Nat) : Int) := Du (by omega) (by omega)
    simp only [hle', GMb, GMc, HPa, HPc, HPd, HPe, HPz, Nat.reduceAdd, Nat.reduceLT, hld, rdR, w1, w2, h.lines.idx hlt, Ah, Au, lnC, List.getElem?_eq_getElem hlt]
   ·have hle' : ¬ (n : Int) ≤ (st.lines.length : Int) := by omega
    simp only [hle', GMb, GMc, HPa, HPc, HPd, HPe, HPz, Nat.reduceAdd, Nat.reduceLT, List.getElem?_eq_none (show st.lines.length ≤ n - 1 by omega)]
theorem Rm (lines : List (Nat × Int)) (level : Int) : CS lines level 0 = true := by
 unfold CS; split <;> simp
theorem PL (lines : List (Nat × Int)) (level : Int) : ∀ (f f' low high : Nat), 1 ≤ low → lines.length + 1 - low ≤ f → lines.length + 1 - low ≤ f' → FL lines level f low high = FL lines level f' low high := by
 intro f
 induction f with
 | zero =>
  intro f' low high h1 h2 h3
  cases f' with
  | zero => rfl
  | succ f' => unfold FL; rw [if_neg (by omega)]
 | succ f ih =>
  intro f' low high h1 h2 h3
  cases f' with
  | zero => unfold FL; rw [if_neg (by omega)]
  | succ f' =>
   unfold FL
   rw [ih f' (low * 10) (high * 10 + 9) (by omega) (by omega) (by omega)]
theorem Rc {v w : Aa} (h : RDx b0 p b a bx N st v w H) {level : Int} (h1 : 1 ≤ level) (h2 : level ≤ 1329) (n : Nat) (hn : n < 40000000000000) (hll : st.lines.length < 3000000000000) :
  Sh.fx (.ptr p 0 0) (.int .i64 level) (.int .i64 (n : Int)) H = some (.ret (.tup [.int .i64 (((Fe st.lines level n).getD 0 : Nat) : Int), .bool (Fe st.lines level n).isSome]), H) := by
 have hld := B7 (o := 6) (sz := 1) h.lx
 unfold Sh.fx Fe
 simp only [GMb, GMc, HPa, HPc, HPd, HPe, HPz, Nat.reduceAdd, Nat.reduceLT, rd_may h h1 h2 n (by omega)]
 cases hm : CS st.lines level n with
 | true => simp only [GMb, GMc, HPa, HPc, HPd, HPe, HPz, Nat.reduceAdd, Nat.reduceLT, rd_may h h1 h2 n (by omega), hm, if_true, Option.getD_some, Option.isSome_some]
 | false =>
  have hn0 : n ≠ 0 := fun e => by rw [e, Rm] at hm; cases hm
  have hn0' : ¬ (n : Int) = 0 := by omega
  have w1 : IntKind.i64.wrap ((n : Int) * 10) = ((n * 10 : Nat) : Int) := by rw [show ((n : Int) * 10) = ((n * 10 : Nat) : Int) by omega, CJ (by omega)]
  have w2 : IntKind.i64.wrap (((n * 10 : Nat) : Int) + 9) = ((n * 10 + 9 : Nat) : Int) := by rw [A0] <;> omega
  simp only [hn0', hn0, GMb, GMc, HPa, HPc, HPd, HPe, HPz, Nat.reduceAdd, Nat.reduceLT, w1, w2, Bool.false_eq_true, if_false]
  have key := Bt (G := fun rec1 vs H1 => Sh.f48 H rec1 (ag vs 0) (ag vs 1) (ag vs 2) (ag vs 3) H1) (σ := Nat × Nat) (fun s => 10 ≤ s.1 ∧ s.2 < 2 * s.1 ∧ s.1 ≤ s.2 ∧ s.1 < 400000000000000) (fun s => [.ptr p 0 0, .int .i64 level, .int .i64 (s.1 : Int), .int .i64 (s.2 : Int)]) (fun _ => H) (fun s => st.lines.length + 1 - s.1)
   (fun s => some (.ret (.tup [.int .i64 (((FL st.lines level (st.lines.length + 1 - s.1) s.1 s.2).getD 0 : Nat) : Int), .bool (FL st.lines level (st.lines.length + 1 - s.1) s.1 s.2).isSome]), H)) (fun s rec hi hrec => ?_) (n * 10, n * 10 + 9) ⟨by dsimp only; omega, by dsimp only; omega, by dsimp only; omega, by dsimp only; omega⟩ (by dsimp only; omega)
  ·rw [PL st.lines level (st.lines.length + 1) (st.lines.length + 1 - n * 10) _ _ (by omega) (by omega) (by omega)]
   exact key
  ·obtain ⟨low, high⟩ := s
   obtain ⟨i1, i2, i3, i4⟩ := hi
   dsimp only at i1 i2 i3 i4 hrec ⊢
   unfold Sh.f48
   simp only [GMb, GMc, HPa, HPc, HPd, HPe, HPz, Nat.reduceAdd, Nat.reduceLT, hld, rdR, h.lines.len]
   by_cases hle : low ≤ st.lines.length
   ·have hle' : (low : Int) ≤ (st.lines.length : Int) := by omega
    rw [show st.lines.length + 1 - low = (st.lines.length - low) + 1 by omega]
    unfold FL
    have w3 : IntKind.i64.wrap ((low : Int) * 10) = ((low * 10 : Nat) : Int) := by rw [show ((low : Int) * 10) = ((low * 10 : Nat) : Int) by omega, CJ (by omega)]
    have w4 : IntKind.i64.wrap ((high : Int) * 10) = ((high * 10 : Nat) : Int) := by rw [show ((high : Int) * 10) = ((high * 10 : Nat) : Int) by omega, CJ (by omega)]
    have w5 : IntKind.i64.wrap (((high * 10 : Nat) : Int) + 9) = ((high * 10 + 9 : Nat) : Int) := by rw [A0] <;> omega
    have hnext := hrec (low * 10, high * 10 + 9) ⟨by dsimp only; omega, by dsimp only; omega, by dsimp only; omega, by dsimp only; omega⟩ (by dsimp only; omega)
    dsimp only at hnext
    have inner := HH (G := fun rec2 vs H1 => Sh.f31 H rec rec2 (ag vs 0) (ag vs 1) (ag vs 2) (ag vs 3) (ag vs 4) H1) (min high st.lines.length + 1 - low) (fun i => CS st.lines level (low + i)) (fun i => [.ptr p 0 0, .int .i64 level, .int .i64 (low : Int), .int .i64 (high : Int), .int .i64 ((low + i : Nat) : Int)]) H
     (rec [.ptr p 0 0, .int .i64 level, .int .i64 ((low * 10 : Nat) : Int), .int .i64 ((high * 10 + 9 : Nat) : Int)] H) (fun i => some (.ret (.tup [.int .i64 ((low + i : Nat) : Int), .bool true]), H)) (by omega) (fun rec2 i hi => ?_) (fun rec2 => ?_)
    ·simp only [hle', GMb, GMc, HPa, HPc, HPd, HPe, HPz, Nat.reduceAdd, Nat.reduceLT, if_pos hle]
     rw [Nat.add_zero] at inner
     rw [inner]
     cases (List.range (min high st.lines.length + 1 - low)).find? (fun i => CS st.lines level (low + i)) with
     | some i => simp only [Option.getD_some, Option.isSome_some]
     | none =>
      simp only
      rw [hnext, PL st.lines level (st.lines.length + 1 - low * 10) (st.lines.length - low) _ _ (by omega) (by omega) (by omega)]
    ·have c1 : ((low + i : Nat) : Int) ≤ (high : Int) := by omega
     have c2 : ((low + i : Nat) : Int) ≤ (st.lines.length : Int) := by omega
     unfold Sh.f31
     simp only [GMb, GMc, HPa, HPc, HPd, HPe, HPz, Nat.reduceAdd, Nat.reduceLT, c1, c2, hld, rdR, h.lines.len, rd_may h h1 h2 (low + i) (by omega)]
     cases hmm : CS st.lines level (low + i) with
     | true => simp only [GMb, GMc, HPa, HPc, HPd, HPe, HPz, Nat.reduceAdd, Nat.reduceLT, if_true]
     | false => simp only [GMb, GMc, HPa, HPc, HPd, HPe, HPz, Nat.reduceAdd, Nat.reduceLT, Bool.false_eq_true, if_false, Aw (show low + i < 9223372036854775807 by omega)]; rfl
    ·unfold Sh.f31
     have hN : low + (min high st.lines.length + 1 - low) = min high st.lines.length + 1 := by omega
     rw [hN]
     by_cases hc : high ≤ st.lines.length
     ·have c1 : ¬ ((min high st.lines.length + 1 : Nat) : Int) ≤ (high : Int) := by omega
      simp only [GMb, GMc, HPa, HPc, HPd, HPe, HPz, Nat.reduceAdd, Nat.reduceLT, c1, w3, w4, w5]
     ·have c1 : ((min high st.lines.length + 1 : Nat) : Int) ≤ (high : Int) := by omega
      have c2 : ¬ ((min high st.lines.length + 1 : Nat) : Int) ≤ (st.lines.length : Int) := by omega
      simp only [GMb, GMc, HPa, HPc, HPd, HPe, HPz, Nat.reduceAdd, Nat.reduceLT, c1, c2, hld, rdR, h.lines.len, w3, w4, w5]
   ·have hle' : ¬ (low : Int) ≤ (st.lines.length : Int) := by omega
    rw [show st.lines.length + 1 - low = 0 by omega]
    unfold FL
    simp only [hle', GMb, GMc, HPa, HPc, HPd, HPe, HPz, Nat.reduceAdd, Nat.reduceLT, Option.getD_none, Option.isSome_none]
    rfl

end
end Go.Gm
namespace Go.Gm
theorem decN_mono : ∀ (m n : Nat), m ≤ n → (AU m).length ≤ (AU n).length := by
 intro m
 induction m using Nat.strongRecOn with
 | _ m ih =>
  intro n h
  by_cases hm : m < 10
  ·rw [Dp hm]
   unfold AU
   split <;> simp
  ·rw [Dq hm, Dq (n := n) (by omega), List.length_append, List.length_append]
   have := ih (m / 10) (by omega) (n / 10) (by omega)
   simp only [List.length_singleton]; omega
theorem longF_ge (lines : List (Nat × Int)) (level : Int) : ∀ (f low high k : Nat), 1 ≤ low → FL lines level f low high = some k → low ≤ k ∧ k ≤ lines.length := by
 intro f
 induction f with
 | zero => intro low high k _ h; cases h
 | succ f ih =>
  intro low high k h1 h
  unfold FL at h
  by_cases hl : low ≤ lines.length
  ·rw [if_pos hl] at h
   split at h
   ·rename_i i hf
    injection h with h
    have := List.mem_of_find?_eq_some hf
    rw [List.mem_range] at this
    omega
   ·have := ih _ _ _ (by omega) h; omega
  ·rw [if_neg hl] at h; cases h
theorem longS_ge {lines : List (Nat × Int)} {level : Int} {n k : Nat} (h : Fe lines level n = some k) : n ≤ k := by
 unfold Fe at h
 split at h
 ·injection h with h; omega
 ·split at h
  ·cases h
  ·have := longF_ge _ _ _ _ _ _ (by omega) h; omega
theorem mayB_le {lines : List (Nat × Int)} {level : Int} {n : Nat} (h : CS lines level n = true) : n ≤ max 255 lines.length := by
 unfold CS at h
 split at h
 ·simp only [decide_eq_true_eq] at h; omega
 ·split at h
  ·omega
  ·split at h
   ·rename_i hq
    have := (List.getElem?_eq_some_iff.1 hq).1; omega
   ·cases h
theorem longS_le {lines : List (Nat × Int)} {level : Int} {n k : Nat} (h : Fe lines level n = some k) : k ≤ max 255 lines.length := by
 unfold Fe at h
 split at h
 ·rename_i hm; injection h with h; rw [← h]; exact mayB_le hm
 ·split at h
  ·cases h
  ·have := longF_ge _ _ _ _ _ _ (by omega) h; omega
theorem kidF_le (b : List UInt8) (lines : List (Nat × Int)) (level : Int) (f : Nat) (rest : List UInt8) : ∀ k a n, a ≤ b.length → a ≤ (GS b lines level f rest k a n).2.1 ∧ (GS b lines level f rest k a n).2.1 ≤ b.length
 | 0, a, n, h => ⟨Nat.le_refl _, h⟩
 | k + 1, a, n, h => by
  unfold GS
  cases hs : A8 b a BT with
  | true =>
   simp only [if_true]
   split
   ·exact ⟨Nat.le_refl _, h⟩
   ·split
    ·have := kidF_le b lines level f rest k (a + 1) (10 * n + D3 b a) (Co hs); omega
    ·exact ⟨Nat.le_refl _, h⟩
  | false =>
   simp only [Bool.false_eq_true, if_false]
   split
   ·exact ⟨Nat.le_refl _, h⟩
   ·split <;> exact ⟨Nat.le_refl _, h⟩
section
variable {b0 p a : Nat} {b : List UInt8} {bx N : Int} {st : MSt} {H : Ab}
theorem rd_tell {v w : Aa} (h : RDx b0 p b a bx N st v w H) {level : Int} (h1 : 1 ≤ level) (n : Nat) (hm : CS st.lines level n = true) (hn : n < 4000000000000000000) : Sh.f32 H (.ptr p 0 0) (.int .i64 level) (.int .i64 (n : Int)) H = some (.ret (.int .i64 (BJ st.lines level n : Int)), H) := by
 have hld := B7 (o := 6) (sz := 1) h.lx
 unfold Sh.f32 BJ
 by_cases hl : 1 < level
 ·have hl' : level > 1 := hl
  by_cases h0 : 0 < n
  ·have h0' : (n : Int) > 0 := by omega
   have hlt : n - 1 < st.lines.length := by
    unfold CS at hm
    rw [if_neg (by omega), if_neg (by omega)] at hm
    split at hm
    ·rename_i hq; exact (List.getElem?_eq_some_iff.1 hq).1
    ·cases hm
   have w2 : IntKind.i64.wrap ((n : Int) - 1) = ((n - 1 : Nat) : Int) := Du (by omega) (by omega)
   simp only [hl', h0', GMb, GMc, HPa, HPc, HPd, HPe, HPz, Nat.reduceAdd, Nat.reduceLT, hld, rdR, w2, h.lines.idx hlt, Ah, Au, lnC, hl, h0, if_true, List.getElem?_eq_getElem hlt, Option.getD_some]
  ·have h0' : ¬ (n : Int) > 0 := by omega
   simp only [hl', h0', GMb, GMc, HPa, HPc, HPd, HPe, HPz, Nat.reduceAdd, Nat.reduceLT, h0, and_false, if_false]
 ·have hl' : ¬ level > 1 := hl
  simp only [hl', GMb, GMc, HPa, HPc, HPd, HPe, HPz, Nat.reduceAdd, Nat.reduceLT, hl, false_and, if_false]
theorem rd_kid {v w : Aa} (h : RDx b0 p b a bx N st v w H) (ha : a ≤ b.length) (hb : b.length < 1152921504606846976) {level : Int} (h1 : 1 ≤ level) (h2 : level ≤ 1329) (hll : st.lines.length < 3000000000000) (rest : List UInt8) (hr : rest.length ≤ 1000000) :
  ∃ x, Sh.f1n (.ptr p 0 0) (.int .i64 level) (.str rest) H = some (Me (M0 b a st.lines level rest).1 (.int .i64 x), AK H p b (rdR bx N st.law v w) (M0 b a st.lines level rest).2.1) ∧ ((M0 b a st.lines level rest).1 = none → x = ((M0 b a st.lines level rest).2.2 : Int)) := by
 have hss := BG h.lx
 have key := Bt (G := fun rec1 vs H1 => Sh.f4b H rec1 (ag vs 0) (ag vs 1) (ag vs 2) (ag vs 3) (ag vs 4) H1) (σ := Nat × Nat) (fun s => a ≤ s.1 ∧ s.1 ≤ b.length ∧ s.2 ≤ max 255 st.lines.length ∧ (a < s.1 → (AU s.2).length = s.1 - a ∧ (Fe st.lines level s.2).isSome = true) ∧ (s.1 = a → s.2 = 0))
  (fun s => [.ptr p 0 0, .int .i64 level, .str rest, .int .i64 (s.2 : Int), .int .i64 (a : Int)]) (fun s => AK H p b (rdR bx N st.law v w) s.1) (fun s => b.length - s.1)
  (fun s => some (Me (GS b st.lines level a rest (b.length + 1 - s.1) s.1 s.2).1 (.int .i64 (BJ st.lines level (GS b st.lines level a rest (b.length + 1 - s.1) s.1 s.2).2.2 : Int)), AK H p b (rdR bx N st.law v w) (GS b st.lines level a rest (b.length + 1 - s.1) s.1 s.2).2.1)) (fun s rec hi hrec => ?_) (a, 0) ⟨Nat.le_refl _, ha, Nat.zero_le _, fun h => absurd h (by simp), fun _ => rfl⟩ (by dsimp only; omega)
 ·rw [hss] at key
  refine ⟨_, ?_, fun _ => rfl⟩
  unfold Sh.f1n M0
  simp only [GMb, GMc, HPa, HPc, HPd, HPe, HPz, Nat.reduceAdd, Nat.reduceLT, Dy h.lx]
  exact key
 ·obtain ⟨i, n⟩ := s
  obtain ⟨i0, i1, i2, i3, i4⟩ := hi
  dsimp only at i0 i1 i2 i3 i4 hrec ⊢
  have hR := h.move i
  have hx := hR.lx
  have hsd := BW hx i1 BT
  have hds : A8 b i [48, 49, 50, 51, 52, 53, 54, 55, 56, 57] = A8 b i BT := rfl
  unfold BT at hsd
  rw [hds] at hsd
  rw [show b.length + 1 - i = (b.length - i) + 1 by omega]
  unfold Sh.f4b
  simp only [GMb, GMc, HPa, HPc, HPd, HPe, HPz, Nat.reduceAdd, Nat.reduceLT, Az, hsd]
  unfold GS
  cases hs : A8 b i BT with
  | true =>
   obtain ⟨hlt, d1, d2, d3⟩ := MF hs
   obtain ⟨w1, w2⟩ := dig_bin hs hlt
   have hd9 := digV_le hs
   have go : ¬ (a < i ∧ n = 0) → Sh.f4a H (fun vs H1 => Sh.f49 H rec (ag vs 0) (ag vs 1) (ag vs 2) (ag vs 3) (ag vs 4) H1) (.ptr p 0 0) (.int .i64 level) (.str rest) (.int .i64 (n : Int)) (.int .i64 (a : Int)) (AK H p b (rdR bx N st.law v w) i) =
     some (Me (if (Fe st.lines level (10 * n + D3 b i)).isSome then GS b st.lines level a rest (b.length - i) (i + 1) (10 * n + D3 b i) else (some (FF b i []), i, n)).1 (.int .i64 (BJ st.lines level (if (Fe st.lines level (10 * n + D3 b i)).isSome then GS b st.lines level a rest (b.length - i) (i + 1) (10 * n + D3 b i) else (some (FF b i []), i, n)).2.2 : Int)), AK H p b (rdR bx N st.law v w) (if (Fe st.lines level (10 * n + D3 b i)).isSome then GS b st.lines level a rest (b.length - i) (i + 1) (10 * n + D3 b i) else (some (FF b i []), i, n)).2.1) := by
    intro hn
    have w3 : IntKind.i64.wrap (10 * (n : Int)) = ((10 * n : Nat) : Int) := by rw [show (10 * (n : Int)) = ((10 * n : Nat) : Int) by omega, CJ (by omega)]
    have w4 : IntKind.i64.wrap (((10 * n : Nat) : Int) + (D3 b i : Int)) = ((10 * n + D3 b i : Nat) : Int) := K7 (by omega)
    unfold Sh.f4a
    simp only [GMb, GMc, HPa, HPc, HPd, HPe, HPz, Nat.reduceAdd, Nat.reduceLT, Dy hx, QB hx, Gv hlt, w1, BU, w2, w3, w4, Rc hR h1 h2 (10 * n + D3 b i) (by omega) hll]
    cases hl : Fe st.lines level (10 * n + D3 b i) with
    | none =>
     simp only [GMb, GMc, HPa, HPc, HPd, HPe, HPz, Nat.reduceAdd, Nat.reduceLT, Option.isSome_none, DE hx, Bool.false_eq_true, if_false, Bo]
    | some k =>
     have hk1 := longS_ge hl
     have hk2 := longS_le hl
     have hlen : (AU (10 * n + D3 b i)).length = i + 1 - a := by
      by_cases hai : a < i
      ·have hn0 : n ≠ 0 := fun e => hn ⟨hai, e⟩
       rw [Dq (by omega), List.length_append, show (10 * n + D3 b i) / 10 = n by omega, (i3 hai).1, List.length_singleton]; omega
      ·have hia : i = a := by omega
       rw [i4 hia, Dp (by omega), List.length_singleton]; omega
     have := hrec (i + 1, 10 * n + D3 b i) ⟨by dsimp only; omega, hlt, by dsimp only; omega, fun _ => ⟨hlen, by rw [hl]; rfl⟩, fun e => by dsimp only at e; omega⟩ (by dsimp only; omega)
     dsimp only at this
     rw [show b.length + 1 - (i + 1) = b.length - i by omega] at this
     unfold Sh.f49
     simp only [GMb, GMc, HPa, HPc, HPd, HPe, HPz, Nat.reduceAdd, Nat.reduceLT, Option.isSome_some, if_true, Dy hx, Aw (show i < 9223372036854775807 by omega), EY h.lx]
     exact this
   simp only [GMb, GMc, HPa, HPc, HPd, HPe, HPz, Nat.reduceAdd, Nat.reduceLT, Dy hx, if_true]
   by_cases hai : a < i
   ·have hai' : (i : Int) > (a : Int) := by omega
    simp only [hai', GMb, GMc, HPa, HPc, HPd, HPe, HPz, Nat.reduceAdd, Nat.reduceLT]
    by_cases hn : n = 0
    ·have hn' : ((0 : Nat) : Int) = 0 := rfl
     simp only [hn, hn', GMb, GMc, HPa, HPc, HPd, HPe, HPz, Nat.reduceAdd, Nat.reduceLT, hai, if_true, DE hx, Bo]
    ·have hn' : ¬ (n : Int) = 0 := by omega
     simp only [hn', hn, GMb, GMc, HPa, HPc, HPd, HPe, HPz, Nat.reduceAdd, Nat.reduceLT, and_false, if_false]
     exact go (fun hc => hn hc.2)
   ·have hai' : ¬ (i : Int) > (a : Int) := by omega
    simp only [hai', GMb, GMc, HPa, HPc, HPd, HPe, HPz, Nat.reduceAdd, Nat.reduceLT, hai, false_and, if_false]
    exact go (fun hc => hai hc.1)
  | false =>
   simp only [GMb, GMc, HPa, HPc, HPd, HPe, HPz, Nat.reduceAdd, Nat.reduceLT, Dy hx, Bool.false_eq_true, if_false]
   by_cases hia : i = a
   ·have hia' : (i : Int) = (a : Int) := by omega
    have hcat : Af .none .add (.str [48]) (.str rest) = some (.str (48 :: rest)) := B5 (by simp only [List.length_cons, List.length_nil]; omega)
    rw [if_pos hia]
    simp only [hia', GMb, GMc, HPa, HPc, HPd, HPe, HPz, Nat.reduceAdd, Nat.reduceLT, hcat, DE hx, Bo]
   ·have hia' : ¬ (i : Int) = (a : Int) := by omega
    obtain ⟨k1, k2⟩ := i3 (by omega)
    rw [if_neg hia]
    unfold Sh.f4w
    simp only [hia', GMb, GMc, HPa, HPc, HPd, HPe, HPz, Nat.reduceAdd, Nat.reduceLT, rd_may hR h1 h2 n (by omega)]
    cases hm : CS st.lines level n with
    | true =>
     simp only [GMb, GMc, HPa, HPc, HPd, HPe, HPz, Nat.reduceAdd, Nat.reduceLT, if_true, Bz]
     have := rd_tell hR h1 n hm (by omega)
     unfold Sh.f32 at this ⊢
     exact this
    | false =>
     simp only [GMb, GMc, HPa, HPc, HPd, HPe, HPz, Nat.reduceAdd, Nat.reduceLT, Bool.false_eq_true, if_false, Rc hR h1 h2 n (by omega) hll]
     obtain ⟨k, hk⟩ := Option.isSome_iff_exists.1 k2
     have hge := longS_ge hk
     have hle := longS_le hk
     have hit : Sh.f14 (.int .i64 (k : Int)) (AK H p b (rdR bx N st.law v w) i) = some (.ret (.str (AU k)), AK H p b (rdR bx N st.law v w) i) := by
      unfold Sh.f14
      simp only
      rw [if_pos ⟨by omega, by omega⟩, Lib.itoa, if_neg (by omega), Int.toNat_natCast, decN_lib]
     have hmono := decN_mono n k hge
     have hw : IntKind.i64.wrap ((i : Int) - (a : Int)) = ((i - a : Nat) : Int) := by rw [A0] <;> omega
     have hklen := decN_len k
     have hcat : Af .none .add (.str ((AU k).drop (i - a))) (.str rest) = some (.str ((AU k).drop (i - a) ++ rest)) := B5 (by rw [List.length_drop]; omega)
     simp only [hk, Option.getD_some, hit, GMb, GMc, HPa, HPc, HPd, HPe, HPz, Nat.reduceAdd, Nat.reduceLT, Dy hx, hw, Df (show i - a ≤ (AU k).length by omega), hcat, DE hx, Bo]

end
end Go.Gm
namespace Go.Gm
end Go.Gm
namespace Go.Gm
end Go.Gm
namespace Go.Gm
theorem KC {r : Nat} (h : r < 10) : (UInt8.ofNat (48 + r)).toNat = 48 + r := UInt8.toNat_ofNat_of_lt' (show 48 + r < 256 by omega)
theorem RG (n : Nat) : Fu (AU n) = n := by
 induction n using Nat.strongRecOn with
 | ind n ih =>
  by_cases hn : n < 10
  ·rw [Dp hn]
   have := KO [] (UInt8.ofNat (48 + n))
   rw [List.nil_append, KC hn, show Fu [] = 0 from rfl] at this
   rw [this]; omega
  ·rw [Dq hn, KO, ih (n / 10) (by omega), KC (Nat.mod_lt _ (by omega))]
   omega
theorem decN_dig (n : Nat) : ∀ c ∈ AU n, Fy c = true := by
 induction n using Nat.strongRecOn with
 | ind n ih =>
  intro c hc
  by_cases hn : n < 10
  ·rw [Dp hn, List.mem_singleton] at hc
   rw [hc, FB, KC hn]; omega
  ·rw [Dq hn] at hc
   rcases List.mem_append.1 hc with h | h
   ·exact ih (n / 10) (by omega) c h
   ·have := Nat.mod_lt n (show 10 > 0 by omega)
    rw [List.mem_singleton.1 h, FB, KC this]; omega
end Go.Gm
namespace Go.Gm
theorem decN_inj {m n : Nat} (h : AU m = AU n) : m = n := by
 have := congrArg Fu h
 rwa [RG, RG] at this
theorem dec_pre {m : Nat} (hm : m ≠ 0) : ∀ (k : Nat), (∃ s, AU k = AU m ++ s) ↔ ∃ j, k / 10 ^ j = m := by
 intro k
 constructor
 ·intro h
  induction k using Nat.strongRecOn with
  | _ k ih =>
   obtain ⟨s, h⟩ := h
   rcases List.eq_nil_or_concat s with hs | ⟨s', c, hs⟩
   ·rw [hs, List.append_nil] at h; exact ⟨0, by simp [decN_inj h]⟩
   ·rw [List.concat_eq_append] at hs
    subst hs
    by_cases hk : k < 10
    ·rw [Dp hk] at h
     have := congrArg List.length h
     have := decN_pos m
     simp only [List.length_append, List.length_singleton] at *; omega
    ·rw [Dq hk, ← List.append_assoc] at h
     obtain ⟨h1, _⟩ := List.append_inj' h rfl
     obtain ⟨j, hj⟩ := ih (k / 10) (by omega) ⟨s', h1⟩
     exact ⟨j + 1, by rw [Nat.pow_succ, Nat.mul_comm, ← Nat.div_div_eq_div_mul]; exact hj⟩
 ·rintro ⟨j, h⟩
  have hp : 0 < 10 ^ j := Nat.pow_pos (by decide)
  have e : k = m * 10 ^ j + k % 10 ^ j := by rw [← h, Nat.mul_comm]; exact (Nat.div_add_mod k (10 ^ j)).symm
  have hj := RJ (q := m) (by omega) j (k % 10 ^ j) (Nat.mod_lt _ hp)
  rw [← e] at hj
  exact ⟨_, hj⟩
theorem longF_iff (lines : List (Nat × Int)) (level : Int) : ∀ (f j m : Nat), m ≠ 0 → lines.length + 1 - m * 10 ^ j ≤ f → ((FL lines level f (m * 10 ^ j) (m * 10 ^ j + 10 ^ j - 1)).isSome = true ↔ ∃ k j', j ≤ j' ∧ k / 10 ^ j' = m ∧ k ≤ lines.length ∧ CS lines level k = true) := by
 intro f
 induction f with
 | zero =>
  intro j m hm hf
  constructor
  ·intro h; cases h
  ·rintro ⟨k, j', h1, h2, h3, h4⟩
   have hp : 10 ^ j ≤ 10 ^ j' := Nat.pow_le_pow_right (by decide) h1
   have : m * 10 ^ j' ≤ k := by rw [← h2]; exact Nat.div_mul_le_self k _
   have : m * 10 ^ j ≤ m * 10 ^ j' := Nat.mul_le_mul_left _ hp
   omega
 | succ f ih =>
  intro j m hm hf
  have hp : 0 < 10 ^ j := Nat.pow_pos (by decide)
  have hmp : 1 ≤ m * 10 ^ j := Nat.mul_pos (by omega) hp
  have e1 : m * 10 ^ j * 10 = m * 10 ^ (j + 1) := by rw [Nat.pow_succ, Nat.mul_assoc]
  have e2 : (m * 10 ^ j + 10 ^ j - 1) * 10 + 9 = m * 10 ^ (j + 1) + 10 ^ (j + 1) - 1 := by rw [← e1, Nat.pow_succ]; omega
  unfold FL
  by_cases hl : m * 10 ^ j ≤ lines.length
  ·rw [if_pos hl]
   cases hfd : (List.range (min (m * 10 ^ j + 10 ^ j - 1) lines.length + 1 - m * 10 ^ j)).find? (fun i => CS lines level (m * 10 ^ j + i)) with
   | some i =>
    have hmem := List.mem_of_find?_eq_some hfd
    have hmay := List.find?_some hfd
    rw [List.mem_range] at hmem
    simp only [Option.isSome_some, true_iff]
    refine ⟨m * 10 ^ j + i, j, Nat.le_refl _, ?_, by omega, hmay⟩
    have : i < 10 ^ j := by omega
    rw [Nat.mul_comm, Nat.mul_add_div hp, Nat.div_eq_of_lt this, Nat.add_zero]
   | none =>
    simp only
    rw [e1, e2, ih (j + 1) m hm (by rw [← e1]; omega)]
    constructor
    ·rintro ⟨k, j', h1, h2, h3, h4⟩; exact ⟨k, j', by omega, h2, h3, h4⟩
    ·rintro ⟨k, j', h1, h2, h3, h4⟩
     by_cases hj : j = j'
     ·exfalso
      subst hj
      have hk : k = m * 10 ^ j + k % 10 ^ j := by rw [← h2, Nat.mul_comm]; exact (Nat.div_add_mod k (10 ^ j)).symm
      have hr : k % 10 ^ j < 10 ^ j := Nat.mod_lt _ hp
      have := List.find?_eq_none.1 hfd (k % 10 ^ j) (by rw [List.mem_range]; omega)
      rw [← hk] at this
      exact this h4
     ·exact ⟨k, j', by omega, h2, h3, h4⟩
  ·rw [if_neg hl]
   constructor
   ·intro h; cases h
   ·rintro ⟨k, j', h1, h2, h3, h4⟩
    have hpp : 10 ^ j ≤ 10 ^ j' := Nat.pow_le_pow_right (by decide) h1
    have : m * 10 ^ j' ≤ k := by rw [← h2]; exact Nat.div_mul_le_self k _
    have : m * 10 ^ j ≤ m * 10 ^ j' := Nat.mul_le_mul_left _ hpp
    omega
theorem mayB_le2 {lines : List (Nat × Int)} {level : Int} {n : Nat} (hl : level ≠ 1) (h : CS lines level n = true) : n ≤ lines.length := by
 unfold CS at h
 rw [if_neg hl] at h
 split at h
 ·omega
 ·split at h
  ·rename_i hq
   have := (List.getElem?_eq_some_iff.1 hq).1; omega
  ·cases h
theorem longS_iff (lines : List (Nat × Int)) (level : Int) (m : Nat) : (Fe lines level m).isSome = true ↔ ∃ k s, AU k = AU m ++ s ∧ CS lines level k = true := by
 unfold Fe
 by_cases hm : CS lines level m = true
 ·rw [if_pos hm]
  exact ⟨fun _ => ⟨m, [], by simp, hm⟩, fun _ => rfl⟩
 ·have hm0 : m ≠ 0 := fun e => hm (by rw [e]; exact Rm _ _)
  rw [if_neg hm, if_neg hm0]
  have key := longF_iff lines level (lines.length + 1) 1 m hm0 (by omega)
  rw [Nat.pow_one, show m * 10 + 10 - 1 = m * 10 + 9 by omega] at key
  rw [key]
  constructor
  ·rintro ⟨k, j, h1, h2, h3, h4⟩
   obtain ⟨s, hs⟩ := (dec_pre hm0 k).2 ⟨j, h2⟩
   exact ⟨k, s, hs, h4⟩
  ·rintro ⟨k, s, hs, h4⟩
   obtain ⟨j, hj⟩ := (dec_pre hm0 k).1 ⟨s, hs⟩
   by_cases hj0 : j = 0
   ·exfalso; apply hm; rw [hj0, Nat.pow_zero, Nat.div_one] at hj; rw [← hj]; exact h4
   ·by_cases hl : level = 1
    ·exfalso
     have hk : k ≤ 255 := by unfold CS at h4; rw [if_pos hl] at h4; exact of_decide_eq_true h4
     apply hm
     unfold CS
     rw [if_pos hl, decide_eq_true_eq]
     have : m ≤ k := by rw [← hj]; exact Nat.div_le_self _ _
     omega
    ·exact ⟨k, j, by omega, hj, mayB_le2 hl h4, h4⟩
end Go.Gm
