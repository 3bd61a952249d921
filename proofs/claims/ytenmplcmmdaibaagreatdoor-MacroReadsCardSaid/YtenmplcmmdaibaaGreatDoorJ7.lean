/- Texts of this proof, joined. -/
import Derived.Test.YtenmplcmmdaibaaGreatDoorJ4
import Derived.Test.YtenmplcmmdaibaaGreatDoorJ5
import Derived.Test.YtenmplcmmdaibaaGreatDoorJ6
set_option linter.unusedVariables false
set_option linter.unusedSimpArgs false
namespace Go.Gm
theorem Nh (y : Nd) : Ir y = (List.range 4).all fun k => decide (y.kid k = 0) := by
 rw [MX]
 simp only [Ir, Bool.and_assoc]
 rfl
theorem Hu {L : List Nd} {v n : Nat} {out : List Nd} (h : n = 0 ∨ (Az L).getD n true = true) : AN L (Az L) v n out = (out, 0) := by
 have he : (Az L).getD n true = true := by
  rcases h with h | h
  ·rw [h]; exact Fz L
  ·exact h
 cases v with
 | zero => rfl
 | succ v => simp only [AN, he, if_true]
theorem insF_pos {L : List Nd} {v n : Nat} {out : List Nd} (h : (Az L).getD n true = false) : 0 < (AN L (Az L) (v + 1) n out).2 := by
 simp only [AN, h, Bool.false_eq_true, if_false]
 split
 ·exact Q5 _ _
 ·exact Q5 _ _
theorem O0 (rec : Nat → List Nd → List Nd × Nat) (x : Nd) (out : List Nd) : ∀ k, k ≤ 4 → ∀ j, j < k → (B2 rec x k out).2.kid j = ((rec (x.kid j).toNat (B2 rec x j out).1).2 : Int)
 | 0, _, j, h => by omega
 | k + 1, hk, j, h => by
  simp only [B2]
  by_cases e : j = k
  ·subst e; rw [KE _ _ (by omega)]
  ·rw [Ez _ _ (by omega) (by omega) e]; exact O0 rec x out k (by omega) j (by omega)
theorem SH {L : List Nd} {v : Nat} (x : Nd) (out : List Nd) (h : ∀ k, k < 4 → (x.kid k).toNat = 0 ∨ (Az L).getD (x.kid k).toNat true = true) : ∀ k, k ≤ 4 → (B2 (AN L (Az L) v) x k out).1 = out
 | 0, _ => rfl
 | k + 1, hk => by
  simp only [B2]
  rw [Hu (h k (by omega))]
  exact SH x out h k (by omega)
theorem intern_ins {L : List Nd} (hl : AD L = true) {m v : Nat} (hm : m < L.length) (hv : L[m].lv.toNat = v + 1) (out : List Nd) :
  FL (B2 (AN L (Az L) v) L[m] (if 1 < L[m].lv then 4 else 0) out).1 (B2 (AN L (Az L) v) L[m] (if 1 < L[m].lv then 4 else 0) out).2 = AN L (Az L) (v + 1) (m + 1) out := by
 obtain ⟨l1, l2, l3⟩ := A8 hl hm
 have hx : A4 L ((m + 1 : Nat) : Int) = L[m] := Bb hm
 have he := emp_iff hl (n := m + 1) (by omega) hm
 rw [hx] at he
 by_cases h1 : 1 < L[m].lv
 ·rw [if_pos h1]
  cases hE : (Az L).getD (m + 1) true with
  | true =>
   rw [hE] at he
   have hk : ∀ k, k < 4 → (L[m].kid k).toNat = 0 ∨ (Az L).getD (L[m].kid k).toNat true = true := fun k hk => by
    have := List.all_eq_true.1 he.symm k (by simpa using hk)
    simp only [Bool.or_eq_true, decide_eq_true_eq, Bool.and_eq_true] at this
    rcases this with h | h
    ·left; rw [h]; rfl
    ·exact .inr h.2
   have hn : Ir (B2 (AN L (Az L) v) L[m] 4 out).2 = true := by
    rw [Nh, List.all_eq_true]
    intro k hk'
    have hk4 : k < 4 := by simpa using hk'
    rw [decide_eq_true_eq, O0 _ _ _ 4 (by omega) k hk4, Hu (hk k hk4)]; rfl
   unfold FL
   rw [hn, if_pos rfl, SH _ _ hk 4 (by omega)]
   simp only [AN, hE, if_true]
  | false =>
   rw [hE] at he
   have : ¬ ∀ k, k < 4 → (L[m].kid k = 0 ∨ (Az L).getD (L[m].kid k).toNat true = true) := fun h => by
    have : ((List.range 4).all fun k => decide (L[m].kid k = 0) || (decide (1 < L[m].lv) && (Az L).getD (L[m].kid k).toNat true)) = true := by
     rw [List.all_eq_true]
     intro k hk
     have := h k (by simpa using hk)
     simp only [Bool.or_eq_true, decide_eq_true_eq, Bool.and_eq_true]
     rcases this with q | q
     ·exact .inl q
     ·exact .inr ⟨h1, q⟩
    rw [this] at he; cases he
   have ⟨k, hk4, hk0⟩ : ∃ k, k < 4 ∧ ¬ (L[m].kid k = 0 ∨ (Az L).getD (L[m].kid k).toNat true = true) := by
    by_cases h : ∃ k, k < 4 ∧ ¬ (L[m].kid k = 0 ∨ (Az L).getD (L[m].kid k).toNat true = true)
    ·exact h
    ·exact absurd (fun k hk => Decidable.byContradiction fun hc => h ⟨k, hk, hc⟩) this
   have hn : Ir (B2 (AN L (Az L) v) L[m] 4 out).2 = false := by
    rw [Nh, List.all_eq_false]
    refine ⟨k, by simpa using hk4, ?_⟩
    rw [decide_eq_true_eq, O0 _ _ _ 4 (by omega) k hk4]
    obtain ⟨v', rfl⟩ : ∃ v', v = v' + 1 := ⟨v - 1, by omega⟩
    have := insF_pos (L := L) (v := v') (n := (L[m].kid k).toNat) (out := (B2 (AN L (Az L) (v' + 1)) L[m] k out).1) (by
     cases hq : (Az L).getD (L[m].kid k).toNat true with
     | false => rfl
     | true => exact absurd (.inr hq) hk0)
    omega
   unfold FL
   rw [hn]
   simp only [AN, hE, Bool.false_eq_true, if_false, hx, if_pos h1]
 ·rw [if_neg h1]
  have hn : Ir L[m] = (Az L).getD (m + 1) true := by
   rw [he, Nh, MX, MX]
   simp [h1]
  unfold FL
  simp only [B2, AN, hn, hx, if_neg h1]
structure Seat where
 b : Nat
 pd : Nat
 pl : Nat
 pv : Nat
 pa : Nat
 ar : Nat
 km : Nat
 dm : Nat
structure VQ (s : Seat) (L : List Nd) (tk : Tok) (out : List Nd) (D : List (Nat × Nat)) (H : Aa) : Prop where
 hb : s.b ≤ s.ar ∧ s.b ≤ s.km ∧ s.b ≤ s.dm ∧ s.km ≠ s.dm
 ne : s.pd ≠ s.ar ∧ s.pl ≠ s.ar ∧ s.pv ≠ s.ar ∧ s.pa ≠ s.ar
 done : H[s.pd]? = some (.cel 0 [.mp s.dm])
 list : H[s.pl]? = some (.cel 0 [.sl (enL cNd L) tk])
 self : H[s.pv]? = some (.cel 0 [.fn 50 [.ptr s.pd 0 0, .ptr s.pl 0 0, .ptr s.pv 0 0, .ptr s.pa 0 0]])
 arena : H[s.pa]? = some (.cel 0 [.ptr s.ar 0 0])
 nodes : ∃ v, AR s.b s.ar s.km out v H
 nums : H[s.dm]? = some (.map (dnM D))
structure VD (L out : List Nd) (D : List (Nat × Nat)) : Prop where
 nd : (D.map (·.1)).Nodup
 le : ∀ p ∈ D, p.1 ≤ L.length
 val : ∀ p ∈ D, AN L (Az L) (A4 L (p.1 : Int)).lv.toNat p.1 out = (out, p.2)
 cnt : out.length < D.length
 zero : lkD D 0 = some 0
theorem VD.short {L out : List Nd} {D : List (Nat × Nat)} (h : VD L out D) : out.length ≤ L.length := by
 have := nodup_le (L.length + 1) (D.map (·.1)) h.nd (fun x hx => by
  obtain ⟨p, hp, rfl⟩ := List.mem_map.1 hx
  have := h.le p hp; omega)
 rw [List.length_map] at this
 have := h.cnt; omega
theorem VQ.len {s : Seat} {L : List Nd} {tk : Tok} {out : List Nd} {D : List (Nat × Nat)} {H : Aa} (h : VQ s L tk out D H) : s.b ≤ H.length := by
 obtain ⟨v, h1⟩ := h.nodes
 have := (List.getElem?_eq_some_iff.1 h1.cell).1
 have := h.hb.1; omega
theorem VQ.cells {s : Seat} {L : List Nd} {tk : Tok} {out : List Nd} {D : List (Nat × Nat)} {H H' : Aa} (h : VQ s L tk out D H) (hk : ∀ i, i < H.length → H'[i]? = H[i]?) (hl : H.length ≤ H'.length) : VQ s L tk out D H' := by
 have g : ∀ {i : Nat} {x : Blk}, H[i]? = some x → H'[i]? = some x := fun hx => by rw [hk _ (List.getElem?_eq_some_iff.1 hx).1]; exact hx
 obtain ⟨v, h1⟩ := h.nodes
 refine ⟨h.hb, h.ne, g h.done, g h.list, g h.self, g h.arena, ⟨v, g h1.cell, ?_, g h1.known⟩, g h.nums⟩
 rcases h1.row with r | ⟨t, r1, r2, r3⟩
 ·exact .inl r
 ·exact .inr ⟨t, r1, r2, g r3⟩
theorem VQ.put {s : Seat} {L : List Nd} {tk : Tok} {out : List Nd} {D : List (Nat × Nat)} {H : Aa} {q : Nat} {x y : Nd} (h : VQ s L tk out D H) (hq : H[q]? = some (.cel 0 (cNd x))) : VQ s L tk out D (H.set q (.cel 0 (cNd y))) := by
 obtain ⟨v, h1⟩ := h.nodes
 have n5 : ∀ {i : Nat} {c : List Ab}, H[i]? = some (.cel 0 c) → c.length ≠ 5 → (H.set q (.cel 0 (cNd y)))[i]? = some (.cel 0 c) := fun {i c} hi hc => by
  have : q ≠ i := fun e => by rw [e, hi] at hq; injection hq with hq; injection hq with _ hq; rw [hq] at hc; exact hc rfl
  rw [List.getElem?_set_ne this]; exact hi
 have nm : ∀ {i : Nat} {es : List (Ab × Ab)}, H[i]? = some (.map es) → (H.set q (.cel 0 (cNd y)))[i]? = some (.map es) := fun {i es} hi => by
  have : q ≠ i := fun e => by rw [e, hi] at hq; cases hq
  rw [List.getElem?_set_ne this]; exact hi
 exact ⟨h.hb, h.ne, n5 h.done (by simp), n5 h.list (by simp), n5 h.self (by simp), n5 h.arena (by simp), ⟨v, n5 h1.cell (by simp), h1.row.put hq, nm h1.known⟩, nm h.nums⟩
theorem VD.grow {L out : List Nd} {D : List (Nat × Nat)} (h : VD L out D) (r : List Nd) : ∀ p ∈ D, AN L (Az L) (A4 L (p.1 : Int)).lv.toNat p.1 (out ++ r) = (out ++ r, p.2) := by
 intro p hp
 have h3 := h.val p hp
 have := Gk (L := L) (E := Az L) (A4 L (p.1 : Int)).lv.toNat p.1 out r
 rwa [h3] at this
theorem c06_visit {s : Seat} {L : List Nd} {tk : Tok} (hL : L.length < 2000000000000) (hl : AD L = true) : ∀ (v n d : Nat) (out : List Nd) (D : List (Nat × Nat)) (H : Aa), n ≤ L.length → (n = 0 ∨ (A4 L (n : Int)).lv.toNat = v) → v < d → VQ s L tk out D H → VD L out D →
  ∃ H' D', Sh.f8 d (.int .i64 (n : Int)) (.ptr s.pd 0 0) (.ptr s.pl 0 0) (.ptr s.pv 0 0) (.ptr s.pa 0 0) H = some (.ret (.int .i64 ((AN L (Az L) v n out).2 : Int)), H') ∧
   VQ s L tk (AN L (Az L) v n out).1 D' H' ∧ Ext s.b s.ar H H' ∧ VD L (AN L (Az L) v n out).1 D' ∧ ∀ j, n < j → lkD D' j = lkD D j := by
 intro v
 induction v with
 | zero =>
  intro n d out D H hn hv hd hQ hD
  obtain ⟨d, rfl⟩ : ∃ e, d = e + 1 := ⟨d - 1, by omega⟩
  have hn0 : n = 0 := by
   rcases hv with h | h
   ·exact h
   ·cases n with
    | zero => rfl
    | succ m =>
     rw [Bb (show m < L.length from hn)] at h
     have := (A8 hl (show m < L.length from hn)).1; omega
  subst hn0
  refine ⟨H, D, ?_, hQ, Ext.refl _ _ _, hD, fun _ _ => rfl⟩
  show Sh.f3c (Sh.f8 d) _ _ _ _ _ _ = _
  have hlk := lookA_dn hQ.nums 0
  rw [hD.zero] at hlk
  unfold Sh.f3c
  simp only [GMb, GMc, HPa, HPc, HPd, HPe, HPz, Nat.reduceAdd, Nat.reduceLT, Bf hQ.done, hlk]
  rfl
 | succ v ih =>
  intro n d out D H hn hv hd hQ hD
  obtain ⟨d, rfl⟩ : ∃ e, d = e + 1 := ⟨d - 1, by omega⟩
  show ∃ H' D', Sh.f3c (Sh.f8 d) _ _ _ _ _ _ = _ ∧ _
  have hlk := lookA_dn hQ.nums n
  unfold Sh.f3c
  simp only [GMb, GMc, HPa, HPc, HPd, HPe, HPz, Nat.reduceAdd, Nat.reduceLT, Bf hQ.done, hlk]
  cases hln : lkD D n with
  | some m =>
   have hmem := lkD_mem hln
   have hval := hD.val _ hmem
   dsimp only at hval
   have hins : AN L (Az L) (v + 1) n out = (out, m) := by
    rcases hv with h | h
    ·have := Hu (L := L) (v := (A4 L (n : Int)).lv.toNat) (out := out) (n := n) (.inl h)
     rw [hval] at this
     rw [Hu (.inl h)]
     exact this.symm
    ·rw [h] at hval; exact hval
   rw [hins]
   exact ⟨H, D, by simp only [GMb, GMc, HPa, HPc, HPd, HPe, HPz, Nat.reduceAdd, Nat.reduceLT], hQ, Ext.refl _ _ _, hD, fun _ _ => rfl⟩
  | none =>
   obtain ⟨m, rfl⟩ : ∃ m, n = m + 1 := ⟨n - 1, by
    cases n with
    | zero => rw [hD.zero] at hln; cases hln
    | succ n => rfl⟩
   have hm : m < L.length := hn
   have hv' : (A4 L ((m + 1 : Nat) : Int)).lv.toNat = v + 1 := by
    rcases hv with h | h
    ·omega
    ·exact h
   obtain ⟨l1, l2, l3⟩ := A8 hl hm
   have hx : A4 L ((m + 1 : Nat) : Int) = L[m] := Bb hm
   rw [hx] at hv'
   have hwm : IntKind.i64.wrap (((m + 1 : Nat) : Int) - 1) = (m : Int) := by rw [A1] <;> omega
   have hble := hQ.len
   have hQ1 : VQ s L tk out D (H ++ [.cel 0 (cNd L[m])]) := hQ.cells (fun i hi => List.getElem?_append_left hi) (by simp)
   have hE1 : Ext s.b s.ar H (H ++ [.cel 0 (cNd L[m])]) := Ext.snoc hble _
   have hHar : H.length ≠ s.ar := by
    obtain ⟨v, h1⟩ := hQ.nodes
    have := (List.getElem?_eq_some_iff.1 h1.cell).1; omega
   simp only [GMb, GMc, HPa, HPc, HPd, HPe, HPz, Nat.reduceAdd, Nat.reduceLT, Bf hQ.list, AP, hwm, A2 hm, G8, Ba, BE, By, BC]
   have fin : ∀ (Hc : Aa) (D1 : List (Nat × Nat)), lkD D1 (m + 1) = none → VQ s L tk (B2 (AN L (Az L) v) L[m] (if 1 < L[m].lv then 4 else 0) out).1 D1 Hc → Hc[H.length]? = some (.cel 0 (cNd (B2 (AN L (Az L) v) L[m] (if 1 < L[m].lv then 4 else 0) out).2)) → Ext s.b s.ar H Hc → VD L (B2 (AN L (Az L) v) L[m] (if 1 < L[m].lv then 4 else 0) out).1 D1 → (∀ j, m < j → lkD D1 j = lkD D j) →
     ∃ H' D', Sh.f45 H (.int .i64 ((m + 1 : Nat) : Int)) (.ptr s.pd 0 0) (.ptr s.pa 0 0) (.ptr H.length 0 0) Hc = some (.ret (.int .i64 ((AN L (Az L) (v + 1) (m + 1) out).2 : Int)), H') ∧
      VQ s L tk (AN L (Az L) (v + 1) (m + 1) out).1 D' H' ∧ Ext s.b s.ar H H' ∧ VD L (AN L (Az L) (v + 1) (m + 1) out).1 D' ∧ ∀ j, m + 1 < j → lkD D' j = lkD D j := by
    intro Hc D1 hl1 hQc hbox hEc hDc hjj
    have hint := intern_ins hl hm hv' out
    have hagain := Gk (L := L) (E := Az L) (v + 1) (m + 1) out []
    rw [List.append_nil] at hagain
    generalize B2 (AN L (Az L) v) L[m] (if 1 < L[m].lv then 4 else 0) out = io at *
    obtain ⟨o, y⟩ := io
    dsimp only at *
    obtain ⟨vv, hA⟩ := hQc.nodes
    have hsh := hDc.short
    obtain ⟨v', H2, i1, i2, i3⟩ := c06_intern hA hQc.hb.1 hQc.hb.2.1 hQc.len y (by omega)
    rw [hint] at i1 i2
    have hdm : s.dm ≠ s.km := Ne.symm hQc.hb.2.2.2
    have hdn := i3.map _ _ hdm hQc.nums
    have hpd := i3.cel _ _ hQc.ne.1 hQc.done
    have hup := updA_dn (H := H2) (n := m + 1) hdn (AN L (Az L) (v + 1) (m + 1) out).2 hl1
    have hgrow : ∃ r, (AN L (Az L) (v + 1) (m + 1) out).1 = o ++ r := by
     rw [← hint]
     unfold FL C5
     split
     ·exact ⟨[], by simp⟩
     ·split
      ·exact ⟨[y], rfl⟩
      ·exact ⟨[], by simp⟩
    have hglen : (AN L (Az L) (v + 1) (m + 1) out).1.length ≤ o.length + 1 := by
     rw [← hint]
     unfold FL C5
     split
     ·dsimp only; omega
     ·split
      ·simp
      ·dsimp only; omega
    refine ⟨H2.set s.dm (.map (dnM (D1 ++ [(m + 1, (AN L (Az L) (v + 1) (m + 1) out).2)]))), D1 ++ [(m + 1, (AN L (Az L) (v + 1) (m + 1) out).2)], ?_, ?_, hEc.trans ⟨?_, fun i cs hi hc => ?_, fun i hi => ?_⟩, ?_, fun j hj => ?_⟩
    ·unfold Sh.f45
     simp only [GMb, GMc, HPa, HPc, HPd, HPe, HPz, Nat.reduceAdd, Nat.reduceLT, Bf hQc.arena, AP, D3 hbox, i1, Bf hpd, hup]
    ·have hdl : s.dm < H2.length := (List.getElem?_eq_some_iff.1 hdn).1
     have nc : ∀ {i : Nat} {c : List Ab}, i ≠ s.ar → Hc[i]? = some (.cel 0 c) → (H2.set s.dm (.map (dnM (D1 ++ [(m + 1, (AN L (Az L) (v + 1) (m + 1) out).2)]))))[i]? = some (.cel 0 c) := fun {i c} hi hc => by
      have h2 := i3.cel i c hi hc
      have : s.dm ≠ i := fun e => by rw [← e, hdn] at h2; cases h2
      rw [List.getElem?_set_ne this]; exact h2
     have hda : s.dm ≠ s.ar := fun e => by have := i2.cell; rw [← e, hdn] at this; cases this
     exact ⟨hQc.hb, hQc.ne, nc hQc.ne.1 hQc.done, nc hQc.ne.2.1 hQc.list, nc hQc.ne.2.2.1 hQc.self, nc hQc.ne.2.2.2 hQc.arena,
      ⟨v', by rw [List.getElem?_set_ne hda]; exact i2.cell, i2.row.setB hdn (fun _ _ _ e => by cases e), by rw [List.getElem?_set_ne hdm]; exact i2.known⟩, by rw [List.getElem?_set_self hdl]⟩
    ·rw [List.length_set]; exact i3.len
    ·have h2 := i3.cel i cs hi hc
     have : s.dm ≠ i := fun e => by rw [← e, hdn] at h2; cases h2
     rw [List.getElem?_set_ne this]; exact h2
    ·have := hQc.hb.2.2.1
     rw [List.getElem?_set_ne (by omega)]; exact i3.old i hi
    ·obtain ⟨r, hr⟩ := hgrow
     refine ⟨?_, fun p hp => ?_, fun p hp => ?_, ?_, ?_⟩
     ·rw [List.map_append, List.nodup_append]
      refine ⟨hDc.nd, by simp, fun a ha b hb => ?_⟩
      have hbm : b = m + 1 := by simpa using hb
      have := lkD_none hl1
      exact fun e => this (by rw [← hbm, ← e]; exact ha)
     ·rcases List.mem_append.1 hp with h | h
      ·exact hDc.le p h
      ·rw [List.mem_singleton.1 h]; exact hn
     ·rcases List.mem_append.1 hp with h | h
      ·rw [hr]; exact hDc.grow r p h
      ·rw [List.mem_singleton.1 h]
       dsimp only
       rw [hx, hv']; exact hagain
     ·rw [List.length_append, List.length_singleton]; have := hDc.cnt; omega
     ·rw [lkD_app, hDc.zero]
    ·rw [lkD_app, hjj j (by omega)]
     cases lkD D j with
     | some _ => rfl
     | none => dsimp only; rw [if_neg (by omega)]
   by_cases hlv : L[m].lv > 1
   ·simp only [hlv, GMb, GMc]
    have h1lt : 1 < L[m].lv := hlv
    rw [if_pos h1lt] at fin
    have loop := Hq (G := fun rec2 vs H1 => Sh.f46 H (Sh.f8 d) (fun vs H => Sh.f45 H (ag vs 0) (ag vs 1) (ag vs 2) (ag vs 3) H) rec2 (ag vs 0) (ag vs 1) (ag vs 2) (ag vs 3) (ag vs 4) (ag vs 5) (ag vs 6) H1) 4
     (fun k vs Hc => ∃ D', vs = [.int .i64 ((m + 1 : Nat) : Int), .ptr s.pd 0 0, .ptr s.pv 0 0, .ptr s.pa 0 0, .ptr H.length 0 0, .agg (GC L[m]), .int .i64 (k : Int)] ∧ VQ s L tk (B2 (AN L (Az L) v) L[m] k out).1 D' Hc ∧ Hc[H.length]? = some (.cel 0 (cNd (B2 (AN L (Az L) v) L[m] k out).2)) ∧ Ext s.b s.ar H Hc ∧ VD L (B2 (AN L (Az L) v) L[m] k out).1 D' ∧ lkD D' (m + 1) = none ∧ ∀ j, m < j → lkD D' j = lkD D j)
     (by decide) (fun k vs Hc hk hI => ?_) (vs := [.int .i64 ((m + 1 : Nat) : Int), .ptr s.pd 0 0, .ptr s.pv 0 0, .ptr s.pa 0 0, .ptr H.length 0 0, .agg (GC L[m]), .int .i64 0]) (H := H ++ [Blk.cel 0 (cNd L[m])]) ⟨D, rfl, hQ1, by simp [B2], hE1, hD, hln, fun _ _ => rfl⟩
    ·obtain ⟨vs', Hc, ⟨D', rfl, hQc, hbox, hEc, hDc, hlc, hjc⟩, rec, hloop⟩ := loop
     obtain ⟨H', D2, f1, f2⟩ := fin Hc D' hlc hQc hbox hEc hDc hjc
     refine ⟨H', D2, hloop.trans ?_, f2⟩
     unfold Sh.f46
     simp only [GMb, GMc, Al, show ¬ (((4 : Nat) : Int) < 4) from by decide]
     exact f1
    ·obtain ⟨D1, rfl, hQc, hbox, hEc, hDc, hlc, hjc⟩ := hI
     have hk' : (k : Int) < 4 := by omega
     obtain ⟨q1, q2, q3⟩ := l3 k hk
     obtain ⟨c, hc⟩ : ∃ c : Nat, L[m].kid k = (c : Int) := ⟨(L[m].kid k).toNat, by omega⟩
     have hcm : c ≤ m := by
      by_cases h0 : 0 < L[m].kid k
      ·have := (q3 h1lt h0).1; omega
      ·omega
     have hcv : c = 0 ∨ (A4 L (c : Int)).lv.toNat = v := by
      by_cases h0 : c = 0
      ·exact .inl h0
      ·right
       obtain ⟨g, rfl⟩ : ∃ g, c = g + 1 := ⟨c - 1, by omega⟩
       have hgl : g < L.length := by omega
       have := (q3 h1lt (by omega)).2 L[g] (by rw [show (L[m].kid k - 1).toNat = g by omega]; exact List.getElem?_eq_getElem hgl)
       rw [Bb hgl]; omega
     obtain ⟨H1, D', r1, r2, r3, r4, r5⟩ := ih c d (B2 (AN L (Az L) v) L[m] k out).1 D1 Hc (by omega) hcv (by omega) hQc hDc
     have hbox1 := r3.cel _ _ hHar hbox
     have hst := Cg (c := ((AN L (Az L) v c (B2 (AN L (Az L) v) L[m] k out).1).2 : Int)) hbox1 hk
     have hstep : B2 (AN L (Az L) v) L[m] (k + 1) out = ((AN L (Az L) v c (B2 (AN L (Az L) v) L[m] k out).1).1, (B2 (AN L (Az L) v) L[m] k out).2.setKid k ((AN L (Az L) v c (B2 (AN L (Az L) v) L[m] k out).1).2 : Int)) := by
      simp only [B2, hc, Int.toNat_natCast]
     rw [hstep]
     refine ⟨_, H1.set H.length (.cel 0 (cNd ((B2 (AN L (Az L) v) L[m] k out).2.setKid k ((AN L (Az L) v c (B2 (AN L (Az L) v) L[m] k out).1).2 : Int)))), ⟨D', rfl, r2.put hbox1, ?_, ⟨by have := hEc.len; have := r3.len; rw [List.length_set]; omega, fun i cs hi hc => ?_, fun i hi => ?_⟩, r4, ?_, fun j hj => ?_⟩, fun rec => ?_⟩
     ·rw [List.getElem?_set_self (List.getElem?_eq_some_iff.1 hbox1).1]
     ·have := (List.getElem?_eq_some_iff.1 hc).1
      rw [List.getElem?_set_ne (by omega)]; exact r3.cel i cs hi (hEc.cel i cs hi hc)
     ·rw [List.getElem?_set_ne (by omega), r3.old i hi]; exact hEc.old i hi
     ·rw [r5 (m + 1) (by omega)]; exact hlc
     ·rw [r5 j (by omega)]; exact hjc j hj
     ·have hcall : Te (F9 (Sh.f8 d)) (.fn 50 [.ptr s.pd 0 0, .ptr s.pl 0 0, .ptr s.pv 0 0, .ptr s.pa 0 0]) [.int .i64 (c : Int)] Hc = Sh.f8 d (.int .i64 (c : Int)) (.ptr s.pd 0 0) (.ptr s.pl 0 0) (.ptr s.pv 0 0) (.ptr s.pa 0 0) Hc := rfl
      unfold Sh.f46
      simp only [GMb, GMc, HPa, HPc, HPd, HPe, HPz, Nat.reduceAdd, Nat.reduceLT, Al, hk', ag_kid _ hk, hc, Bf hQc.self, AP, hcall, r1, C0 hk, hst, Ar (show k < 9223372036854775807 by omega)]
   ·simp only [hlv, GMb, GMc]
    rw [if_neg hlv] at fin
    exact fin _ D hln hQ1 (by simp [B2]) hE1 hD (fun _ _ => rfl)
theorem c06_of (L : List Nd) (tk : Tok) (n : Int) (H : Aa) (hL : L.length < 1000000000000) : Sh.f2k (.sl (enL cNd L) tk) (.int .i64 n) H =
  some (.ret (if ofOk L n then .tup [My (Fk L n.toNat), .int .i64 0] else .tup [My [], .int .i64 1]), H) := by
 unfold Sh.f2k
 have hbx : BP true 1 (.sl (enL cNd L) tk) H = some (.ptr H.length 0 0, H ++ [.cel 0 [.sl (enL cNd L) tk]]) := by
  unfold BP; simp only [acells_sl, alloc_eq (cs := [.sl (enL cNd L) tk]) rfl]; rfl
 have hq0 : Ab.agg [.sl [] .no] = My [] := rfl
 simp only [hbx, GMb, GMc, HPa, HPc, HPd, HPe, HPz, Nat.reduceAdd, Nat.reduceLT, c05_loose L tk _ (show L.length < 1152921504606846976 by omega)]
 unfold ofOk
 have hb0 : Ay (some [(.sl [] .tight)]) [] = some (.agg [.sl [] .tight]) := rfl
 cases hl : AD L with
 | false => simp only [GMb, GMc, HPa, HPc, HPd, HPe, HPz, Nat.reduceAdd, Nat.reduceLT, hb0, hq0, Bool.false_eq_true, if_false]
 | true =>
  by_cases hn0 : n < 0
  ·have : ¬ 0 ≤ n := by omega
   simp only [GMb, GMc, HPa, HPc, HPd, HPe, HPz, Nat.reduceAdd, Nat.reduceLT, hb0, hq0, hn0, this, Bool.false_eq_true, if_false]
  ·have h0' : 0 ≤ n := by omega
   by_cases hn1 : n > L.length
   ·have : ¬ n ≤ L.length := by omega
    simp only [GMb, GMc, HPa, HPc, HPd, HPe, HPz, Nat.reduceAdd, Nat.reduceLT, hb0, hq0, hn0, h0', hn1, this, A5, Bool.false_eq_true, if_false]
   ·obtain ⟨n, rfl⟩ := Int.eq_ofNat_of_zero_le h0'
    have hle : n ≤ L.length := by omega
    have hle' : (n : Int) ≤ (L.length : Int) := by omega
    have hnn : ¬ (n : Int) > (L.length : Int) := hn1
    obtain ⟨s1, s2, s3⟩ := Sr hl hle
    unfold Fk
    simp only [GMb, GMc, HPa, HPc, HPd, HPe, HPz, Nat.reduceAdd, Nat.reduceLT, hn0, h0', hnn, hle', A5, c06_shrink L tk n _ (show L.length < 3518437200000 by omega) hl hle, if_true, Int.toNat_natCast]
    generalize CU L n = S at s1 s2 s3
    obtain ⟨M, r⟩ := S
    dsimp only at s1 s2 s3 ⊢
    have hlvv : (A4 M (r : Int)).lv.toNat < AC := by
     rw [Dk]
     by_cases hr : 0 < r
     ·have := lv_le s1 hr s2; omega
     ·obtain rfl : r = 0 := by omega
      unfold A4
      rw [List.getD_eq_getElem?_getD]
      by_cases hM : 0 < M.length
      ·rw [show (((0 : Nat) : Int) - 1).toNat = 0 from rfl, List.getElem?_eq_getElem hM]
       have := (A8 s1 hM).2.1
       simp only [Option.getD_some]; omega
      ·rw [show (((0 : Nat) : Int) - 1).toNat = 0 from rfl, List.getElem?_eq_none (by omega)]; simp
    have hmk : ∀ K : Aa, Dj K = some (.mp K.length, K ++ [.map []]) := fun _ => rfl
    have hb1 : ∀ x, Ay (some [.sl [] .tight, .nilmap]) [(1, 1, .mp x)] = some (.agg [.sl [] .tight, .mp x]) := fun _ => rfl
    have hup : CT false 1 (.mp (H.length + 5)) (.int .i64 0) (.int .i64 0) (H ++ [.cel 0 [.sl (enL cNd M) .no], .cel 0 [.sl [] .tight], .map [], .cel 0 [.sl [] .tight, .mp (H.length + 2)], .cel 0 [.ptr (H.length + 3) 0 0], .map []]) =
      some (H ++ [.cel 0 [.sl (enL cNd M) .no], .cel 0 [.sl [] .tight], .map [], .cel 0 [.sl [] .tight, .mp (H.length + 2)], .cel 0 [.ptr (H.length + 3) 0 0], .map (dnM [(0, 0)])]) := by
     have := updA_dn (H := H ++ [.cel 0 [.sl (enL cNd M) .no], .cel 0 [.sl [] .tight], .map [], .cel 0 [.sl [] .tight, .mp (H.length + 2)], .cel 0 [.ptr (H.length + 3) 0 0], .map []]) (id := H.length + 5) (D := []) (by simp [dnM]) (n := 0) 0 rfl
     rw [show ((0 : Nat) : Int) = 0 from rfl] at this
     rw [this, List.set_append_right _ _ (by omega), show H.length + 5 - H.length = 5 by omega]
     rfl
    have hf : ∀ l : List Ab, Af 1 (.ptr 0 0 0) (.fn 50 l) [Blk.cel 0 [.nilfn]] = some [.cel 0 [.fn 50 l]] := fun l => Hb rfl (by simp)
    obtain ⟨F, hF⟩ : ∃ F : Aa, F = H ++ [.cel 0 [.sl (enL cNd M) .no], .cel 0 [.sl [] .tight], .map [], .cel 0 [.sl [] .tight, .mp (H.length + 2)], .cel 0 [.ptr (H.length + 3) 0 0], .map (dnM [(0, 0)]), .cel 0 [.mp (H.length + 5)], .cel 0 [.fn 50 [.ptr (H.length + 6) 0 0, .ptr H.length 0 0, .ptr (H.length + 7) 0 0, .ptr (H.length + 4) 0 0]]] := ⟨_, rfl⟩
    have hQ : VQ ⟨H.length, H.length + 6, H.length, H.length + 7, H.length + 4, H.length + 3, H.length + 2, H.length + 5⟩ M .no [] [(0, 0)] F := by
     refine ⟨⟨by dsimp only; omega, by dsimp only; omega, by dsimp only; omega, by dsimp only; omega⟩, ⟨by dsimp only; omega, by dsimp only; omega, by dsimp only; omega, by dsimp only; omega⟩, ?_, ?_, ?_, ?_, ⟨.sl [] .tight, ?_, .inl ⟨rfl, rfl⟩, ?_⟩, ?_⟩ <;> (rw [hF]; simp [knF])
    have hD : VD M [] [(0, 0)] := ⟨by simp, fun p hp => by rw [List.mem_singleton.1 hp]; exact Nat.zero_le _, fun p hp => by rw [List.mem_singleton.1 hp]; exact Hu (.inl rfl), by simp, rfl⟩
    obtain ⟨H', D', v1, v2, v3, v4, v5⟩ := c06_visit (s := ⟨H.length, H.length + 6, H.length, H.length + 7, H.length + 4, H.length + 3, H.length + 2, H.length + 5⟩) (L := M) (tk := .no) (by omega) s1 (A4 M (r : Int)).lv.toNat r AC [] [(0, 0)] F s2 (.inr rfl) hlvv hQ hD
    dsimp only at v1 v3
    have hcall : Te GS (.fn 50 [.ptr (H.length + 6) 0 0, .ptr H.length 0 0, .ptr (H.length + 7) 0 0, .ptr (H.length + 4) 0 0]) [.int .i64 (r : Int)] F = Sh.f8 AC (.int .i64 (r : Int)) (.ptr (H.length + 6) 0 0) (.ptr H.length 0 0) (.ptr (H.length + 7) 0 0) (.ptr (H.length + 4) 0 0) F := rfl
    rw [v1] at hcall
    rw [hF] at hcall
    have hres : H'[H.length + 1]? = some (.cel 0 [.sl [] .tight]) := v3.cel _ _ (by omega) (by rw [hF]; simp)
    have hold : ∀ i, i < H.length → H'[i]? = H[i]? := fun i hi => by rw [v3.old i hi, hF, List.getElem?_append_left hi]
    obtain ⟨v, hA⟩ := v2.nodes
    have hpa := Bf (o := 0) (sz := 1) v2.arena
    have har := Bf (o := 0) (sz := 1) hA.cell
    dsimp only at hpa har
    obtain ⟨tk3, rfl⟩ := hA.row.sl
    generalize (AN M (Az M) (A4 M (r : Int)).lv.toNat r []).1 = Q at *
    have hb : Ay (some [(.sl [] .tight)]) [(0, 1, .sl (enL cNd Q) tk3)] = some (.agg [.sl (enL cNd Q) tk3]) := by simp [Ay, GJ, DR]
    have hst := Dz (sz := 1) (ws := [.sl (enL cNd Q) tk3]) hres rfl rfl rfl
    have hcl := (List.getElem?_eq_some_iff.1 hres).1
    have hld := BT (sz := 1) (H := H'.set (H.length + 1) (.cel 0 [.sl (enL cNd Q) tk3])) (p := H.length + 1) (by rw [List.getElem?_set_self hcl]) rfl
    have htake : (H'.set (H.length + 1) (.cel 0 [.sl (enL cNd Q) tk3])).take H.length = H := BR fun i hi => by
     rw [List.getElem?_set_ne (by omega)]; exact hold i hi
    simp only [GMb, GMc, HPa, HPc, HPd, HPe, HPz, Nat.reduceAdd, Nat.reduceLT, hmk, hb1, hup, hf, hcall, hpa, har, AP, hb, hst, hld, E5 htake]
    rfl
end Go.Gm
namespace Go.Gm
theorem p_fine (bx N : Int) (H : Aa) : Sh.f1v (.agg [.int .i64 bx, .int .i64 N]) H = some (.ret (.bool (NO bx N)), H) := by
 unfold Sh.f1v Sh.f1u NO
 by_cases h1 : bx ≥ 0
 ·by_cases h2 : bx ≤ 1000
  ·by_cases h3 : N ≥ 0
   ·simp only [GMb, GMc, HPa, HPc, HPd, HPe, HPz, Nat.reduceAdd, Nat.reduceLT, h1, h2, h3]
   ·simp only [GMb, GMc, HPa, HPc, HPd, HPe, HPz, Nat.reduceAdd, Nat.reduceLT, h1, h2, h3]
  ·simp only [GMb, GMc, HPa, HPc, HPd, HPe, HPz, Nat.reduceAdd, Nat.reduceLT, h1, h2]
 ·simp only [GMb, GMc, HPa, HPc, HPd, HPe, HPz, Nat.reduceAdd, Nat.reduceLT, h1]
theorem q11_wide (H : Aa) : Sh.fm H = some (.ret (.agg [.int .i64 1000, .int .i64 100000]), H) := by
 have hb : Ay (some [(.int .i64 0), (.int .i64 0)]) [(0, 1, (.int .i64 1000)), (1, 1, (.int .i64 100000))] = some (.agg [.int .i64 1000, .int .i64 100000]) := rfl
 unfold Sh.fm
 simp only [GMb, GMc, HPa, HPc, HPd, HPe, HPz, Nat.reduceAdd, Nat.reduceLT, hb]
def CQ (lines : List (Nat × Int)) : Nat := match lines.getLast? with
 | some q => q.1
 | none => 0
def QN : MSt := ⟨GO, [], []⟩
def Hg (b : List UInt8) (bx N : Int) : (List UInt8 × List Nd) × Int × Int :=
 if NO bx N then
  match Kb b N QN with
  | ((some e, c), _) => (([], []), (c : Int), e.1)
  | ((none, _), st) =>
   if ofOk st.nodes (CQ st.lines : Int) && decide ((Fk st.nodes (CQ st.lines)).length ≤ N) then ((st.law, Fk st.nodes (CQ st.lines)), 0, 0)
   else (([], []), (b.length : Int), 4)
 else (([], []), 0, 1)
def E4 (r : (List UInt8 × List Nd) × Int × Int) : Ab := .tup [pat r.1.1 r.1.2, .int .i64 r.2.1, .int .i64 r.2.2]
theorem Ig (rule : List UInt8) (L : List Nd) : pat rule L = .agg [.str rule, .sl (enL cNd L) .no] := rfl
theorem QZ (b : List UInt8) (N : Int) : ∀ k a st, a ≤ b.length → (Dq b N k a st).2.nodes.length ≤ st.nodes.length + 21 * (b.length - a) ∧ (Dq b N k a st).2.lines.length ≤ st.lines.length + (b.length - a)
 | 0, a, st, _ => ⟨Nat.le_add_right _ _, Nat.le_add_right _ _⟩
 | k + 1, a, st, h => by
  unfold Dq
  by_cases he : a = b.length
  ·rw [if_pos he]; exact ⟨Nat.le_add_right _ _, Nat.le_add_right _ _⟩
  ·rw [if_neg he]
   have hok := oneS_ok (show a < b.length by omega) N st
   generalize QJ b N a st = M at hok
   obtain ⟨⟨er, c⟩, st'⟩ := M
   obtain ⟨k1, k2, k3, k4⟩ := hok
   dsimp only at k1 k2 k3 k4 ⊢
   cases er with
   | some e => exact ⟨by dsimp only; omega, by dsimp only; omega⟩
   | none =>
    have := QZ b N k c st' k1
    have := k2 rfl
    dsimp only
    omega
theorem allS_cnt (b : List UInt8) (N : Int) (st : MSt) : (Kb b N st).2.nodes.length ≤ st.nodes.length + 21 * b.length ∧ (Kb b N st).2.lines.length ≤ st.lines.length + b.length := by
 unfold Kb
 have hM := FK (Nat.zero_le b.length) CG
 have e : (B7 b 0 CG []).2 = Fv b 0 CG := rfl
 generalize B7 b 0 CG [] = M at e
 obtain ⟨er, c⟩ := M
 dsimp only at e
 subst e
 cases er with
 | some e => exact ⟨Nat.le_add_right _ _, Nat.le_add_right _ _⟩
 | none =>
  have hle := NW (PX hM) []
  dsimp only
  generalize FO b (F6 b (Fv b 0 CG)) [] = M at hle
  obtain ⟨er, d⟩ := M
  cases er with
  | some e => exact ⟨Nat.le_add_right _ _, Nat.le_add_right _ _⟩
  | none =>
   have := QZ b N (b.length + 1) d st hle.2
   dsimp only
   omega
theorem j1 {H K : Aa} {b : List UInt8} {c : Nat} {bx N : Int} {st : MSt} {v w : Ab} (hlim : K[H.length]? = some (.cel 0 [.int .i64 bx, .int .i64 N])) (hres : K[H.length + 1]? = some (.cel 0 [.str [], .sl [] .tight])) (hlx : K[H.length + 2]? = some (.cel 0 (.str b :: .int .i64 (c : Int) :: rdR bx N st.law v w)))
  (hrow : RS cNd At 5 H.length st.nodes v K) (hold : ∀ i, i < H.length → K[i]? = H[i]?) (hnd : st.nodes.length < 100000000000) :
  Sh.f5f H (.str b) (.ptr H.length 0 0) (.ptr (H.length + 1) 0 0) (.ptr (H.length + 2) 0 0) (.int .i64 (CQ st.lines : Int)) K = some (.ret (E4 (if ofOk st.nodes (CQ st.lines : Int) && decide ((Fk st.nodes (CQ st.lines)).length ≤ N) then ((st.law, Fk st.nodes (CQ st.lines)), 0, 0) else (([], []), (b.length : Int), 4))), H) := by
 have b1 : Ay (some [(.str []), (.sl [] .tight)]) [] = some (.agg [.str [], .sl [] .tight]) := rfl
 have hl5 := Bf (o := 5) (sz := 1) hlx
 obtain ⟨tk, rfl⟩ := hrow.sl
 have hof := fun H => c06_of st.nodes tk (CQ st.lines : Int) H (by omega)
 have hKl : H.length + 2 < K.length := (List.getElem?_eq_some_iff.1 hlx).1
 rw [Int.toNat_natCast] at hof
 have bad : ∀ L : List Nd, ((Ay (some [(.str []), (.sl [] .tight)]) []).bind fun x64 =>
 (Be (.str b)).bind fun x65 =>
 bP H (Au (Af 2 (.ptr (H.length + 1) 0 0) x64 (K ++ [.cel 0 [.sl (enL cNd L) .no]]))) fun _ H67 =>
 (BM [Ad true 2 (.ptr (H.length + 1) 0 0) H67, some x65, some (.int .i64 4)]).bind fun x68 => rPN H x68 H67) = some (.ret (E4 (([], []), (b.length : Int), 4)), H) := by
  intro L
  have hr' := B3 (G := [Blk.cel 0 [.sl (enL cNd L) .no]]) hres
  have hst := Dz (sz := 2) (ws := [.str [], .sl [] .tight]) hr' rfl rfl rfl
  have hld := BT (sz := 2) (H := (K ++ [Blk.cel 0 [.sl (enL cNd L) .no]]).set (H.length + 1) (.cel 0 [.str [], .sl [] .tight])) (p := H.length + 1) (cs := [.str [], .sl [] .tight]) (by rw [List.getElem?_set_self (by simp; omega)]) rfl
  have htk : ((K ++ [Blk.cel 0 [.sl (enL cNd L) .no]]).set (H.length + 1) (.cel 0 [.str [], .sl [] .tight])).take H.length = H := BR fun i hi => by rw [List.getElem?_set_ne (by omega), List.getElem?_append_left (by omega)]; exact hold i hi
  simp only [b1, GMb, GMc, HPa, HPc, HPd, HPe, HPz, Nat.reduceAdd, Nat.reduceLT, hst, hld, E5 htk, E4, Ig]
  rfl
 unfold Sh.f5f
 simp only [GMb, GMc, HPa, HPc, HPd, HPe, HPz, Nat.reduceAdd, Nat.reduceLT, hl5, rdR, AP, Bl, hof]
 cases hok : ofOk st.nodes (CQ st.lines : Int) with
 | false =>
  have := bad []
  simp only [GMb, GMc, HPa, HPc, HPd, HPe, HPz, Nat.reduceAdd, Nat.reduceLT, N5, Bool.false_eq_true, if_false, show decide ((1 : Int) = 0) = false from by decide] at this ⊢
  exact this
 | true =>
  generalize Fk st.nodes (CQ st.lines) = Q
  have hlim' := Bf (o := 1) (sz := 1) (B3 (G := [Blk.cel 0 [.sl (enL cNd Q) .no]]) hlim)
  simp only [GMb, GMc, HPa, HPc, HPd, HPe, HPz, Nat.reduceAdd, Nat.reduceLT, N5, if_true, A5, hlim', AP, Bl]
  by_cases hlen : (Q.length : Int) ≤ N
  ·have hgt : ¬ (Q.length : Int) > N := by omega
   have hr' := B3 (G := [Blk.cel 0 [.sl (enL cNd Q) .no]]) hres
   have hst := Dz (sz := 2) (ws := [.str st.law, .sl (enL cNd Q) .no]) hr' rfl rfl rfl
   have hld := BT (sz := 2) (H := (K ++ [Blk.cel 0 [.sl (enL cNd Q) .no]]).set (H.length + 1) (.cel 0 [.str st.law, .sl (enL cNd Q) .no])) (p := H.length + 1) (cs := [.str st.law, .sl (enL cNd Q) .no]) (by rw [List.getElem?_set_self (by simp; omega)]) rfl
   have htk : ((K ++ [Blk.cel 0 [.sl (enL cNd Q) .no]]).set (H.length + 1) (.cel 0 [.str st.law, .sl (enL cNd Q) .no])).take H.length = H := BR fun i hi => by rw [List.getElem?_set_ne (by omega), List.getElem?_append_left (by omega)]; exact hold i hi
   have hl4 := Bf (o := 4) (sz := 1) (B3 (G := [Blk.cel 0 [.sl (enL cNd Q) .no]]) hlx)
   have hbd : Ay (some [(.str []), (.sl [] .tight)]) [(0, 1, .str st.law), (1, 1, .agg [.sl (enL cNd Q) .no])] = some (.agg [.str st.law, .sl (enL cNd Q) .no]) := rfl
   simp only [hgt, hlen, GMb, GMc, HPa, HPc, HPd, HPe, HPz, Nat.reduceAdd, Nat.reduceLT, hl4, rdR, AP, Bl, hbd, hst, hld, E5 htk, E4, Ig, if_true]
  ·have hgt : (Q.length : Int) > N := by omega
   have := bad Q
   simp only [hgt, hlen, GMb, GMc, HPa, HPc, HPd, HPe, HPz, Nat.reduceAdd, Nat.reduceLT, Bool.false_eq_true, if_false] at this ⊢
   exact this
theorem DC (b : List UInt8) (bx N : Int) (H : Aa) (hb : b.length < 100000000) : Sh.fp (.str b) (.agg [.int .i64 bx, .int .i64 N]) H = some (.ret (E4 (Hg b bx N)), H) := by
 have b1 : Ay (some [(.str []), (.sl [] .tight)]) [] = some (.agg [.str [], .sl [] .tight]) := rfl
 have b2 : ∀ s, Ay (some [(.str []), (.int .i64 0)]) [(0, 1, .str s)] = some (.agg [.str s, .int .i64 0]) := fun _ => rfl
 have b3 : ∀ s, Ay (some [(.str []), (.int .i64 0), (.int .i64 0), (.int .i64 0), (.str []), (.sl [] .tight), (.sl [] .tight)]) [(0, 2, .agg [.str s, .int .i64 0]), (2, 2, .agg [.int .i64 bx, .int .i64 N]), (4, 1, (.str [66, 51, 47, 83, 50, 51]))] = some (.agg [.str s, .int .i64 0, .int .i64 bx, .int .i64 N, .str GO, .sl [] .tight, .sl [] .tight]) := fun _ => rfl
 unfold Sh.fp Hg
 simp only [GMb, GMc, HPa, HPc, HPd, HPe, HPz, Nat.reduceAdd, Nat.reduceLT, p_fine]
 cases hf : NO bx N with
 | false =>
  simp only [GMb, GMc, HPa, HPc, HPd, HPe, HPz, Nat.reduceAdd, Nat.reduceLT, b1, Bool.false_eq_true, if_false, E4, Ig]
  rfl
 | true =>
  simp only [GMb, GMc, HPa, HPc, HPd, HPe, HPz, Nat.reduceAdd, Nat.reduceLT, b2, b3, if_true]
  obtain ⟨F, hF⟩ : ∃ F : Aa, F = H ++ [.cel 0 [.int .i64 bx, .int .i64 N], .cel 0 [.str [], .sl [] .tight], .cel 0 [.str b, .int .i64 0, .int .i64 bx, .int .i64 N, .str GO, .sl [] .tight, .sl [] .tight]] := ⟨_, rfl⟩
  have hR : RD H.length (H.length + 2) b 0 bx N QN F := ⟨.sl [] .tight, .sl [] .tight, by omega, by unfold Lx; rw [hF]; simp [rdR, QN], .inl ⟨rfl, rfl⟩, .inl ⟨rfl, rfl⟩⟩
  obtain ⟨H1, c1, c2, c3⟩ := S3 hR (by omega) rfl rfl
  rw [hF] at c1
  have hlim : H1[H.length]? = some (.cel 0 [.int .i64 bx, .int .i64 N]) := c2.cel _ _ (by omega) (by rw [hF]; simp)
  have hres : H1[H.length + 1]? = some (.cel 0 [.str [], .sl [] .tight]) := c2.cel _ _ (by omega) (by rw [hF]; simp)
  have hold : ∀ i, i < H.length → H1[i]? = H[i]? := fun i hi => by rw [c2.old i hi, hF, List.getElem?_append_left hi]
  simp only [c1, GMb, GMc]
  have hpos := allS_er b N QN
  have hcnt := allS_cnt b N QN
  generalize Kb b N QN = A at c3 hpos hcnt
  obtain ⟨⟨er, c⟩, st⟩ := A
  dsimp only at c3 ⊢
  obtain ⟨v, w, c3⟩ := c3
  have hl1 := (List.getElem?_eq_some_iff.1 hres).1
  cases er with
  | some e =>
   have hpe := hpos e rfl
   have hres' := B3 (G := [Blk.cel 0 [.int .i64 e.1, .str e.2]]) hres
   have hst := Dz (sz := 2) (ws := [.str [], .sl [] .tight]) hres' rfl rfl rfl
   have hset : (H1 ++ [Blk.cel 0 [.int .i64 e.1, .str e.2]]).set (H.length + 1) (.cel 0 [.str [], .sl [] .tight]) = H1 ++ [Blk.cel 0 [.int .i64 e.1, .str e.2]] := by
    apply List.ext_getElem?
    intro i
    by_cases hi : H.length + 1 = i
    ·subst hi
     rw [List.getElem?_set_self (by simp; omega), hres']
    ·rw [List.getElem?_set_ne hi]
   rw [hset] at hst
   have hld := BT (sz := 2) hres' rfl
   have hat := Bf (o := 1) (sz := 1) (B3 (G := [Blk.cel 0 [.int .i64 e.1, .str e.2]]) c3.lx)
   have htk : (H1 ++ [Blk.cel 0 [.int .i64 e.1, .str e.2]]).take H.length = H := BR fun i hi => by rw [List.getElem?_append_left (by omega)]; exact hold i hi
   by_cases he : e.1 = 0
   ·exact absurd he (by omega)
   ·have hne : (!decide (e.1 = 0)) = true := by simp [he]
    simp only [SJ, GMb, GMc, HPa, HPc, HPd, HPe, HPz, Nat.reduceAdd, Nat.reduceLT, hne, b1, hst, hat, AP, Bl, hld, E5 htk, E4, Ig]
    rfl
  | none =>
   have hnd : st.nodes.length < 100000000000 := by have := hcnt.1; dsimp only [QN] at this; simp only [List.length_nil] at this; omega
   have hln : st.lines.length < 100000000000 := by have := hcnt.2; dsimp only [QN] at this; simp only [List.length_nil] at this; omega
   have hlines := c3.lines
   have hld6 := Bf (o := 6) (sz := 1) (B3 (G := [Blk.cel 0 [.int .i64 0, .str []]]) c3.lx)
   have hroot := j1 (H := H) (b := b) (c := c) (bx := bx) (N := N) (st := st) (v := v) (w := w) (K := H1 ++ [Blk.cel 0 [.int .i64 0, .str []]]) (B3 hlim) (B3 hres) (B3 c3.lx) (c3.nodes.left _) (fun i hi => by rw [List.getElem?_append_left (by omega)]; exact hold i hi) hnd
   simp only [SJ, GMb, GMc, HPa, HPc, HPd, HPe, HPz, Nat.reduceAdd, Nat.reduceLT, hld6, rdR, AP, Bl, hlines.len]
   by_cases hl0 : 0 < st.lines.length
   ·have hl0' : (st.lines.length : Int) > 0 := by omega
    have hlt : st.lines.length - 1 < st.lines.length := by omega
    have hw : IntKind.i64.wrap ((st.lines.length : Int) - 1) = ((st.lines.length - 1 : Nat) : Int) := C7 (by omega) (by have := hln; omega)
    have hr : CQ st.lines = st.lines[st.lines.length - 1].1 := by
     unfold CQ
     rw [List.getLast?_eq_getElem?, List.getElem?_eq_getElem hlt]
    simp only [hl0', GMb, GMc, HPa, HPc, HPd, HPe, HPz, Nat.reduceAdd, Nat.reduceLT, hld6, rdR, AP, Bl, hlines.len, hw, hlines.idx hlt, Am, Aw, lnC]
    rw [← hr]
    exact hroot
   ·have hl0' : ¬ (st.lines.length : Int) > 0 := by omega
    have hr : CQ st.lines = 0 := by
     unfold CQ
     rw [List.getLast?_eq_getElem?, List.getElem?_eq_none (by omega)]
    simp only [hl0', GMb, GMc]
    rw [hr] at hroot ⊢
    exact hroot
def hintR (b : List UInt8) : List UInt8 × Bool := match (Kb b 100000 ⟨[], [], []⟩).1.1 with
 | none => ([], true)
 | some e => (e.2, decide (e.1 = 0) || decide (e.1 = 3))
theorem N6 (b : List UInt8) (H : Aa) (hb : b.length < 100000000) : Sh.ft (.str b) H = some (.ret (.tup [.str (hintR b).1, .bool (hintR b).2]), H) := by
 have b2 : ∀ s, Ay (some [(.str []), (.int .i64 0)]) [(0, 1, .str s)] = some (.agg [.str s, .int .i64 0]) := fun _ => rfl
 have b4 : Ay (some [(.int .i64 0), (.int .i64 0)]) [(0, 1, (.int .i64 1000)), (1, 1, (.int .i64 100000))] = some (.agg [.int .i64 1000, .int .i64 100000]) := rfl
 have b3 : ∀ s, Ay (some [(.str []), (.int .i64 0), (.int .i64 0), (.int .i64 0), (.str []), (.sl [] .tight), (.sl [] .tight)]) [(0, 2, .agg [.str s, .int .i64 0]), (2, 2, .agg [.int .i64 1000, .int .i64 100000])] = some (.agg [.str s, .int .i64 0, .int .i64 1000, .int .i64 100000, .str [], .sl [] .tight, .sl [] .tight]) := fun _ => rfl
 unfold Sh.ft hintR
 simp only [GMb, GMc, HPa, HPc, HPd, HPe, HPz, Nat.reduceAdd, Nat.reduceLT, b2, b3, b4]
 obtain ⟨F, hF⟩ : ∃ F : Aa, F = H ++ [.cel 0 [.str b, .int .i64 0, .int .i64 1000, .int .i64 100000, .str [], .sl [] .tight, .sl [] .tight]] := ⟨_, rfl⟩
 have hR : RD H.length H.length b 0 1000 100000 ⟨[], [], []⟩ F := ⟨.sl [] .tight, .sl [] .tight, Nat.le_refl _, by unfold Lx; rw [hF]; simp [rdR], .inl ⟨rfl, rfl⟩, .inl ⟨rfl, rfl⟩⟩
 obtain ⟨H1, c1, c2, c3⟩ := S3 hR (by omega) rfl rfl
 rw [hF] at c1
 have hlen : H.length ≤ H1.length := by have := c2.len; rw [hF] at this; simp at this; omega
 have hold : ∀ i, i < H.length → H1[i]? = H[i]? := fun i hi => by rw [c2.old i hi, hF, List.getElem?_append_left hi]
 have htk : ∀ G, (H1 ++ G).take H.length = H := fun G => BR fun i hi => by rw [List.getElem?_append_left (by omega)]; exact hold i hi
 simp only [c1, GMb, GMc]
 cases (Kb b 100000 ⟨[], [], []⟩).1.1 with
 | none =>
  simp only [SJ, GMb, GMc, HPa, HPc, HPd, HPe, HPz, Nat.reduceAdd, Nat.reduceLT]
  exact Hh rfl (htk _)
 | some e =>
  by_cases h0 : e.1 = 0
  ·simp only [SJ, GMb, GMc, HPa, HPc, HPd, HPe, HPz, Nat.reduceAdd, Nat.reduceLT, h0]
   exact Hh rfl (htk _)
  ·simp only [SJ, GMb, GMc, HPa, HPc, HPd, HPe, HPz, Nat.reduceAdd, Nat.reduceLT, h0]
   exact Hh rfl (htk _)
end Go.Gm
namespace Go.Gm
def finR (b : List UInt8) (N : Int) (A : (Er × Nat) × MSt) : (List UInt8 × List Nd) × Int × Int :=
 match A with
 | ((some e, c), _) => (([], []), (c : Int), e.1)
 | ((none, _), st) =>
  if ofOk st.nodes (CQ st.lines : Int) && decide ((Fk st.nodes (CQ st.lines)).length ≤ N) then ((st.law, Fk st.nodes (CQ st.lines)), 0, 0)
  else (([], []), (b.length : Int), 4)
theorem readR_eq (b : List UInt8) (bx N : Int) : Hg b bx N = if NO bx N then finR b N (Kb b N QN) else (([], []), 0, 1) := rfl
theorem r15_finishE (b : List UInt8) (c : Nat) {e : Int} (he : e ≠ 0) {p m : List Ab} (hp : p.all Ab.isScal = true) (hpl : p.length = 2) (hm : m.all Ab.isScal = true) (hml : m.length = 2) (e3 : Ab) (K : Aa) :
  Sh.fk (.agg [.str b, .int .i64 (c : Int), .int .i64 e]) (.agg p) e3 (.agg m) K = some (.ret (.tup [.agg [.str [], .sl [] .no], .int .i64 (c : Int), .int .i64 e]), K) := by
 have hf : decide (e = 0) = false := decide_eq_false he
 have b1 : Ay (some [(.str []), (.sl [] .tight)]) [] = some (.agg [.str [], .sl [] .tight]) := rfl
 unfold Sh.fk
 simp only [GMb, GMc, HPa, HPc, HPd, HPe, HPz, Nat.reduceAdd, Nat.reduceLT, hp, hpl, hm, hml, hf, b1]
theorem r15_finish (b : List UInt8) (c : Nat) (law : List UInt8) (Q : List Nd) (bx N e3 : Int) (K : Aa) :
  Sh.fk (.agg [.str b, .int .i64 (c : Int), .int .i64 0]) (.agg [.str law, .sl (enL cNd Q) .no]) (.int .i64 e3) (.agg [.int .i64 bx, .int .i64 N]) K =
   some (.ret (if e3 = 0 ∧ (Q.length : Int) ≤ N then .tup [.agg [.str law, .sl (enL cNd Q) .no], .int .i64 0, .int .i64 0] else .tup [.agg [.str [], .sl [] .no], .int .i64 (b.length : Int), .int .i64 4]), K) := by
 have b1 : Ay (some [(.str []), (.sl [] .tight)]) [] = some (.agg [.str [], .sl [] .tight]) := rfl
 unfold Sh.fk
 by_cases he : e3 = 0
 ·have hf : decide (e3 = 0) = true := decide_eq_true he
  by_cases hq : (Q.length : Int) ≤ N
  ·have hg : decide ((Q.length : Int) > N) = false := decide_eq_false (by omega)
   rw [if_pos ⟨he, hq⟩]
   simp only [GMb, GMc, HPa, HPc, HPd, HPe, HPz, Nat.reduceAdd, Nat.reduceLT, hf, b1, A5, hg]
  ·have hg : decide ((Q.length : Int) > N) = true := decide_eq_true (by omega)
   rw [if_neg (fun h => hq h.2)]
   simp only [GMb, GMc, HPa, HPc, HPd, HPe, HPz, Nat.reduceAdd, Nat.reduceLT, hf, b1, A5, hg]
 ·have hf : decide (e3 = 0) = false := decide_eq_false he
  rw [if_neg (fun h => he h.1)]
  simp only [GMb, GMc, HPa, HPc, HPd, HPe, HPz, Nat.reduceAdd, Nat.reduceLT, hf, b1]
structure RI (H : Aa) (b : List UInt8) (bx N : Int) (er : Er) (c : Nat) (st : MSt) (v1 v2 v3 : Ab) (K : Aa) : Prop where
 lim : K[H.length]? = some (.cel 0 [.int .i64 bx, .int .i64 N])
 res : K[H.length + 1]? = some (.cel 0 [.str [], .sl [] .tight])
 cur : K[H.length + 2]? = some (.cel 0 [.str b, .int .i64 (c : Int), .int .i64 (Eq er)])
 stt : K[H.length + 3]? = some (.cel 0 (AB st.law v1 v2 v3))
 old : ∀ i, i < H.length → K[i]? = H[i]?
 sr : SR H.length st v1 v2 v3 K
section
variable {H : Aa} {b : List UInt8} {bx N : Int} {er : Er} {c : Nat} {st : MSt} {v1 v2 v3 : Ab} {K : Aa}
theorem RI.len (h : RI H b bx N er c st v1 v2 v3 K) : H.length + 3 < K.length := (List.getElem?_eq_some_iff.1 h.stt).1
theorem RI.ble (h : RI H b bx N er c st v1 v2 v3 K) : H.length ≤ K.length := by have := h.len; omega
theorem RI.go (h : RI H b bx N er c st v1 v2 v3 K) {K' : Aa} (hk : Kp H.length K K') {er' : Er} {c' : Nat} {st' : MSt} {w1 w2 w3 : Ab} (hs : SR H.length st' w1 w2 w3 K') :
  RI H b bx N er' c' st' w1 w2 w3 ((K'.set (H.length + 2) (.cel 0 [.str b, .int .i64 (c' : Int), .int .i64 (Eq er')])).set (H.length + 3) (.cel 0 (AB st'.law w1 w2 w3))) := by
 have hl := h.len
 have := hk.len
 have k2 := hk.cel _ _ h.cur
 have k3 := hk.cel _ _ h.stt
 have k3' : (K'.set (H.length + 2) (.cel 0 [.str b, .int .i64 (c' : Int), .int .i64 (Eq er')]))[H.length + 3]? = some (.cel 0 (AB st.law v1 v2 v3)) := by rw [List.getElem?_set_ne (by omega)]; exact k3
 refine ⟨?_, ?_, ?_, ?_, fun i hi => ?_, (hs.put k2).put k3'⟩
 ·rw [List.getElem?_set_ne (by omega), List.getElem?_set_ne (by omega)]; exact hk.cel _ _ h.lim
 ·rw [List.getElem?_set_ne (by omega), List.getElem?_set_ne (by omega)]; exact hk.cel _ _ h.res
 ·rw [List.getElem?_set_ne (by omega), List.getElem?_set_self (by omega)]
 ·rw [List.getElem?_set_self (by rw [List.length_set]; omega)]
 ·rw [List.getElem?_set_ne (by omega), List.getElem?_set_ne (by omega), hk.old i hi]; exact h.old i hi
theorem RI.mv (h : RI H b bx N er c st v1 v2 v3 K) (er' : Er) (c' : Nat) : RI H b bx N er' c' st v1 v2 v3 (K.set (H.length + 2) (.cel 0 [.str b, .int .i64 (c' : Int), .int .i64 (Eq er')])) := by
 have hl := h.len
 refine ⟨?_, ?_, ?_, ?_, fun i hi => ?_, h.sr.put h.cur⟩
 ·rw [List.getElem?_set_ne (by omega)]; exact h.lim
 ·rw [List.getElem?_set_ne (by omega)]; exact h.res
 ·rw [List.getElem?_set_self (by omega)]
 ·rw [List.getElem?_set_ne (by omega)]; exact h.stt
 ·rw [List.getElem?_set_ne (by omega)]; exact h.old i hi
theorem r19_fin (h : RI H b bx N none c st v1 v2 v3 K) (hnd : st.nodes.length < 100000000000) :
  Sh.f62 H (.ptr H.length 0 0) (.ptr (H.length + 1) 0 0) (.ptr (H.length + 2) 0 0) (.ptr (H.length + 3) 0 0) (.int .i64 (CQ st.lines : Int)) K = some (.ret (E4 (finR b N ((none, c), st))), H) := by
 have hl := h.len
 obtain ⟨tk, hv1⟩ := h.sr.nodes.sl
 have hof := fun K => q06_of st.nodes tk (CQ st.lines : Int) K (by omega)
 rw [Int.toNat_natCast] at hof
 have main : ∀ (Q : List Nd) (e3 : Int), (Ap (A3 (some [(.sl [] .tight)]) K) fun x143 H144 =>
 bP H (Au (Af 1 x143 (.agg [.sl (enL cNd Q) .no]) H144)) fun _ H146 =>
 (Ad true 3 (.ptr (H.length + 2) 0 0) H146).bind fun x147 =>
 (Ac 0 (.ptr (H.length + 3) 0 0)).bind fun x148 =>
 (Ad false 1 x148 H146).bind fun x149 =>
 (Ad true 1 x143 H146).bind fun x150 =>
 (Ay (some [(.str []), (.sl [] .tight)]) [(0, 1, x149), (1, 1, x150)]).bind fun x151 =>
 (Ad true 2 (.ptr H.length 0 0) H146).bind fun x152 =>
 bP H (Sh.fk x147 x151 (.int .i64 e3) x152 H146) fun x153 H154 =>
 (Ak 0 x153).bind fun x155 =>
 (Ak 1 x153).bind fun x156 =>
 (Ak 2 x153).bind fun x157 =>
 bP H (Au (Af 2 (.ptr (H.length + 1) 0 0) x155 H154)) fun _ H159 =>
 (BM [Ad true 2 (.ptr (H.length + 1) 0 0) H159, some x156, some x157]).bind fun x160 => rPN H x160 H159) =
   some (.ret (E4 (if e3 = 0 ∧ (Q.length : Int) ≤ N then ((st.law, Q), 0, 0) else (([], []), (b.length : Int), 4))), H) := by
  intro Q e3
  have hbd : Ay (some [(.str []), (.sl [] .tight)]) [(0, 1, .str st.law), (1, 1, .agg [.sl (enL cNd Q) .no])] = some (.agg [.str st.law, .sl (enL cNd Q) .no]) := rfl
  have hst1 : Af 1 (.ptr K.length 0 0) (.agg [.sl (enL cNd Q) .no]) (K ++ [.cel 0 [.sl [] .tight]]) = some (K ++ [.cel 0 [.sl (enL cNd Q) .no]]) := by
   rw [Dz (sz := 1) (ws := [.sl (enL cNd Q) .no]) AG rfl rfl rfl, Cd]
  have l2 := B3 (G := [Blk.cel 0 [.sl (enL cNd Q) .no]]) h.cur
  have l3 := B3 (G := [Blk.cel 0 [.sl (enL cNd Q) .no]]) h.stt
  have l0 := B3 (G := [Blk.cel 0 [.sl (enL cNd Q) .no]]) h.lim
  have l1 := B3 (G := [Blk.cel 0 [.sl (enL cNd Q) .no]]) h.res
  have l4 : (K ++ [Blk.cel 0 [.sl (enL cNd Q) .no]])[K.length]? = some (.cel 0 [.sl (enL cNd Q) .no]) := AG
  have g0 : (AB st.law v1 v2 v3)[0]? = some (.str st.law) := rfl
  rw [alloc_eq rfl]
  rw [BF] at l2
  simp only [GMb, GMc, HPa, HPc, HPd, HPe, HPz, Nat.reduceAdd, Nat.reduceLT, hst1, BT (sz := 3) l2 rfl, Bf l3, g0, BT (sz := 1) l4 rfl, hbd, BT (sz := 2) l0 rfl, r15_finish]
  have htk : ∀ B, ((K ++ [Blk.cel 0 [.sl (enL cNd Q) .no]]).set (H.length + 1) B).take H.length = H := fun B => BR fun i hi => by rw [List.getElem?_set_ne (by omega), List.getElem?_append_left (by omega)]; exact h.old i hi
  have hset : ∀ B, ((K ++ [Blk.cel 0 [.sl (enL cNd Q) .no]]).set (H.length + 1) B)[H.length + 1]? = some B := fun B => by rw [List.getElem?_set_self (by rw [List.length_append]; omega)]
  by_cases hq : e3 = 0 ∧ (Q.length : Int) ≤ N
  ·rw [if_pos hq, if_pos hq]
   have hst2 := Dz (sz := 2) (ws := [.str st.law, .sl (enL cNd Q) .no]) l1 rfl rfl rfl
   have hld2 := BT (sz := 2) (hset (.cel 0 [.str st.law, .sl (enL cNd Q) .no])) rfl
   simp only [GMb, GMc, HPa, HPc, HPd, HPe, HPz, Nat.reduceAdd, Nat.reduceLT, hst2, hld2, E5 (htk _), E4, Ig]
  ·rw [if_neg hq, if_neg hq]
   have hst2 := Dz (sz := 2) (ws := [.str [], .sl [] .no]) l1 rfl rfl rfl
   have hld2 := BT (sz := 2) (hset (.cel 0 [.str [], .sl [] .no])) rfl
   simp only [GMb, GMc, HPa, HPc, HPd, HPe, HPz, Nat.reduceAdd, Nat.reduceLT, hst2, hld2, E5 (htk _), E4, Ig]
   rfl
 unfold Sh.f62 finR
 dsimp only
 have h1 := Bf (o := 1) (sz := 1) h.stt
 rw [stt_g1, hv1] at h1
 cases hok : ofOk st.nodes (CQ st.lines : Int) with
 | false =>
  have := main [] 1
  rw [hok] at hof
  rw [if_neg (fun h => by have := h.1; revert this; decide)] at this
  simp only [GMb, GMc, h1, hof, N5, Ai, Nat.zero_add, Bool.false_eq_true, if_false] at this ⊢
  simp only [HPa, HPc, HPd, HPe, HPz, Nat.reduceAdd, Nat.reduceLT] at this ⊢
  exact this
 | true =>
  have := main (Fk st.nodes (CQ st.lines)) 0
  rw [hok] at hof
  generalize Fk st.nodes (CQ st.lines) = Q at this hof
  by_cases hq : (Q.length : Int) ≤ N
  ·rw [if_pos ⟨rfl, hq⟩] at this
   have hqd : decide ((Q.length : Int) ≤ N) = true := decide_eq_true hq
   rw [hqd]
   simp only [GMb, GMc, h1, hof, N5, Ai, Nat.zero_add, if_true] at this ⊢
   simp only [HPa, HPc, HPd, HPe, HPz, Nat.reduceAdd, Nat.reduceLT] at this ⊢
   exact this
  ·rw [if_neg (fun h => hq h.2)] at this
   have hqd : decide ((Q.length : Int) ≤ N) = false := decide_eq_false hq
   rw [hqd]
   simp only [GMb, GMc, h1, hof, N5, Ai, Nat.zero_add, Bool.false_eq_true, if_true, if_false] at this ⊢
   simp only [HPa, HPc, HPd, HPe, HPz, Nat.reduceAdd, Nat.reduceLT] at this ⊢
   exact this
theorem end_code {b : List UInt8} {a : Nat} (ha : a ≤ b.length) (rest : List UInt8) : Eq (FO b a rest).1 = Ry b a := by
 unfold FO Ry
 dsimp only
 split
 ·rfl
 ·split
  ·rfl
  ·exact DA (by
    unfold crN
    split
    ·rename_i h; exact BU h
    ·exact ha) _
set_option maxRecDepth 8000 in
theorem nine_mem (c : UInt8) : ([46, 42, 36, 49, 50, 51, 52, 53, 54, 55, 56, 57] : List UInt8).contains c = (([46, 42, 36] : List UInt8).contains c || (decide ((c.toNat : Int) ≥ 49) && decide ((c.toNat : Int) ≤ 57))) := by
 have : ∀ n : Fin 256, ([46, 42, 36, 49, 50, 51, 52, 53, 54, 55, 56, 57] : List UInt8).contains (UInt8.ofNat n.val) = (([46, 42, 36] : List UInt8).contains (UInt8.ofNat n.val) || (decide (49 ≤ n.val) && decide (n.val ≤ 57))) := by decide
 have h := this ⟨c.toNat, c.toNat_lt⟩
 simp only [UInt8.ofNat_toNat] at h
 rw [h, show decide ((c.toNat : Int) ≥ 49) = decide (49 ≤ c.toNat) by rw [Bool.eq_iff_iff]; simp only [decide_eq_true_eq]; omega, show decide ((c.toNat : Int) ≤ 57) = decide (c.toNat ≤ 57) by rw [Bool.eq_iff_iff]; simp only [decide_eq_true_eq]; omega]
structure RX where
 k : Nat
 er : Er
 c : Nat
 st : MSt
 v1 : Ab
 v2 : Ab
 v3 : Ab
 K : Aa
def S0 (b : List UInt8) (N : Int) (s : RX) : (Er × Nat) × MSt := match s.er with
 | some e => ((some e, s.c), s.st)
 | none => Dq b N s.k s.c s.st
theorem r19_lines (hb : b.length < 100000000) {k : Nat} (h : RI H b bx N er c st v1 v2 v3 K) (hc : c ≤ b.length) (hk : b.length < c + k) (hk2 : k < 1000000000) (hne : ∀ e, er = some e → e.1 ≠ 0) (hnd : er = none → st.nodes.length ≤ 21 * c ∧ st.lines.length ≤ c) :
  Ao (fun rec1 vs H1 => Sh.f4x H rec1 (ag vs 0) (ag vs 1) (ag vs 2) (ag vs 3) H1) AC [.ptr H.length 0 0, .ptr (H.length + 1) 0 0, .ptr (H.length + 2) 0 0, .ptr (H.length + 3) 0 0] K =
   some (.ret (E4 (finR b N (S0 b N ⟨k, er, c, st, v1, v2, v3, K⟩))), H) := by
 refine AM (G := fun rec1 vs H1 => Sh.f4x H rec1 (ag vs 0) (ag vs 1) (ag vs 2) (ag vs 3) H1) (σ := RX)
  (fun s => RI H b bx N s.er s.c s.st s.v1 s.v2 s.v3 s.K ∧ s.c ≤ b.length ∧ (s.er = none → b.length < s.c + s.k) ∧ (∀ e, s.er = some e → e.1 ≠ 0) ∧ (s.er = none → s.st.nodes.length ≤ 21 * s.c ∧ s.st.lines.length ≤ s.c))
  (fun _ => [.ptr H.length 0 0, .ptr (H.length + 1) 0 0, .ptr (H.length + 2) 0 0, .ptr (H.length + 3) 0 0]) (fun s => s.K) (fun s => match s.er with | none => s.k | some _ => 0)
  (fun s => some (.ret (E4 (finR b N (S0 b N s))), H)) (fun s rec hi hrec => ?_) ⟨k, er, c, st, v1, v2, v3, K⟩ ⟨h, hc, fun _ => hk, hne, hnd⟩ (by dsimp only; split <;> omega)
 clear h hc hk hk2 hne hnd
 obtain ⟨k, er, c, st, v1, v2, v3, K⟩ := s
 obtain ⟨h, hc, hk, hne, hnd⟩ := hi
 dsimp only at h hc hk hne hnd hrec ⊢
 have l2 := Bf (o := 2) (sz := 1) h.cur
 have l23 := BT (sz := 3) h.cur rfl
 have l02 := BT (sz := 2) h.lim rfl
 have b1 : Ay (some [(.str []), (.sl [] .tight)]) [] = some (.agg [.str [], .sl [] .tight]) := rfl
 have hlen := h.len
 unfold Sh.f4x
 cases er with
 | some e =>
  have he := hne e rfl
  have hf : decide (e.1 = 0) = false := decide_eq_false he
  have hst := Dz (sz := 2) (ws := [.str [], .sl [] .no]) h.res rfl rfl rfl
  have hset : (K.set (H.length + 1) (.cel 0 [.str [], .sl [] .no]))[H.length + 1]? = some (.cel 0 [.str [], .sl [] .no]) := by rw [List.getElem?_set_self (by omega)]
  have hld := BT (sz := 2) hset rfl
  have htk : (K.set (H.length + 1) (.cel 0 [.str [], .sl [] .no])).take H.length = H := BR fun i hi => by rw [List.getElem?_set_ne (by omega)]; exact h.old i hi
  have hfin := fun K => r15_finishE b c he (p := [.str [], .sl [] .tight]) (m := [.int .i64 bx, .int .i64 N]) rfl rfl rfl rfl (.int .i64 0) K
  rw [AZ] at l2 l23
  simp only [GMb, GMc, HPa, HPc, HPd, HPe, HPz, Nat.reduceAdd, Nat.reduceLT, Al, l2, AP, Bl, hf, l23, b1, l02, hfin, hst, hld, E5 htk]
  rfl
 | none =>
  have he := fun H => Do b c 0 H
  unfold AT BL at he
  rw [BF] at l2 l23
  have hk := hk rfl
  obtain ⟨hnd1, hnd2⟩ := hnd rfl
  have l32 := Bf (o := 2) (sz := 1) h.stt
  have l34 := BT (sz := 4) h.stt (BG _ _ _ _)
  rw [stt_g2] at l32
  have hal := h.sr.ats.len
  have halen : (ats st).length = st.lines.length := by unfold ats; rw [List.length_map]
  rw [halen] at hal
  obtain ⟨k, rfl⟩ : ∃ j, k = j + 1 := ⟨k - 1, by omega⟩
  by_cases hend : b.length ≤ c
  ·have hed : decide (b.length ≤ c) = true := decide_eq_true hend
   have hrest : S0 b N ⟨k + 1, none, c, st, v1, v2, v3, K⟩ = ((none, c), st) := by
    show Dq b N (k + 1) c st = _
    unfold Dq
    rw [if_pos (by omega)]
   rw [hrest]
   have hfin := r19_fin h (by omega)
   by_cases hl0 : 0 < st.lines.length
   ·have hl0' : decide ((st.lines.length : Int) > 0) = true := decide_eq_true (by omega)
    have hlt : st.lines.length - 1 < (ats st).length := by omega
    have hw : IntKind.i64.wrap ((st.lines.length : Int) - 1) = ((st.lines.length - 1 : Nat) : Int) := C7 (by omega) (by omega)
    have hr : CQ st.lines = (ats st)[st.lines.length - 1] := by
     unfold CQ
     rw [List.getLast?_eq_getElem?, List.getElem?_eq_getElem (by omega)]
     simp [ats]
    rw [hr] at hfin
    simp only [GMb, GMc, HPa, HPc, HPd, HPe, HPz, Nat.reduceAdd, Nat.reduceLT, Al, l2, l23, AP, Bl, he, hed, l32, hal, hl0', hw, h.sr.ats.idx hlt, Aw, cN]
    exact hfin
   ·have hl0' : decide ((st.lines.length : Int) > 0) = false := decide_eq_false (by omega)
    have hr : CQ st.lines = 0 := by
     unfold CQ
     rw [List.getLast?_eq_getElem?, List.getElem?_eq_none (by omega)]
    rw [hr] at hfin
    simp only [GMb, GMc, HPa, HPc, HPd, HPe, HPz, Nat.reduceAdd, Nat.reduceLT, Al, l2, l23, AP, Bl, he, hed, l32, hal, hl0']
    exact hfin
  ·have hlt : c < b.length := by omega
   have hed : decide (b.length ≤ c) = false := decide_eq_false hend
   have hrest : S0 b N ⟨k + 1, none, c, st, v1, v2, v3, K⟩ = (match endE b (rlS b N c st) with | ((some e, c), st') => ((some e, c), st') | ((none, c), st') => Dq b N k c st') := by
    show Dq b N (k + 1) c st = _
    conv => lhs; unfold Dq
    rw [if_neg (by omega), oneS_eq]
    rfl
   rw [hrest]
   have hok := Ra hlt N st
   have nextJ : ∀ (s : (Er × Nat) × MSt) (st' : MSt) (w1 w2 w3 : Ab) (K' : Aa), RI H b bx N s.1.1 s.1.2 st' w1 w2 w3 K' → (s.1.1 = none → st' = s.2) → EU s.1.1 → Nt b c st s →
     Sh.f4w H rec (.ptr H.length 0 0) (.ptr (H.length + 1) 0 0) (.ptr (H.length + 2) 0 0) (.ptr (H.length + 3) 0 0) K' =
      some (.ret (E4 (finR b N (match endE b s with | ((some e, c), st') => ((some e, c), st') | ((none, c), st') => Dq b N k c st'))), H) := by
    intro s st' w1 w2 w3 K' hR hst' hEr hL
    obtain ⟨⟨er, c1⟩, st1⟩ := s
    dsimp only at hR hst' hEr hL ⊢
    have m23 := BT (sz := 3) hR.cur rfl
    unfold Sh.f4w
    cases er with
    | some e =>
     have he : e.1 ≠ 0 := by have := hEr e rfl; omega
     have hx := fun K => r15_eolX b c1 he K
     unfold AT BL at hx
     rw [AZ] at m23
     have hst := Dz (sz := 3) (ws := [.str b, .int .i64 (c1 : Int), .int .i64 e.1]) hR.cur rfl rfl rfl
     have := hrec ⟨0, some e, c1, st', w1, w2, w3, _⟩ ⟨hR.mv (some e) c1, hL.le, (fun h => by cases h), (fun e' h => by injection h with h; rw [← h]; exact he), (fun h => by cases h)⟩ (by dsimp only; omega)
     rw [AZ] at this
     simp only [GMb, GMc, HPa, HPc, HPd, HPe, HPz, Nat.reduceAdd, Nat.reduceLT, m23, hx, hst]
     exact this
    | none =>
     have hx := fun K => r15_eol (b := b) hL.le (by omega) K
     have hec := end_code hL.le []
     have he2 : (FO b c1 []).2 = MD b c1 := rfl
     have hle := NW hL.le []
     have her := PP b c1 []
     rw [← hec, ← he2] at hx
     have hgo := hL.go rfl
     have hn1 := hL.nd
     have hn2 := hL.ln
     obtain rfl := hst' rfl
     unfold AT BL at hx
     rw [BF] at m23
     dsimp only [endE] at hgo hn1 hn2 ⊢
     generalize FO b c1 [] = E at hx hle her
     obtain ⟨er2, c2⟩ := E
     dsimp only at hx hle ⊢
     have hst := Dz (sz := 3) (ws := [.str b, .int .i64 (c2 : Int), .int .i64 (Eq er2)]) hR.cur rfl rfl rfl
     have := hrec ⟨k, er2, c2, st', w1, w2, w3, _⟩ ⟨hR.mv er2 c2, hle.2, (fun h => by dsimp only; omega), (fun e' h => by have := her e' h; omega), (fun h => by dsimp only; omega)⟩ (by dsimp only; split <;> omega)
     simp only [GMb, GMc, HPa, HPc, HPd, HPe, HPz, Nat.reduceAdd, Nat.reduceLT, m23, hx, hst]
     rw [this]
     unfold S0
     cases er2 <;> rfl
   have next : ∀ (x : Out) (s : (Er × Nat) × MSt), Doc H.length b K x s → EU s.1.1 → Nt b c st s → (bP H x fun x72 H73 =>
 (Ak 0 x72).bind fun x74 =>
 (Ak 1 x72).bind fun x75 =>
 bP H (Au (Af 3 (.ptr (H.length + 2) 0 0) x74 H73)) fun _ H77 =>
 bP H (Au (Af 4 (.ptr (H.length + 3) 0 0) x75 H77)) fun _ H79 =>
 Sh.f4w H rec (.ptr H.length 0 0) (.ptr (H.length + 1) 0 0) (.ptr (H.length + 2) 0 0) (.ptr (H.length + 3) 0 0) H79) =
      some (.ret (E4 (finR b N (match endE b s with | ((some e, c), st') => ((some e, c), st') | ((none, c), st') => Dq b N k c st'))), H) := by
    intro x s ⟨st', w1, w2, w3, K', hx, hs, hkp, hst'⟩ hEr hL
    subst hx
    have g2 := hkp.cel _ _ h.cur
    have g3 := hkp.cel _ _ h.stt
    have hst1 := Dz (sz := 3) (ws := [.str b, .int .i64 (s.1.2 : Int), .int .i64 (Eq s.1.1)]) g2 rfl rfl rfl
    have g3' : (K'.set (H.length + 2) (.cel 0 [.str b, .int .i64 (s.1.2 : Int), .int .i64 (Eq s.1.1)]))[H.length + 3]? = some (.cel 0 (AB st.law v1 v2 v3)) := by rw [List.getElem?_set_ne (by omega)]; exact g3
    have hst2 := Dz (sz := 4) (ws := AB st'.law w1 w2 w3) g3' (BG _ _ _ _) (BG _ _ _ _) (Dm hs st'.law)
    have := nextJ s st' w1 w2 w3 _ (h.go hkp hs) hst' hEr hL
    simp only [AT, BL, GMb, GMc, HPa, HPc, HPd, HPe, HPz, Nat.reduceAdd, Nat.reduceLT, hst1, hst2]
    exact this
   have hix := AK (K := .i64) hlt
   have hs35 : decide ((b[c].toNat : Int) = 35) = Aq b c [35] := by rw [Dh hlt]; exact HO b[c] 35 (by decide)
   have hs46 : decide ((b[c].toNat : Int) = 46) = Aq b c [46] := by rw [Dh hlt]; exact HO b[c] 46 (by decide)
   have hs42 : decide ((b[c].toNat : Int) = 42) = Aq b c [42] := by rw [Dh hlt]; exact HO b[c] 42 (by decide)
   have hs36 : decide ((b[c].toNat : Int) = 36) = Aq b c [36] := by rw [Dh hlt]; exact HO b[c] 36 (by decide)
   have hrow : Aq b c [46, 42, 36] = (Aq b c [46] || Aq b c [42] || Aq b c [36]) := by
    simp only [Sy hlt, List.contains_cons, List.contains_nil, Bool.or_false, Bool.or_assoc]
   have hany : Aq b c [46, 42, 36, 49, 50, 51, 52, 53, 54, 55, 56, 57] = (Aq b c [46, 42, 36] || (decide ((b[c].toNat : Int) ≥ 49) && decide ((b[c].toNat : Int) ≤ 57))) := by
    simp only [Sy hlt]
    exact nine_mem b[c]
   have hmk := next _ _ (r19_mark h.sr hlt (by omega)) (markS_er b c st) (markS_ok hlt st)
   have hlf := fun hs => next _ _ (r19_leaf h.sr h.ble hc (by omega) (by omega) (by omega)) (leafS_er b c st) (leafS_ok hlt st hs)
   have hnd := next _ _ (r19_node h.sr h.ble hc (by omega) (by omega) (by omega)) (nodeS_er b c st) (nodeS_ok hlt st)
   have hst4 := Gd (o := 2) (v := .int .i64 4) h.cur rfl (by simp)
   have hlm := nextJ ((some (4, []), c), st) st v1 v2 v3 _ (h.mv (some (4, [])) c) (fun _ => rfl) EU.lim ⟨hc, (fun h => by cases h), Nat.le_add_right _ _, Nat.le_add_right _ _⟩
   have l01 := Bf (o := 1) (sz := 1) h.lim
   rw [AZ] at hlm
   unfold AT BL at hmk hlf hnd
   have l20 := Bf (o := 0) (sz := 1) h.cur
   have l21 := Bf (o := 1) (sz := 1) h.cur
   unfold rlS at *
   cases h35 : Aq b c [35] with
   | true =>
    rw [h35] at hs35
    simp only [if_true]
    cases h46 : Aq b c [46] <;> cases h42 : Aq b c [42] <;> cases h36 : Aq b c [36] <;>
     ·rw [h46] at hs46; rw [h42] at hs42; rw [h36] at hs36
      simp only [GMb, GMc, HPa, HPc, HPd, HPe, HPz, Nat.reduceAdd, Nat.reduceLT, Al, l2, l20, l21, l23, AP, Bl, he, hed, hix, hs46, hs42, hs36, hs35, l34]
      exact hmk
   | false =>
    rw [h35] at hs35
    simp only [Bool.false_eq_true, if_false]
    rw [hrow] at hlf
    rw [hany, hrow]
    cases dN : decide ((st.lines.length : Int) ≥ N) with
    | true =>
     cases h46 : Aq b c [46] with
     | true =>
      rw [h46] at hs46 hlf
      simp only [GMb, GMc, HPa, HPc, HPd, HPe, HPz, Nat.reduceAdd, Nat.reduceLT, Al, l2, l20, l21, l23, l32, l34, l01, hal, AP, Bl, he, hed, hix, hs46, hs42, hs36, hs35, dN, hst4, Bool.false_eq_true, if_true, if_false]
      exact hlm
     | false =>
      rw [h46] at hs46 hlf
      cases h42 : Aq b c [42] with
      | true =>
       rw [h42] at hs42 hlf
       simp only [GMb, GMc, HPa, HPc, HPd, HPe, HPz, Nat.reduceAdd, Nat.reduceLT, Al, l2, l20, l21, l23, l32, l34, l01, hal, AP, Bl, he, hed, hix, hs46, hs42, hs36, hs35, dN, hst4, Bool.false_eq_true, if_true, if_false]
       exact hlm
      | false =>
       rw [h42] at hs42 hlf
       cases h36 : Aq b c [36] with
       | true =>
        rw [h36] at hs36 hlf
        simp only [GMb, GMc, HPa, HPc, HPd, HPe, HPz, Nat.reduceAdd, Nat.reduceLT, Al, l2, l20, l21, l23, l32, l34, l01, hal, AP, Bl, he, hed, hix, hs46, hs42, hs36, hs35, dN, hst4, Bool.false_eq_true, if_true, if_false]
        exact hlm
       | false =>
        rw [h36] at hs36 hlf
        cases hge : decide ((b[c].toNat : Int) ≥ 49) with
        | true =>
         cases hle : decide ((b[c].toNat : Int) ≤ 57) with
         | true =>
          simp only [GMb, GMc, HPa, HPc, HPd, HPe, HPz, Nat.reduceAdd, Nat.reduceLT, Al, l2, l20, l21, l23, l32, l34, l01, hal, AP, Bl, he, hed, hix, hs46, hs42, hs36, hs35, dN, hst4, hge, hle, Bool.false_eq_true, if_true, if_false]
          exact hlm
         | false =>
          simp only [GMb, GMc, HPa, HPc, HPd, HPe, HPz, Nat.reduceAdd, Nat.reduceLT, Al, l2, l20, l21, l23, l32, l34, l01, hal, AP, Bl, he, hed, hix, hs46, hs42, hs36, hs35, dN, hst4, hge, hle, Bool.false_eq_true, if_true, if_false]
          exact hnd
        | false =>
         simp only [GMb, GMc, HPa, HPc, HPd, HPe, HPz, Nat.reduceAdd, Nat.reduceLT, Al, l2, l20, l21, l23, l32, l34, l01, hal, AP, Bl, he, hed, hix, hs46, hs42, hs36, hs35, dN, hst4, hge, Bool.false_eq_true, if_true, if_false]
         exact hnd
    | false =>
     cases h46 : Aq b c [46] with
     | true =>
      rw [h46] at hs46 hlf
      simp only [GMb, GMc, HPa, HPc, HPd, HPe, HPz, Nat.reduceAdd, Nat.reduceLT, Al, l2, l20, l21, l23, l32, l34, l01, hal, AP, Bl, he, hed, hix, hs46, hs42, hs36, hs35, dN, hst4, Bool.false_eq_true, if_true, if_false]
      exact hlf rfl
     | false =>
      rw [h46] at hs46 hlf
      cases h42 : Aq b c [42] with
      | true =>
       rw [h42] at hs42 hlf
       simp only [GMb, GMc, HPa, HPc, HPd, HPe, HPz, Nat.reduceAdd, Nat.reduceLT, Al, l2, l20, l21, l23, l32, l34, l01, hal, AP, Bl, he, hed, hix, hs46, hs42, hs36, hs35, dN, hst4, Bool.false_eq_true, if_true, if_false]
       exact hlf rfl
      | false =>
       rw [h42] at hs42 hlf
       cases h36 : Aq b c [36] with
       | true =>
        rw [h36] at hs36 hlf
        simp only [GMb, GMc, HPa, HPc, HPd, HPe, HPz, Nat.reduceAdd, Nat.reduceLT, Al, l2, l20, l21, l23, l32, l34, l01, hal, AP, Bl, he, hed, hix, hs46, hs42, hs36, hs35, dN, hst4, Bool.false_eq_true, if_true, if_false]
        exact hlf rfl
       | false =>
        rw [h36] at hs36 hlf
        cases hge : decide ((b[c].toNat : Int) ≥ 49) with
        | true =>
         cases hle : decide ((b[c].toNat : Int) ≤ 57) with
         | true =>
          simp only [GMb, GMc, HPa, HPc, HPd, HPe, HPz, Nat.reduceAdd, Nat.reduceLT, Al, l2, l20, l21, l23, l32, l34, l01, hal, AP, Bl, he, hed, hix, hs46, hs42, hs36, hs35, dN, hst4, hge, hle, Bool.false_eq_true, if_true, if_false]
          exact hnd
         | false =>
          simp only [GMb, GMc, HPa, HPc, HPd, HPe, HPz, Nat.reduceAdd, Nat.reduceLT, Al, l2, l20, l21, l23, l32, l34, l01, hal, AP, Bl, he, hed, hix, hs46, hs42, hs36, hs35, dN, hst4, hge, hle, Bool.false_eq_true, if_true, if_false]
          exact hnd
        | false =>
         simp only [GMb, GMc, HPa, HPc, HPd, HPe, HPz, Nat.reduceAdd, Nat.reduceLT, Al, l2, l20, l21, l23, l32, l34, l01, hal, AP, Bl, he, hed, hix, hs46, hs42, hs36, hs35, dN, hst4, hge, Bool.false_eq_true, if_true, if_false]
         exact hnd

end
end Go.Gm
namespace Go.Gm
def hdS (b : List UInt8) : Er × Nat := match B7 b 0 CG [] with
 | (some e, c) => (some e, c)
 | (none, c) => FO b (F6 b c) []
theorem allS_head (b : List UInt8) (N : Int) (st : MSt) : Kb b N st = match hdS b with
 | (some e, c) => ((some e, c), st)
 | (none, d) => Dq b N (b.length + 1) d st := by
 unfold Kb hdS
 generalize B7 b 0 CG [] = M
 obtain ⟨er, c⟩ := M
 cases er with
 | some e => rfl
 | none =>
  dsimp only
  generalize FO b (F6 b c) [] = E
  obtain ⟨er, d⟩ := E
  cases er <;> rfl
theorem q19_read (b : List UInt8) (bx N : Int) (H : Aa) (hb : b.length < 100000000) : Sh.fx (.str b) (.agg [.int .i64 bx, .int .i64 N]) H = some (.ret (E4 (Hg b bx N)), H) := by
 have b1 : Ay (some [(.str []), (.sl [] .tight)]) [] = some (.agg [.str [], .sl [] .tight]) := rfl
 have b2 : Ay (some [(.str []), (.int .i64 0), (.int .i64 0)]) [(0, 1, .str b)] = some (.agg [.str b, .int .i64 0, .int .i64 0]) := rfl
 have b3 : Ay (some [(.str []), (.sl [] .tight), (.sl [] .tight), (.sl [] .tight)]) [(0, 1, (.str [66, 51, 47, 83, 50, 51]))] = some (.agg [.str GO, .sl [] .tight, .sl [] .tight, .sl [] .tight]) := rfl
 rw [readR_eq]
 unfold Sh.fx
 simp only [GMb, GMc, HPa, HPc, HPd, HPe, HPz, Nat.reduceAdd, Nat.reduceLT, q11_fine]
 cases hf : NO bx N with
 | false =>
  simp only [GMb, GMc, HPa, HPc, HPd, HPe, HPz, Nat.reduceAdd, Nat.reduceLT, b1, Bool.false_eq_true, if_false, E4, Ig]
  rfl
 | true =>
  have hlit := fun K => r15_lit (b := b) (Nat.zero_le b.length) (by omega) [91, 77, 50, 93] K
  have hmc := Mb (Nat.zero_le b.length) CG []
  have hM := Hn (s := CG) (rest := []) (Nat.zero_le b.length)
  have hm2 : (B7 b 0 CG []).2 = Fv b 0 CG := rfl
  have hmn := Lr b 0 CG []
  have hhd : hdS b = match B7 b 0 CG [] with | (some e, c) => (some e, c) | (none, c) => FO b (F6 b c) [] := rfl
  rw [allS_head]
  have he5 : CG = [91, 77, 50, 93] := rfl
  rw [← he5, ← hmc, ← hm2] at hlit
  generalize B7 b 0 CG [] = M at hlit hM hmn hhd
  obtain ⟨er, c⟩ := M
  dsimp only at hlit hM hmn hhd
  have hany : ∀ K, ∃ er2 c2, hdS b = (er2, c2) ∧ c2 ≤ b.length ∧ EU er2 ∧ ∃ c3 e3, Sh.fe (AT b c (Eq er)) K = some (.ret (AT b c3 e3), K) ∧ Sh.fi (AT b c3 e3) K = some (.ret (AT b c2 (Eq er2)), K) := by
   intro K
   cases er with
   | some e =>
    have he : e.1 ≠ 0 := by have := hmn e rfl; omega
    exact ⟨some e, c, hhd, hM, hmn, c, e.1, r15_anyX b c he K, r15_eolX b c he K⟩
   | none =>
    have hal := PX hM
    refine ⟨(FO b (F6 b c) []).1, (FO b (F6 b c) []).2, hhd, (NW hal []).2, PP _ _ _, F6 b c, 0, r15_any hM (by omega) K, ?_⟩
    rw [end_code hal]
    exact r15_eol hal (by omega) K
  rw [he5] at hlit
  unfold AT BL at hlit hany
  rw [show ((0 : Nat) : Int) = 0 from rfl] at hlit
  obtain ⟨er2, c2, hh, hc2, hE, c3, e3, k1, k2⟩ := hany (H ++ [.cel 0 [.int .i64 bx, .int .i64 N], .cel 0 [.str [], .sl [] .tight], .cel 0 [.str b, .int .i64 (c : Int), .int .i64 (Eq er)]])
  have hs0 : (⟨GO, [], []⟩ : MSt) = QN := rfl
  have hR : RI H b bx N er2 c2 QN (.sl [] .tight) (.sl [] .tight) (.sl [] .tight) (H ++ [.cel 0 [.int .i64 bx, .int .i64 N], .cel 0 [.str [], .sl [] .tight], .cel 0 [.str b, .int .i64 (c2 : Int), .int .i64 (Eq er2)], .cel 0 [.str GO, .sl [] .tight, .sl [] .tight, .sl [] .tight]]) :=
   ⟨by rw [show H.length = H.length + 0 from rfl, CO]; rfl, by rw [CO]; rfl, by rw [CO]; rfl, by rw [CO]; rfl, fun i hi => List.getElem?_append_left hi,
    ⟨.inl ⟨rfl, rfl⟩, .inl ⟨rfl, rfl⟩, .inl ⟨rfl, rfl⟩, fun i es es' h => by injection h with _ h; cases h⟩⟩
  have key := r19_lines hb (k := b.length + 1) hR hc2 (by omega) (by omega) (fun e h => by have := hE e h; omega) (fun _ => ⟨Nat.zero_le _, Nat.zero_le _⟩)
  rw [hh]
  simp only [GMb, GMc, HPa, HPc, HPd, HPe, HPz, Nat.reduceAdd, Nat.reduceLT, b2, b3, hlit, k1, k2, if_true]
  rw [key]
  unfold S0
  cases er2 <;> rfl
end Go.Gm
namespace Go.Gm
end Go.Gm
namespace Go.Gm
end Go.Gm
namespace Go.Gm
end Go.Gm
namespace Go.Gm
theorem qright_loose {L : List Nd} (h : E7 L = true) : AD L = true := by
 simp only [E7, Bool.or_eq_true, decide_eq_true_eq, Bool.and_eq_true] at h
 rcases h with h | h
 ·subst h; rfl
 ·exact h.1.1.1
end Go.Gm
namespace Go.Gm
end Go.Gm
namespace Go.Gm
end Go.Gm
namespace Go.Gm
end Go.Gm
namespace Go.Gm
end Go.Gm
namespace Go.Gm
theorem sb_lt10 {z : Int} {k m : Nat} (h : SB k z) (hk : 10 * k ≤ m) : z.natAbs < 10 ^ m := Nat.lt_of_lt_of_le h (pow10_le hk)
theorem sb_dec {z : Int} (h : SB 44 z) : z.natAbs < 10 ^ 4096 ∧ (FB z).length ≤ 5000 := by
 have h1 : z.natAbs < 10 ^ 4096 := sb_lt10 (m := 4096) h (by decide)
 refine ⟨h1, ?_⟩
 have := OP 4096 z.natAbs h1
 simp only [show ¬ ((4096 : Nat) = 0) by decide, if_false] at this
 unfold FB
 split
 ·simp; omega
 ·omega
end Go.Gm
namespace Go.Gm
end Go.Gm
namespace Go.Gm
end Go.Gm
namespace Go.Gm
end Go.Gm
namespace Go.Gm
end Go.Gm
namespace Go.Gm
theorem Pn {ι : Type} {G : ι → LK → LK} {σ : Type} (I : σ → List Ab → Aa → Prop) (μ : σ → Nat) (done : σ → Prop)
  (turn : ∀ (s : σ) (vs : List Ab) (H : Aa), I s vs H → ¬ done s → ∃ s' vs' H', μ s' < μ s ∧ I s' vs' H' ∧ ∀ (i : ι) (rec : LK), G i rec vs H = rec vs' H')
  {s : σ} {vs : List Ab} {H : Aa} (h0 : I s vs H) (hm : μ s < 1152921504606846976) : ∃ s' vs' H', done s' ∧ I s' vs' H' ∧ ∀ i, ∃ rec, Ao (G i) AC vs H = G i rec vs' H' := by
 have key : ∀ (n : Nat) (s : σ) (vs : List Ab) (H : Aa), μ s < n → I s vs H → ∃ s' vs' H', done s' ∧ I s' vs' H' ∧ ∀ i, ∃ rec, Ao (G i) n vs H = G i rec vs' H' := by
  intro n
  induction n with
  | zero => intro s vs H hn _; omega
  | succ n ih =>
   intro s vs H hn hI
   by_cases hd : done s
   ·exact ⟨s, vs, H, hd, hI, fun i => ⟨Ao (G i) n, El n vs H⟩⟩
   ·obtain ⟨s1, vs1, H1, h1, h2, h3⟩ := turn s vs H hI hd
    obtain ⟨s2, vs2, H2, h4, h5, h6⟩ := ih s1 vs1 H1 (by omega) h2
    exact ⟨s2, vs2, H2, h4, h5, fun i => (h6 i).imp fun rec h7 => by rw [El, h3, h7]⟩
 exact key AC s vs H (by rw [Dk]; exact hm) h0
theorem loop_while {G : LK → LK} {σ : Type} (I : σ → List Ab → Aa → Prop) (μ : σ → Nat) (done : σ → Prop)
  (turn : ∀ (s : σ) (vs : List Ab) (H : Aa), I s vs H → ¬ done s → ∃ s' vs' H', μ s' < μ s ∧ I s' vs' H' ∧ ∀ rec : LK, G rec vs H = rec vs' H')
  {s : σ} {vs : List Ab} {H : Aa} (h0 : I s vs H) (hm : μ s < 1152921504606846976) : ∃ s' vs' H', done s' ∧ I s' vs' H' ∧ ∃ rec, Ao G AC vs H = G rec vs' H' := by
 obtain ⟨s', vs', H', h1, h2, h3⟩ := Pn (G := fun (_ : Unit) => G) I μ done (fun s vs H hI hd => by
  obtain ⟨s1, vs1, H1, h1, h2, h3⟩ := turn s vs H hI hd
  exact ⟨s1, vs1, H1, h1, h2, fun _ => h3⟩) h0 hm
 exact ⟨s', vs', H', h1, h2, h3 ()⟩
theorem Kp.get {b p : Nat} {H H' : Aa} {cs : List Ab} (h : Kp b H H') (hp : H[p]? = some (.cel 0 cs)) : H'[p]? = some (.cel 0 cs) := h.cel p cs hp
end Go.Gm
namespace Go.Gm
end Go.Gm
namespace Go.Gm
end Go.Gm
namespace Go.Gm
end Go.Gm
namespace Go.Gm
theorem RS.app {α : Type} {f : α → List Ab} {ty : TypeId} {sz : Nat} [hf : Sz f sz] {bytes b : Nat} {out : List α} {v : Ab} {H : Aa} (h : RS f ty sz b out v H) (hb : b ≤ H.length) (m : List α) (tk : Tok) (hl : (out.length + m.length) * bytes ≤ 140737488355328) (hl2 : out.length + m.length ≤ 140737488355328) :
  ∃ v' H', AA ty sz bytes v (.sl (enL f m) tk) H = some (v', H') ∧ RS f ty sz b (out ++ m) v' H' ∧ Kp b H H' := by
 by_cases hm : m = []
 ·subst hm
  have hx : (BZ sz v H).isSome = true := by
   obtain ⟨tk', rfl⟩ := h.sl
   rw [elems_sl]; rfl
  refine ⟨v, H, Gu hx, by rw [List.append_nil]; exact h, Kp.refl _ _⟩
 ·rcases h with ⟨rfl, rfl⟩ | ⟨t, h1, rfl, h3⟩
  ·have := CD (f := f) (l := []) (m := m) (ty := ty) (bytes := bytes) (tk := tk) (H := H) hm (by simpa using hl) (by simpa using hl2)
   exact ⟨_, _, this, .inr ⟨H.length, hb, rfl, by simp⟩, Kp.app hb _⟩
  ·have := Eg (f := f) (l := out) (m := m) (ty := ty) (bytes := bytes) (tk := tk) (H := H) (t := t) hm h3 hl hl2
   have htl := (List.getElem?_eq_some_iff.1 h3).1
   refine ⟨_, _, this, .inr ⟨t, h1, rfl, by simp [htl]⟩, ⟨by simp, fun i cs hc => ?_, fun i hi => ?_⟩⟩
   ·have : t ≠ i := fun e => by rw [← e, h3] at hc; cases hc
    rw [List.getElem?_set_ne this]; exact hc
   ·rw [List.getElem?_set_ne (by omega)]
end Go.Gm
namespace Go.Gm
end Go.Gm
namespace Go.Gm
end Go.Gm
namespace Go.Gm
def ndL (v : Int) : Nd := ⟨v, 0, 0, 0, 0⟩
def Fx (o : Nd) (l : List Nd) : Nat → List Nd × Nd
 | 0 => (l, ndL (o.lv + 1))
 | k + 1 => if o.kid k = 0 then Fx o l k else ((Fx o l k).1 ++ [(ndL o.lv).setKid (3 - k) (o.kid k)], (Fx o l k).2.setKid k (((Fx o l k).1.length + 1 : Nat) : Int))
def C1 (l : List Nd) : List Nd := (Fx (A4 l l.length) l 4).1 ++ [(Fx (A4 l l.length) l 4).2]
def Gl (level : Int) : Nat → List Nd → List Nd
 | 0, l => l
 | d + 1, l => if (A4 l l.length).lv < level then Gl level d (C1 l) else l
def FF (L : List Nd) (level : Int) : List Nd := if level > 1329 ∨ L = [] then L else Gl level 1400 L
theorem ndL_kid (v : Int) {k : Nat} (hk : k < 4) : (ndL v).kid k = 0 := by
 match k, hk with
 | 0, _ => rfl
 | 1, _ => rfl
 | 2, _ => rfl
 | 3, _ => rfl
theorem ndOk_mk {L : List Nd} {x : Nd} (h1 : 1 ≤ x.lv) (h2 : x.lv ≤ 1329) (h : ∀ k, k < 4 → 0 ≤ x.kid k ∧ (x.lv = 1 → x.kid k ≤ 255) ∧ (1 < x.lv → 0 < x.kid k → x.kid k ≤ L.length ∧ ∀ y, L[(x.kid k - 1).toNat]? = some y → y.lv = x.lv - 1)) : DS (L ++ [x]) L.length = true := by
 have e : (L ++ [x])[L.length]? = some x := by simp
 unfold DS
 rw [e]
 simp only [Bool.and_eq_true, decide_eq_true_eq, List.all_eq_true, List.mem_range]
 refine ⟨⟨h1, h2⟩, fun k hk => ?_⟩
 obtain ⟨q1, q2, q3⟩ := h k hk
 simp only [Cm, Bool.and_eq_true, decide_eq_true_eq]
 refine ⟨⟨q1, q2⟩, fun a b => ⟨(q3 a b).1, fun y hy => (q3 a b).2 y ?_⟩⟩
 rw [List.getElem?_append_left (by have := (q3 a b).1; omega)] at hy
 exact hy
structure GrowI (o : Nd) (l : List Nd) (k : Nat) (r : List Nd × Nd) : Prop where
 pre : ∃ e, r.1 = l ++ e ∧ e.length ≤ k
 loose : AD r.1 = true
 lv : r.2.lv = o.lv + 1
 kids : ∀ j, j < 4 → r.2.kid j = 0 ∨ (0 < r.2.kid j ∧ r.2.kid j ≤ r.1.length ∧ ∀ y, r.1[(r.2.kid j - 1).toNat]? = some y → y.lv = o.lv)
theorem Ro {l : List Nd} (hl : AD l = true) (h0 : 0 < l.length) : ∀ k, k ≤ 4 → GrowI (A4 l l.length) l k (Fx (A4 l l.length) l k)
 | 0, _ => ⟨⟨[], by simp [Fx], by simp⟩, hl, rfl, fun j hj => .inl (ndL_kid _ hj)⟩
 | k + 1, hk => by
  have ih := Ro hl h0 k (by omega)
  have hnd : A4 l (l.length : Int) = l[l.length - 1] := Cf (by omega) (by omega)
  obtain ⟨l1, l2, l3⟩ := A8 hl (show l.length - 1 < l.length by omega)
  rw [← hnd] at l1 l2 l3
  unfold Fx
  generalize A4 l (l.length : Int) = o at *
  by_cases hc : o.kid k = 0
  ·rw [if_pos hc]
   obtain ⟨⟨e, e1, e2⟩, h2, h3, h4⟩ := ih
   exact ⟨⟨e, e1, by omega⟩, h2, h3, h4⟩
  ·rw [if_neg hc]
   obtain ⟨⟨e, e1, e2⟩, h2, h3, h4⟩ := ih
   generalize Fx o l k = r at *
   have hlen : r.1.length = l.length + e.length := by rw [e1]; simp
   have hlo : AD (r.1 ++ [(ndL o.lv).setKid (3 - k) (o.kid k)]) = true := by
    refine Ni h2 (ndOk_mk (by rw [C8]; exact l1) (by rw [C8]; exact l2) fun j hj => ?_)
    rw [C8]
    show 0 ≤ _ ∧ (o.lv = 1 → _) ∧ (1 < o.lv → _)
    by_cases hj2 : j = 3 - k
    ·rw [hj2, KE _ _ (by omega)]
     obtain ⟨q1, q2, q3⟩ := l3 k (by omega)
     refine ⟨q1, q2, fun a b => ?_⟩
     obtain ⟨q4, q5⟩ := q3 a b
     refine ⟨by omega, fun y hy => q5 y ?_⟩
     rw [e1, List.getElem?_append_left (by omega)] at hy
     exact hy
    ·rw [Ez _ _ (by omega) hj hj2, ndL_kid _ hj]
     exact ⟨Int.le_refl _, fun _ => by omega, fun _ b => absurd b (by omega)⟩
   refine ⟨⟨e ++ [(ndL o.lv).setKid (3 - k) (o.kid k)], by rw [e1, List.append_assoc], by simp; omega⟩, hlo, by rw [C8]; exact h3, fun j hj => ?_⟩
   by_cases hj2 : j = k
   ·subst hj2
    rw [KE _ _ hj]
    refine .inr ⟨by omega, by simp, fun y hy => ?_⟩
    have : (((r.1.length + 1 : Nat) : Int) - 1).toNat = r.1.length := by omega
    rw [this] at hy
    simp at hy
    rw [← hy, C8]; rfl
   ·rw [Ez _ _ (by omega) hj hj2]
    rcases h4 j hj with h5 | ⟨h5, h6, h7⟩
    ·exact .inl h5
    ·refine .inr ⟨h5, by simp; omega, fun y hy => h7 y ?_⟩
     rw [List.getElem?_append_left (by omega)] at hy
     exact hy
theorem Pq {l : List Nd} (hl : AD l = true) (h0 : 0 < l.length) (hv : (A4 l l.length).lv < 1329) : AD (C1 l) = true ∧ (∃ e, C1 l = l ++ e ∧ e.length ≤ 5) ∧ 0 < (C1 l).length ∧ (A4 (C1 l) (C1 l).length).lv = (A4 l l.length).lv + 1 := by
 have hI := Ro hl h0 4 (Nat.le_refl _)
 have hnd : A4 l (l.length : Int) = l[l.length - 1] := Cf (by omega) (by omega)
 obtain ⟨l1, l2, l3⟩ := A8 hl (show l.length - 1 < l.length by omega)
 rw [← hnd] at l1 l2 l3
 unfold C1
 generalize A4 l (l.length : Int) = o at *
 obtain ⟨⟨e, e1, e2⟩, h2, h3, h4⟩ := hI
 generalize Fx o l 4 = r at *
 refine ⟨Ni h2 (ndOk_mk (by rw [h3]; omega) (by rw [h3]; omega) fun j hj => ?_), ⟨e ++ [r.2], by rw [e1, List.append_assoc], by simp; omega⟩, by simp, ?_⟩
 ·rw [h3]
  rcases h4 j hj with h5 | ⟨h5, h6, h7⟩
  ·rw [h5]; exact ⟨Int.le_refl _, fun _ => by omega, fun _ b => absurd b (by omega)⟩
  ·exact ⟨by omega, fun a => by omega, fun _ _ => ⟨h6, fun y hy => by rw [h7 y hy]; omega⟩⟩
 ·have : A4 (r.1 ++ [r.2]) ((r.1 ++ [r.2]).length : Int) = r.2 := by
   rw [Cf (n := r.1.length) (by simp) (by simp)]; simp
  rw [this, h3]
theorem Tg (v : Int) : Ay (some [(.int .i64 0), (.int .i64 0), (.int .i64 0), (.int .i64 0), (.int .i64 0)]) [(0, 1, .int .i64 v)] = some (.agg (cNd (ndL v))) := by
 simp [Ay, GJ, DR, ndL, cNd]
theorem grow_turn {l : List Nd} {o : Nd} {H Hd : Aa} {vo : Ab} {k p : Nat} {lev : Ab} {r : List Nd × Nd} (hk : k < 4) (hL : l.length < 549755813888) (h0 : 0 < l.length) (ho : l[l.length - 1] = o) (hpre : ∃ e, r.1 = l ++ e ∧ e.length ≤ k)
  (hp : H.length ≤ p) (fp : Hd[p]? = some (.cel 0 (cNd r.2))) (hR : RS cNd At 5 H.length r.1 vo Hd) (hlen : H.length ≤ Hd.length) :
  ∃ v' H', RS cNd At 5 H.length (if o.kid k = 0 then r else (r.1 ++ [(ndL o.lv).setKid (3 - k) (o.kid k)], r.2.setKid k ((r.1.length + 1 : Nat) : Int))).1 v' H' ∧
   H'[p]? = some (.cel 0 (cNd (if o.kid k = 0 then r else (r.1 ++ [(ndL o.lv).setKid (3 - k) (o.kid k)], r.2.setKid k ((r.1.length + 1 : Nat) : Int))).2)) ∧ (∀ i, i < H.length → H'[i]? = Hd[i]?) ∧ H.length ≤ H'.length ∧
   ∀ rec1 rec2 : LK, Sh.f2n H rec1 rec2 lev vo (.int .i64 (l.length : Int)) (.ptr p 0 0) (.int .i64 (k : Int)) Hd = rec2 [lev, v', .int .i64 (l.length : Int), .ptr p 0 0, .int .i64 ((k + 1 : Nat) : Int)] H' := by
 obtain ⟨e, e1, e2⟩ := hpre
 have hk' : (k : Int) < 4 := by omega
 have hwk := Ar (show k < 9223372036854775807 by omega)
 have hwn := C7 h0 (show l.length < 9223372036854775807 by omega)
 have hrl : r.1.length = l.length + e.length := by rw [e1]; simp
 have hni : l.length - 1 < r.1.length := by omega
 have hro : r.1[l.length - 1] = o := by
  have : r.1[l.length - 1]? = some o := by rw [e1, List.getElem?_append_left (by omega), List.getElem?_eq_getElem (by omega), ho]
  rw [List.getElem?_eq_getElem hni] at this
  exact Option.some.inj this
 obtain ⟨tk, rfl⟩ := hR.sl
 by_cases hc : o.kid k = 0
 ·rw [if_pos hc]
  refine ⟨_, Hd, hR, fp, fun i hi => rfl, hlen, fun rec1 rec2 => ?_⟩
  unfold Sh.f2n
  simp only [GMb, GMc, hk', hwn, A2 hni, hro, Am, CY hk, Aw, Nat.zero_add, Nat.mul_one, CI hk, hc, Al, Sh.f5h, hwk]
 ·rw [if_neg hc]
  have hR' := hR.left [Blk.cel 0 (cNd ((ndL o.lv).setKid (3 - k) (o.kid k)))]
  obtain ⟨v', H', a1, a2, a3⟩ := hR'.snoc (bytes := 40) (by simp; omega) ((ndL o.lv).setKid (3 - k) (o.kid k)) .tight (by omega) (by omega)
  obtain ⟨tk', rfl⟩ := a2.sl
  have fp2 := a3.cel p _ (B3 fp)
  have hpl := (List.getElem?_eq_some_iff.1 fp2).1
  have hlen2 : H.length ≤ H'.length := by have := a3.len; simp at this; omega
  refine ⟨_, H'.set p (.cel 0 (cNd (r.2.setKid k ((r.1.length + 1 : Nat) : Int)))), a2.put fp2, by rw [List.getElem?_set_self hpl], fun i hi => ?_, by simpa using hlen2, fun rec1 rec2 => ?_⟩
  ·rw [List.getElem?_set_ne (by omega), a3.old i hi, List.getElem?_append_left (by omega)]
  ·have s1 : Af 5 (.ptr Hd.length 0 0) (.agg (cNd (ndL o.lv))) (Hd ++ [.cel 0 (cNd nd0)]) = some (Hd ++ [.cel 0 (cNd (ndL o.lv))]) := by rw [Ej AG rfl, Cd]
   have s2 : Af 1 (.ptr Hd.length 0 (1 + (3 - k))) (.int .i64 (o.kid k)) (Hd ++ [.cel 0 (cNd (ndL o.lv))]) = some (Hd ++ [.cel 0 (cNd ((ndL o.lv).setKid (3 - k) (o.kid k)))]) := by rw [Cg AG (by omega), Cd]
   have s3 : Ad true 5 (.ptr Hd.length 0 0) (Hd ++ [.cel 0 (cNd ((ndL o.lv).setKid (3 - k) (o.kid k)))]) = some (.agg (cNd ((ndL o.lv).setKid (3 - k) (o.kid k)))) := D3 AG
   have s4 := Cg (c := ((r.1.length + 1 : Nat) : Int)) fp2 hk
   have hw3 : IntKind.i64.wrap (3 - (k : Int)) = ((3 - k : Nat) : Int) := by rw [A1] <;> omega
   have hi3 : ∀ (id g o : Nat), AY 4 1 (.ptr id g o) (.int .i64 ((3 - k : Nat) : Int)) = some (.ptr id g (o + (3 - k))) := fun id g o => C0 (show 3 - k < 4 by omega)
   unfold Sh.f2n
   simp only [GMb, GMc, hk', hwn, A2 hni, hro, Am, Ai, CY hk, Aw, Nat.zero_add, Nat.mul_one, CI hk, Ba, hc, Tg, F7, s1, hw3, hi3, s2, s3, EN, a1, A5, List.length_append, List.length_singleton, C0 hk, s4, Al, Sh.f5h, hwk]
theorem q06_grow (L : List Nd) (level : Int) (H : Aa) (hL : L.length < 274877906944) (hl : AD L = true) (h0 : -9223372036854775808 ≤ level) (h1 : level ≤ 9223372036854775807) :
  Sh.f2o (My L) (.int .i64 level) H = some (.ret (.tup [.sl (enL cNd (FF L level)) .no, .int .i64 ((FF L level).length : Int)]), H) := by
 unfold Sh.f2o FF
 have e3 : (H ++ [Blk.cel 0 (Di L)])[H.length]? = some (.cel 0 (Di L)) := AG
 have hb0 : A9 5 [] = some (.sl [] .tight) := rfl
 have hR0 : RS cNd At 5 H.length [] (.sl [] .tight) (H ++ [Blk.cel 0 (Di L)]) := .inl ⟨rfl, rfl⟩
 obtain ⟨v, Hc, a1, a2, a3⟩ := hR0.app (bytes := 40) (by simp) L .no (by simp; omega) (by simp; omega)
 rw [List.nil_append] at a2
 have hold : ∀ i, i < H.length → Hc[i]? = H[i]? := fun i hi => by rw [a3.old i hi, List.getElem?_append_left hi]
 have hlc : H.length ≤ Hc.length := by have := a3.len; simp at this; omega
 obtain ⟨tk, rfl⟩ := a2.sl
 simp only [GMb, GMc, boxQ, hb0, Ai, Nat.zero_add, Em e3, a1, A5]
 by_cases hbig : level > 1329
 ·rw [if_pos (.inl hbig)]
  simp only [hbig, GMb, GMc, E5 (BR hold)]
  simp
 ·by_cases hn : L = []
  ·rw [if_pos (.inr hn)]
   have : (L.length : Int) = 0 := by rw [hn]; rfl
   simp only [hbig, this, GMb, GMc, E5 (BR hold)]
   simp
  ·rw [if_neg (by intro h; rcases h with h | h; exact hbig h; exact hn h)]
   have hlen : 0 < L.length := List.length_pos_iff.2 hn
   have hne : ¬ (L.length : Int) = 0 := by omega
   simp only [hbig, hne, GMb, GMc]
   have loop := loop_while (G := fun rec1 vs H1 => Sh.f4i H rec1 (ag vs 0) (ag vs 1) (ag vs 2) H1) (σ := List Nd × Nat)
    (fun s vs Hd => ∃ v, vs = [.int .i64 level, v, .int .i64 (s.1.length : Int)] ∧ RS cNd At 5 H.length s.1 v Hd ∧ (∀ i, i < H.length → Hd[i]? = H[i]?) ∧ H.length ≤ Hd.length ∧ AD s.1 = true ∧ 0 < s.1.length ∧ Gl level s.2 s.1 = Gl level 1400 L ∧ level ≤ (A4 s.1 s.1.length).lv + s.2 ∧ s.1.length + 5 * s.2 ≤ L.length + 7000)
    (fun s => s.2) (fun s => ¬ (A4 s.1 s.1.length).lv < level) (fun s vs Hd hI hd => ?_) (s := (L, 1400)) (vs := [.int .i64 level, .sl (enL cNd L) tk, .int .i64 (L.length : Int)]) (H := Hc)
    ⟨_, rfl, a2, hold, hlc, hl, hlen, rfl, by
     have hnd : A4 L (L.length : Int) = L[L.length - 1] := Cf (by omega) (by omega)
     have := (A8 hl (show L.length - 1 < L.length by omega)).1
     show level ≤ (A4 L (L.length : Int)).lv + (1400 : Nat)
     rw [hnd]; omega, by simp⟩ (by simp)
   ·obtain ⟨s, vs', Hd, hdone, ⟨v, rfl, gR, go, gl, glo, g0, ge, gv, gn⟩, rec, hloop⟩ := loop
    rw [hloop]
    obtain ⟨l, d⟩ := s
    dsimp only at *
    obtain ⟨tk2, rfl⟩ := gR.sl
    have hge : Gl level d l = l := by
     cases d with
     | zero => rfl
     | succ d => show (if _ then _ else _) = _; rw [if_neg hdone]
    rw [← ge, hge]
    have hnd : A4 l (l.length : Int) = l[l.length - 1] := Cf (by omega) (by omega)
    have hwn := C7 g0 (show l.length < 9223372036854775807 by omega)
    rw [hnd] at hdone
    unfold Sh.f4i
    simp only [GMb, GMc, hwn, A2 (show l.length - 1 < l.length by omega), Am, Aw, Nat.zero_add, Ba, hdone, E5 (BR go)]
    simp
   ·obtain ⟨v, rfl, gR, go, gl, glo, g0, ge, gv, gn⟩ := hI
    obtain ⟨l, d⟩ := s
    dsimp only at *
    rw [Decidable.not_not] at hd
    have hnd : A4 l (l.length : Int) = l[l.length - 1] := Cf (by omega) (by omega)
    obtain ⟨d', rfl⟩ : ∃ d', d = d' + 1 := ⟨d - 1, by omega⟩
    obtain ⟨k1, ⟨e, k2, k3⟩, k4, k5⟩ := Pq glo g0 (by omega)
    have hgf : Gl level (d' + 1) l = Gl level d' (C1 l) := by show (if _ then _ else _) = _; rw [if_pos hd]
    have hwn := C7 g0 (show l.length < 9223372036854775807 by omega)
    have l12 := (A8 glo (show l.length - 1 < l.length by omega))
    have hwl : IntKind.i64.wrap (l[l.length - 1].lv + 1) = l[l.length - 1].lv + 1 := by rw [A1] <;> omega
    obtain ⟨tk1, rfl⟩ := gR.sl
    have s1 : Af 5 (.ptr Hd.length 0 0) (.agg (cNd (ndL (l[l.length - 1].lv + 1)))) (Hd ++ [.cel 0 (cNd nd0)]) = some (Hd ++ [.cel 0 (cNd (ndL (l[l.length - 1].lv + 1)))]) := by rw [Ej AG rfl, Cd]
    have hi2 : l[l.length - 1].lv < level := by rw [← hnd]; exact hd
    have inner := Pn (ι := LK) (G := fun rec1 rec2 vs H1 => Sh.f2n H rec1 rec2 (ag vs 0) (ag vs 1) (ag vs 2) (ag vs 3) (ag vs 4) H1) (σ := Nat)
     (fun k vs H1 => ∃ v, k ≤ 4 ∧ vs = [.int .i64 level, v, .int .i64 (l.length : Int), .ptr Hd.length 0 0, .int .i64 (k : Int)] ∧ RS cNd At 5 H.length (Fx l[l.length - 1] l k).1 v H1 ∧ H1[Hd.length]? = some (.cel 0 (cNd (Fx l[l.length - 1] l k).2)) ∧ (∀ i, i < H.length → H1[i]? = H[i]?) ∧ H.length ≤ H1.length)
     (fun k => 4 - k) (fun k => k = 4) (fun k vs H1 hI hdk => ?_) (s := 0) (vs := [.int .i64 level, .sl (enL cNd l) tk1, .int .i64 (l.length : Int), .ptr Hd.length 0 0, .int .i64 0]) (H := Hd ++ [.cel 0 (cNd (ndL (l[l.length - 1].lv + 1)))])
     ⟨_, by omega, rfl, gR.left _, AG, fun i hi => by rw [List.getElem?_append_left (by omega)]; exact go i hi, by simp; omega⟩ (by omega)
    ·obtain ⟨k, vs', H1, rfl, ⟨v, _, rfl, fR, fp, fo, fl⟩, hrec⟩ := inner
     have hgS : C1 l = (Fx l[l.length - 1] l 4).1 ++ [(Fx l[l.length - 1] l 4).2] := by unfold C1; rw [hnd]
     have hl4 : (Fx l[l.length - 1] l 4).1.length ≤ l.length + 5 := by
      have := congrArg List.length (hgS.symm.trans k2)
      simp at this; omega
     obtain ⟨v2, H2, b1, b2, b3⟩ := fR.snoc (bytes := 40) fl (Fx l[l.length - 1] l 4).2 .tight (by omega) (by omega)
     rw [← hgS] at b2
     obtain ⟨tk2, rfl⟩ := b2.sl
     refine ⟨(C1 l, d'), [.int .i64 level, .sl (enL cNd (C1 l)) tk2, .int .i64 ((C1 l).length : Int)], H2, by simp, ⟨_, rfl, b2, fun i hi => by rw [b3.old i hi]; exact fo i hi, by have := b3.len; omega, k1, k4, by rw [← hgf]; exact ge, by show level ≤ _ + (d' : Int); rw [k5]; omega, ?_⟩, fun rec => ?_⟩
     ·have := congrArg List.length k2
      simp at this ⊢; omega
     ·obtain ⟨rec2, h9⟩ := hrec rec
      unfold Sh.f4i
      simp only [GMb, GMc, hwn, A2 (show l.length - 1 < l.length by omega), Am, Aw, Nat.zero_add, Ba, hi2, hwl, Tg, F7, s1]
      refine h9.trans ?_
      have hf : ¬ (((4 : Nat) : Int) < 4) := by decide
      unfold Sh.f2n
      simp only [GMb, GMc, Al, hf, D3 fp, EN, b1, A5]
    ·obtain ⟨v, hk4, rfl, fR, fp, fo, fl⟩ := hI
     have hk : k < 4 := by omega
     have hpre := (Ro glo g0 k hk4).pre
     rw [hnd] at hpre
     obtain ⟨v', H', c1, c2, c3, c4, c5⟩ := grow_turn (lev := .int .i64 level) hk (by omega) g0 rfl hpre gl fp fR fl
     refine ⟨k + 1, _, H', by omega, ⟨v', by omega, rfl, c1, c2, fun i hi => by rw [c3 i hi]; exact fo i hi, c4⟩, fun rec1 rec2 => c5 rec1 rec2⟩
end Go.Gm
namespace Go.Gm
def onF (L : List Nd) : Nat → Int → Nat → Nat → Bool
 | 0, _, _, _ => false
 | v + 1, n, x, y => if n = 0 then false else if v = 0 then decide (0 < (A4 L n).kid (2 * (y / 2 ^ v) + x / 2 ^ v)) else onF L v ((A4 L n).kid (2 * (y / 2 ^ v) + x / 2 ^ v)) (x % 2 ^ v) (y % 2 ^ v)
theorem div_lt2 {x u : Nat} (h : x < 2 ^ (u + 1)) : x / 2 ^ u < 2 := by
 rw [Nat.div_lt_iff_lt_mul (Nat.pow_pos (by omega))]
 rw [Nat.pow_succ] at h; omega
theorem q14_on {L : List Nd} {tk : Tok} (hL : L.length < 549755813888) (hl : AD L = true) : ∀ (v n x y d : Nat) (H : Aa), Lv L v n → v ≤ d → v ≤ 60 → x < 2 ^ v → y < 2 ^ v →
  Sh.fd (d + 1) (.sl (enL cNd L) tk) (.int .i64 (n : Int)) (.int .i64 (x : Int)) (.int .i64 (y : Int)) H = some (.ret (.bool (onF L v n x y)), H) := by
 intro v
 induction v with
 | zero =>
  intro n x y d H hLv _ _ _ _
  have hn : n = 0 := by
   rcases Nat.eq_zero_or_pos n with h | h
   ·exact h
   ·have := (hLv.num h hl).2; omega
  subst hn
  show Sh.f3g (Sh.fd d) _ _ _ _ H = _
  unfold Sh.f3g
  simp only [GMb, GMc, Int.natCast_zero, onF]
 | succ u ih =>
  intro n x y d H hLv hd hv hx hy
  show Sh.f3g (Sh.fd d) _ _ _ _ H = _
  unfold Sh.f3g
  by_cases hn : n = 0
  ·subst hn
   simp only [GMb, GMc, Int.natCast_zero, onF, if_true]
  ·have hn0 : 0 < n := by omega
   have hn' : ¬ (n : Int) = 0 := by omega
   have hnL := hLv.1
   have hni : n - 1 < L.length := by omega
   have hnd : A4 L (n : Int) = L[n - 1] := Cf (by omega) hni
   obtain ⟨hlv, _⟩ := hLv.num hn0 hl
   have hwn := C7 hn0 (show n < 9223372036854775807 by omega)
   have hlv2 : L[n - 1].lv = ((u + 1 : Nat) : Int) := by rw [← hnd]; exact hlv
   obtain ⟨q, hq⟩ : ∃ q, q = 2 * (y / 2 ^ u) + x / 2 ^ u := ⟨_, rfl⟩
   have hqx := div_lt2 hx
   have hqy := div_lt2 hy
   have hq4 : q < 4 := by omega
   obtain ⟨d', rfl⟩ : ∃ d', d = d' + 1 := ⟨d - 1, by omega⟩
   have hon : onF L (u + 1) n x y = if u = 0 then decide (0 < L[n - 1].kid q) else onF L u (L[n - 1].kid q) (x % 2 ^ u) (y % 2 ^ u) := by
    show (if (n : Int) = 0 then _ else _) = _
    rw [if_neg hn', hnd, ← hq]
   rw [hon]
   simp only [hn', GMb, GMc]
   refine Ct (G := fun rec1 vs H1 => Sh.f4j H (Sh.fd (d' + 1)) rec1 (ag vs 0) (ag vs 1) (ag vs 2) (ag vs 3) (ag vs 4) (ag vs 5) H1) u
    (fun i => [.sl (enL cNd L) tk, .int .i64 (n : Int), .int .i64 (x : Int), .int .i64 (y : Int), .int .i64 ((2 ^ i : Nat) : Int), .int .i64 ((i + 1 : Nat) : Int)]) (fun _ => H) _ (by omega) (fun rec i hi => ?_) (fun rec => ?_)
   ·have hi' : ((i + 1 : Nat) : Int) < ((u + 1 : Nat) : Int) := by omega
    have hpw : 2 ^ i ≤ 2 ^ 60 := Nat.pow_le_pow_right (by omega) (by omega)
    have hw1 : IntKind.i64.wrap (((2 ^ i : Nat) : Int) * 2) = ((2 ^ (i + 1) : Nat) : Int) := by
     rw [Nat.pow_succ]
     generalize 2 ^ i = p at *
     rw [A1] <;> omega
    have hw2 := Ar (show i + 1 < 9223372036854775807 by omega)
    unfold Sh.f4j
    simp only [GMb, GMc, Al, hwn, A2 hni, Am, Aw, Nat.zero_add, Ba, hlv2, hi', hw1, hw2]
   ·have hp0 : ((2 ^ u : Nat) : Int) ≠ 0 := by have : 0 < 2 ^ u := Nat.pow_pos (by omega); omega
    have hd1 : ∀ a : Nat, ((a : Int).tdiv ((2 ^ u : Nat) : Int)) = ((a / 2 ^ u : Nat) : Int) := fun a => rfl
    have hd2 : ∀ a : Nat, ((a : Int).tmod ((2 ^ u : Nat) : Int)) = ((a % 2 ^ u : Nat) : Int) := fun a => rfl
    have hwy : IntKind.i64.wrap ((y / 2 ^ u : Nat) : Int) = ((y / 2 ^ u : Nat) : Int) := Cj (by omega)
    have hwx : IntKind.i64.wrap ((x / 2 ^ u : Nat) : Int) = ((x / 2 ^ u : Nat) : Int) := Cj (by omega)
    have hwm : IntKind.i64.wrap (2 * ((y / 2 ^ u : Nat) : Int)) = 2 * ((y / 2 ^ u : Nat) : Int) := by rw [A1] <;> omega
    have hwq : IntKind.i64.wrap (2 * ((y / 2 ^ u : Nat) : Int) + ((x / 2 ^ u : Nat) : Int)) = (q : Int) := by rw [A1] <;> omega
    obtain ⟨l1, l2, l3⟩ := A8 hl hni
    obtain ⟨q1, q2, q3⟩ := l3 q hq4
    unfold Sh.f4j
    simp only [GMb, GMc, Al, hwn, A2 hni, Am, Aw, Nat.zero_add, Ba, hlv2, Int.lt_irrefl, GM hp0, FT hp0, hd1, hd2, hwy, hwx, hwm, hwq, CY hq4, Nat.mul_one, CI hq4]
    by_cases hu : u = 0
    ·have : ((u + 1 : Nat) : Int) = 1 := by omega
     rw [if_pos hu]
     simp only [this, GMb, GMc, gt_iff_lt]
    ·have : ¬ ((u + 1 : Nat) : Int) = 1 := by omega
     rw [if_neg hu]
     have h1 : 1 < (A4 L n).lv := by rw [hlv]; omega
     obtain ⟨e1, e2, e3⟩ := hLv.kid hl hn0 h1 hq4
     rw [hnd] at e1 e3
     obtain ⟨m, hm⟩ := Int.eq_ofNat_of_zero_le e3
     rw [hm] at e1 ⊢
     rw [Int.toNat_natCast] at e1
     have hrec := fun H => ih m (x % 2 ^ u) (y % 2 ^ u) d' H e1 (by omega) (by omega) (Nat.mod_lt _ (Nat.pow_pos (by omega))) (Nat.mod_lt _ (Nat.pow_pos (by omega)))
     simp only [this, GMb, GMc, hrec]
def Fq (on : Nat → Nat → Bool) (y : Nat) (k : Nat) : List UInt8 := (List.range k).map fun x => if on x y then 42 else 46
def CM (on : Nat → Nat → Bool) (y : Nat) : Nat → Nat
 | 0 => 0
 | k + 1 => if on k y then k + 1 else CM on y k
def CB (on : Nat → Nat → Bool) : Nat → List UInt8 × Nat
 | 0 => ([], 0)
 | y + 1 => ((CB on y).1 ++ (Fq on y 8).take (CM on y 8) ++ [36], if 0 < CM on y 8 then ((CB on y).1 ++ (Fq on y 8).take (CM on y 8) ++ [36]).length else (CB on y).2)
def Pp (L : List Nd) (n : Nat) : List UInt8 := (CB (onF L 3 n) 8).1.take (CB (onF L 3 n) 8).2
theorem L1 (on : Nat → Nat → Bool) (y k : Nat) : (Fq on y k).length = k := by simp [Fq]
theorem leafRow_succ (on : Nat → Nat → Bool) (y k : Nat) : Fq on y (k + 1) = Fq on y k ++ [if on k y then 42 else 46] := by simp [Fq, List.range_succ]
theorem RW (on : Nat → Nat → Bool) (y k : Nat) : CM on y (k + 1) = if on k y then k + 1 else CM on y k := rfl
theorem L0 (on : Nat → Nat → Bool) (y : Nat) : ∀ k, CM on y k ≤ k
 | 0 => Nat.le_refl _
 | k + 1 => by
  have := L0 on y k
  unfold CM
  split <;> omega
theorem GB (on : Nat → Nat → Bool) : ∀ y, (CB on y).1.length ≤ y * 9 ∧ (CB on y).2 ≤ (CB on y).1.length
 | 0 => ⟨by simp [CB], by simp [CB]⟩
 | y + 1 => by
  have ih := GB on y
  have h1 := L0 on y 8
  have h2 := L1 on y 8
  simp only [CB, List.length_append, List.length_singleton, List.length_take]
  refine ⟨by omega, ?_⟩
  split <;> omega
theorem SG (L : List Nd) (n : Nat) : (Pp L n).length ≤ 72 := by
 have := GB (onF L 3 n) 8
 unfold Pp
 rw [List.length_take]; omega
theorem q14_leaf {L : List Nd} (tk : Tok) (n : Nat) (H : Aa) (hL : L.length < 549755813888) (hl : AD L = true) (hn : Lv L 3 n) :
  Sh.f1n (.sl (enL cNd L) tk) (.int .i64 (n : Int)) H = some (.ret (.str (Pp L n)), H) := by
 unfold Sh.f1n Pp
 obtain ⟨F, hF⟩ := fuel_succ 100 (by omega)
 have hon : ∀ (x y : Nat) (H : Aa), x < 8 → y < 8 → Sh.fd AC (.sl (enL cNd L) tk) (.int .i64 (n : Int)) (.int .i64 (x : Int)) (.int .i64 (y : Int)) H = some (.ret (.bool (onF L 3 n x y)), H) := by
  intro x y H hx hy
  rw [hF, show F + 100 = (F + 99) + 1 from rfl]
  exact q14_on hL hl 3 n x y (F + 99) H hn (by omega) (by omega) hx hy
 generalize onF L 3 n = on at *
 refine Ct (G := fun rec1 vs H1 => Sh.f4m H rec1 (ag vs 0) (ag vs 1) (ag vs 2) (ag vs 3) (ag vs 4) H1) 8
  (fun y => [.sl (enL cNd L) tk, .int .i64 (n : Int), .str (CB on y).1, .int .i64 ((CB on y).2 : Int), .int .i64 (y : Int)]) (fun _ => H) _ (by decide) (fun rec y hy => ?_) (fun rec => ?_)
 ·have hy' : (y : Int) < 8 := by omega
  have hwy := Ar (show y < 9223372036854775807 by omega)
  have hacc := GB on y
  have hul := L0 on y 8
  have hrl := L1 on y 8
  unfold Sh.f4m
  simp only [AF, Al, Df, Du, Gv, GV, Bw, Bd, hy', decide_true, AU, AJ]
  refine Ct (G := fun rec3 vs H1 => Sh.f4l H (fun vs H => Sh.f4k H rec (ag vs 0) (ag vs 1) (ag vs 2) (ag vs 3) (ag vs 4) H) rec3 (ag vs 0) (ag vs 1) (ag vs 2) (ag vs 3) (ag vs 4) (ag vs 5) (ag vs 6) (ag vs 7) H1) 8
   (fun x => [.sl (enL cNd L) tk, .int .i64 (n : Int), .str (CB on y).1, .int .i64 ((CB on y).2 : Int), .int .i64 (y : Int), .str (Fq on y x), .int .i64 (CM on y x : Int), .int .i64 (x : Int)]) (fun _ => H) _ (by decide) (fun rec3 x hx => ?_) (fun rec3 => ?_)
  ·have hx' : (x : Int) < 8 := by omega
   have hwx := Ar (show x < 9223372036854775807 by omega)
   have hrx := L1 on y x
   have hon1 := fun H => hon x y H hx hy
   rw [leafRow_succ, RW]
   unfold Sh.f4l
   cases ho : on x y with
   | true =>
    rw [ho] at hon1
    simp only [GMb, GMc, Al, hx', hon1, if_true]
    rw [BJ (by rw [hrx]; simp; omega)]
    simp only [GMb, GMc, Cu, List.length_append, List.length_singleton, hrx, Al, Sh.f5i, hwx]
   | false =>
    rw [ho] at hon1
    simp only [GMb, GMc, Al, hx', hon1]
    rw [BJ (by rw [hrx]; simp; omega)]
    simp only [GMb, GMc, Al, Sh.f5i, hwx]
  ·have hf : ¬ (((8 : Nat) : Int) < 8) := by decide
   have htk : (Fq on y 8).length = 8 := hrl
   unfold Sh.f4l
   simp only [AF, Al, Df, Du, Gv, GV, MG, Bw, Bd, hf, decide_false, AL, HZ (show CM on y 8 ≤ (Fq on y 8).length by omega)]
   rw [BJ (by simp; omega)]
   simp only [Bw]
   rw [BJ (by simp; omega)]
   simp only [Bw, De]
   by_cases h0 : 0 < CM on y 8
   ·have h0' : (CM on y 8 : Int) > 0 := by omega
    simp only [h0', GMb, GMc, Cu, Al, Sh.f4k, hwy, CB, h0]
   ·have h0' : ¬ (CM on y 8 : Int) > 0 := by omega
    simp only [h0', GMb, GMc, Cu, Al, Sh.f4k, hwy, CB, h0]
 ·have hf : ¬ (((8 : Nat) : Int) < 8) := by decide
  have hacc := GB on 8
  unfold Sh.f4m
  simp only [GMb, GMc, Al, hf, HZ hacc.2]
theorem i64_sb {n : Int} (h0 : -9223372036854775808 ≤ n) (h1 : n ≤ 9223372036854775807) : SB 44 n := by
 unfold SB
 have : (4294967296 : Nat) ^ 2 ≤ 4294967296 ^ 44 := pow_le32 (by omega)
 have h2 : n.natAbs < 18446744073709551616 := by omega
 rw [show (4294967296 : Nat) ^ 2 = 18446744073709551616 from rfl] at this
 omega
theorem q14_number (n : Int) (H : Aa) (h0 : -9223372036854775808 ≤ n) (h1 : n ≤ 9223372036854775807) : Sh.f18 (.int .i64 n) H = some (.ret (.str (FB n)), H) := by
 unfold Sh.f18
 have hof := fun H => q02_of n H h0 h1
 have htx := fun H => q03_text n H (sb_dec (i64_sb h0 h1)).1
 simp only [GMb, GMc, hof, htx]
end Go.Gm
namespace Go.Gm
def Lu (at' : List Nat) (x : Nd) : Nat → List UInt8
 | 0 => FB x.lv
 | k + 1 => Lu at' x k ++ [32] ++ FB (if 1 < x.lv then ((at'.getD (x.kid k).toNat 0 : Nat) : Int) else x.kid k)
def Fw (L : List Nd) (two : Bool) (at' : List Nat) (i : Nat) (x : Nd) : List UInt8 := if two && decide (x.lv = 3) then Pp L (i + 1) else Lu at' x 4
def Cc (L : List Nd) (two : Bool) : Nat → List (List UInt8) × List Nat
 | 0 => ([], [0])
 | i + 1 =>
  let r := Cc L two i
  let x := L.getD i nd0
  if two && decide (x.lv < 3) then (r.1, r.2 ++ [0]) else (r.1 ++ [Fw L two r.2 i x], r.2 ++ [r.1.length + 1])
def twoQ (L : List Nd) : Bool := decide (Ls L ≤ 1)
def Fd (L : List Nd) : List (List UInt8) :=
 if twoQ L && decide (L ≠ []) && decide (Ey L < 3) then [Pp (FF L 3) (FF L 3).length] else (Cc L (twoQ L) L.length).1
theorem Iu (L : List Nd) (two : Bool) : ∀ i, (Cc L two i).2.length = i + 1 ∧ (Cc L two i).1.length ≤ i ∧ ∀ a ∈ (Cc L two i).2, a ≤ i
 | 0 => by simp [Cc]
 | i + 1 => by
  obtain ⟨h1, h2, h3⟩ := Iu L two i
  simp only [Cc]
  split
  ·refine ⟨by simp; omega, by simp only; omega, fun a ha => ?_⟩
   rcases List.mem_append.1 ha with h | h
   ·have := h3 a h; omega
   ·rw [List.mem_singleton] at h; omega
  ·refine ⟨by simp; omega, by simp; omega, fun a ha => ?_⟩
   rcases List.mem_append.1 ha with h | h
   ·have := h3 a h; omega
   ·rw [List.mem_singleton] at h; omega
theorem Ox {L : List Nd} {at' : List Nat} {x : Nd} (h1 : 1 ≤ x.lv) (h2 : x.lv ≤ 1329) (hk : ∀ k, k < 4 → 0 ≤ x.kid k ∧ (x.lv = 1 → x.kid k ≤ 255)) (ha : ∀ a ∈ at', a ≤ 549755813888) : ∀ k, k ≤ 4 → (Lu at' x k).length ≤ 5000 + k * 5001
 | 0, _ => by have := (sb_dec (i64_sb (n := x.lv) (by omega) (by omega))).2; simp [Lu]; omega
 | k + 1, hk4 => by
  have ih := Ox (L := L) h1 h2 hk ha k (by omega)
  have hv : ∀ n : Int, 0 ≤ n → n ≤ 549755813888 → (FB n).length ≤ 5000 := fun n a b => (sb_dec (i64_sb (n := n) (by omega) (by omega))).2
  have hd : (FB (if 1 < x.lv then ((at'.getD (x.kid k).toNat 0 : Nat) : Int) else x.kid k)).length ≤ 5000 := by
   obtain ⟨q1, q2⟩ := hk k (by omega)
   split
   ·refine hv _ (by omega) ?_
    rw [List.getD_eq_getElem?_getD]
    cases hq : at'[(x.kid k).toNat]? with
    | none => simp
    | some a => have := ha a (List.mem_of_getElem? hq); simp; omega
   ·exact hv _ q1 (by have := q2 (by omega); omega)
  simp only [Lu, List.length_append, List.length_singleton]
  omega
theorem line_ok {L : List Nd} (hL : L.length < 274877906944) (hl : AD L = true) (two : Bool) {i : Nat} (hi : i < L.length) : (Fw L two (Cc L two i).2 i L[i]).length ≤ 30000 := by
 obtain ⟨l1, l2, l3⟩ := A8 hl hi
 obtain ⟨h1, h2, h3⟩ := Iu L two i
 unfold Fw
 split
 ·have := SG L (i + 1); omega
 ·have := Ox (L := L) (at' := (Cc L two i).2) l1 l2 (fun k hk => ⟨(l3 k hk).1, (l3 k hk).2.1⟩) (fun a ha => by have := h3 a ha; omega) 4 (Nat.le_refl _)
  omega
theorem Po {L : List Nd} (hL : L.length < 274877906944) (hl : AD L = true) (two : Bool) : ∀ i, i ≤ L.length → ∀ s ∈ (Cc L two i).1, s.length ≤ 30000
 | 0, _, s, hs => by cases hs
 | i + 1, hi, s, hs => by
  have ih := Po hL hl two i (by omega)
  have hx : L.getD i nd0 = L[i] := by rw [List.getD_eq_getElem?_getD, List.getElem?_eq_getElem (show i < L.length by omega)]; rfl
  have hk := line_ok hL hl two (show i < L.length by omega)
  simp only [Cc, hx] at hs
  split at hs
  ·exact ih s hs
  ·rcases List.mem_append.1 hs with h | h
   ·exact ih s h
   ·rw [List.mem_singleton] at h; rw [h]; exact hk
theorem linesL_ok {L : List Nd} (hL : L.length < 274877906944) (hl : AD L = true) : (Fd L).length ≤ L.length + 1 ∧ ∀ s ∈ Fd L, s.length ≤ 30000 := by
 unfold Fd
 split
 ·refine ⟨by simp, fun s hs => ?_⟩
  rw [List.mem_singleton] at hs
  rw [hs]
  have := SG (FF L 3) (FF L 3).length; omega
 ·exact ⟨by have := (Iu L (twoQ L) L.length).2.1; omega, Po hL hl _ _ (Nat.le_refl _)⟩
theorem lines_turn {L : List Nd} {H : Aa} {two : Bool} {i : Nat} (hL : L.length < 274877906944) (hl : AD L = true) (hi : i < L.length) (p : Nat) (out : List (List UInt8)) (vo : Ab) (Hd : Aa) (tk : Tok) (A : List Nat) (hA : A.length = i + 1) (hAb : ∀ a ∈ A, a ≤ i) (hout : out.length ≤ i)
  (hp : H.length ≤ p) (fp : Hd[p]? = some (.cel 0 (flat cN (A ++ List.replicate (L.length - i) 0)))) (hR : RS cS LQ 1 H.length out vo Hd) (hlen : H.length ≤ Hd.length)
  (hs : (Fw L two A i L[i]).length ≤ 30000) :
  ∃ v' H', RS cS LQ 1 H.length (if two && decide (L[i].lv < 3) then (out, A ++ [0]) else (out ++ [Fw L two A i L[i]], A ++ [out.length + 1])).1 v' H' ∧
   H'[p]? = some (.cel 0 (flat cN ((if two && decide (L[i].lv < 3) then (out, A ++ [0]) else (out ++ [Fw L two A i L[i]], A ++ [out.length + 1])).2 ++ List.replicate (L.length - (i + 1)) 0))) ∧ (∀ j, j < H.length → H'[j]? = Hd[j]?) ∧ H.length ≤ H'.length ∧
   ∀ rec : LK, Sh.f1o H rec (.sl (enL cNd L) tk) (.bool two) vo (.ms p 0 0 (L.length + 1) (L.length + 1) 1 true) (.int .i64 (i : Int)) Hd = rec [.sl (enL cNd L) tk, .bool two, v', .ms p 0 0 (L.length + 1) (L.length + 1) 1 true, .int .i64 ((i + 1 : Nat) : Int)] H' := by
 have hi' : (i : Int) < (L.length : Int) := by omega
 have hwi := Ar (show i < 9223372036854775807 by omega)
 obtain ⟨l1, l2, l3⟩ := A8 hl hi
 obtain ⟨tk0, rfl⟩ := hR.sl
 have hj2 : ∀ (rec : LK) (v : Ab) (H1 : Aa), Sh.f2r H rec (.sl (enL cNd L) tk) (.bool two) v (.ms p 0 0 (L.length + 1) (L.length + 1) 1 true) (.int .i64 (i : Int)) H1 = rec [.sl (enL cNd L) tk, .bool two, v, .ms p 0 0 (L.length + 1) (L.length + 1) 1 true, .int .i64 ((i + 1 : Nat) : Int)] H1 := by
  intro rec v H1
  unfold Sh.f2r
  simp only [GMb, GMc, hwi]
 have hrep : ∀ a : Nat, (A ++ List.replicate (L.length - i) 0).set (i + 1) a = A ++ [a] ++ List.replicate (L.length - (i + 1)) 0 := by
  intro a
  rw [List.set_append_right _ _ (by omega), hA, Nat.sub_self, show L.length - i = (L.length - (i + 1)) + 1 from by omega, List.replicate_succ, List.set_cons_zero]
  simp
 have hrep0 : A ++ [0] ++ List.replicate (L.length - (i + 1)) 0 = A ++ List.replicate (L.length - i) 0 := by
  rw [show L.length - i = (L.length - (i + 1)) + 1 from by omega, List.replicate_succ]; simp
 have hEl : (A ++ List.replicate (L.length - i) 0).length = L.length + 1 := by simp [hA]; omega
 have hgc : A7 Hd p 0 = some (flat cN (A ++ List.replicate (L.length - i) 0)) := Bc fp
 have hline : ∀ j2 : LK, Sh.f3i H j2 (.sl (enL cNd L) tk) (.bool two) (.sl (enL cS out) tk0) (.ms p 0 0 (L.length + 1) (L.length + 1) 1 true) (.int .i64 (i : Int)) (.str (Fw L two A i L[i])) Hd = Sh.f3i H j2 (.sl (enL cNd L) tk) (.bool two) (.sl (enL cS out) tk0) (.ms p 0 0 (L.length + 1) (L.length + 1) 1 true) (.int .i64 (i : Int)) (.str (Fw L two A i L[i])) Hd := fun _ => rfl
 by_cases hsk : (two && decide (L[i].lv < 3)) = true
 ·rw [if_pos hsk]
  simp only [Bool.and_eq_true, decide_eq_true_eq] at hsk
  refine ⟨_, Hd, hR, by rw [hrep0]; exact fp, fun j hj => rfl, hlen, fun rec => ?_⟩
  obtain ⟨h2, h3⟩ := hsk
  subst h2
  unfold Sh.f1o
  simp only [GMb, GMc, A5, hi', A2 hi, Am, Aw, Nat.zero_add, Ba, h3, Al, hj2]
 ·rw [if_neg hsk]
  obtain ⟨v', H', a1, a2, a3⟩ := hR.snoc (bytes := 16) hlen (Fw L two A i L[i]) .tight (by omega) (by omega)
  obtain ⟨tk', rfl⟩ := a2.sl
  have fp2 := a3.get fp
  have hpl := (List.getElem?_eq_some_iff.1 fp2).1
  have hlen2 : H.length ≤ H'.length := by have := a3.len; omega
  have hidx := ED (sz := 1) (id := p) (n := L.length + 1) (K := .i64) (g := 0) (off := 0) (cap := L.length + 1) (ex := true) (i := i + 1) (by omega)
  simp only [Nat.zero_add, Nat.mul_one] at hidx
  have hst := Gc (f := cN) (sz := 1) (a := out.length + 1) (v := .int .i64 ((out.length + 1 : Nat) : Int)) (Bc fp2) (i := i + 1) (by rw [hEl]; omega) rfl
  simp only [Nat.mul_one, hrep, Dg fp2] at hst
  have hj5 : ∀ (rec : LK), Sh.f3i H (fun vs H1 => Sh.f2r H rec (ag vs 0) (ag vs 1) (ag vs 2) (ag vs 3) (ag vs 4) H1) (.sl (enL cNd L) tk) (.bool two) (.sl (enL cS out) tk0) (.ms p 0 0 (L.length + 1) (L.length + 1) 1 true) (.int .i64 (i : Int)) (.str (Fw L two A i L[i])) Hd
    = rec [.sl (enL cNd L) tk, .bool two, .sl (enL cS (out ++ [Fw L two A i L[i]])) tk', .ms p 0 0 (L.length + 1) (L.length + 1) 1 true, .int .i64 ((i + 1 : Nat) : Int)] (H'.set p (.cel 0 (flat cN (A ++ [out.length + 1] ++ List.replicate (L.length - (i + 1)) 0)))) := by
   intro rec
   unfold Sh.f3i
   simp only [GMb, GMc, build_S, a1, hwi, A5, List.length_append, List.length_singleton, hidx, hst, Al, hj2]
  refine ⟨_, H'.set p (.cel 0 (flat cN (A ++ [out.length + 1] ++ List.replicate (L.length - (i + 1)) 0))), a2.put fp2, by rw [List.getElem?_set_self hpl], fun j hj => by rw [List.getElem?_set_ne (by omega)]; exact a3.old j hj, by simpa using hlen2, fun rec => ?_⟩
  have hnum : ∀ (n : Int) (H : Aa), 0 ≤ n → n ≤ 549755813888 → Sh.f18 (.int .i64 n) H = some (.ret (.str (FB n)), H) := fun n H a b => q14_number n H (by omega) (by omega)
  have hnlv := fun H => hnum L[i].lv H (by omega) (by omega)
  have kids : Ao (fun rec3 vs H1 => Sh.f3j H (fun vs H1 => Sh.f2r H rec (ag vs 0) (ag vs 1) (ag vs 2) (ag vs 3) (ag vs 4) H1) rec3 (ag vs 0) (ag vs 1) (ag vs 2) (ag vs 3) (ag vs 4) (ag vs 5) (ag vs 6) H1) AC [.sl (enL cNd L) tk, .bool two, .sl (enL cS out) tk0, .ms p 0 0 (L.length + 1) (L.length + 1) 1 true, .int .i64 (i : Int), .str (FB L[i].lv), .int .i64 0] Hd
    = rec [.sl (enL cNd L) tk, .bool two, .sl (enL cS (out ++ [Fw L two A i L[i]])) tk', .ms p 0 0 (L.length + 1) (L.length + 1) 1 true, .int .i64 ((i + 1 : Nat) : Int)] (H'.set p (.cel 0 (flat cN (A ++ [out.length + 1] ++ List.replicate (L.length - (i + 1)) 0)))) := by
   refine Ct (G := fun rec3 vs H1 => Sh.f3j H (fun vs H1 => Sh.f2r H rec (ag vs 0) (ag vs 1) (ag vs 2) (ag vs 3) (ag vs 4) H1) rec3 (ag vs 0) (ag vs 1) (ag vs 2) (ag vs 3) (ag vs 4) (ag vs 5) (ag vs 6) H1) 4
    (fun k => [.sl (enL cNd L) tk, .bool two, .sl (enL cS out) tk0, .ms p 0 0 (L.length + 1) (L.length + 1) 1 true, .int .i64 (i : Int), .str (Lu A L[i] k), .int .i64 (k : Int)]) (fun _ => Hd) _ (by decide) (fun rec3 k hk => ?_) (fun rec3 => ?_)
   ·have hk' : (k : Int) < 4 := by omega
    have hwk := Ar (show k < 9223372036854775807 by omega)
    obtain ⟨q1, q2, q3⟩ := l3 k hk
    have hll := Ox (L := L) (at' := A) (x := L[i]) l1 l2 (fun k hk => ⟨(l3 k hk).1, (l3 k hk).2.1⟩) (fun a ha => by have := hAb a ha; omega) k (by omega)
    have hj4 : ∀ c : Int, 0 ≤ c → c ≤ 549755813888 → c = (if 1 < L[i].lv then ((A.getD (L[i].kid k).toNat 0 : Nat) : Int) else L[i].kid k) → Sh.f5p H rec3 (.sl (enL cNd L) tk) (.bool two) (.sl (enL cS out) tk0) (.ms p 0 0 (L.length + 1) (L.length + 1) 1 true) (.int .i64 (i : Int)) (.str (Lu A L[i] k)) (.int .i64 (k : Int)) (.int .i64 c) Hd
      = rec3 [.sl (enL cNd L) tk, .bool two, .sl (enL cS out) tk0, .ms p 0 0 (L.length + 1) (L.length + 1) 1 true, .int .i64 (i : Int), .str (Lu A L[i] (k + 1)), .int .i64 ((k + 1 : Nat) : Int)] Hd := by
     intro c hc0 hc1 hc
     have hn := fun H => hnum c H hc0 hc1
     have hdl := (sb_dec (i64_sb (n := c) (by omega) (by omega))).2
     rw [show Lu A L[i] (k + 1) = Lu A L[i] k ++ [32] ++ FB c by rw [hc]; rfl]
     unfold Sh.f5p
     rw [BJ (by simp; omega)]
     simp only [GMb, GMc, hn]
     rw [BJ (by simp; omega)]
     simp only [GMb, GMc, hwk]
    unfold Sh.f3j
    simp only [GMb, GMc, Al, hk', A2 hi, Am, CY hk, Aw, Nat.zero_add, Nat.mul_one, CI hk, Ba]
    by_cases h1 : 1 < L[i].lv
    ·have hle : (L[i].kid k).toNat ≤ i := by
      by_cases h0 : 0 < L[i].kid k
      ·have := (q3 h1 h0).1; omega
      ·omega
     obtain ⟨c, hc⟩ := Int.eq_ofNat_of_zero_le q1
     rw [hc] at hle hj4 ⊢
     rw [Int.toNat_natCast] at hle hj4
     have hidc := ED (sz := 1) (id := p) (n := L.length + 1) (K := .i64) (g := 0) (off := 0) (cap := L.length + 1) (ex := true) (i := c) (by omega)
     simp only [Nat.zero_add, Nat.mul_one] at hidc
     have hldc := G9 (f := cN) hgc (i := c) (by rw [hEl]; omega)
     have hgd : (A ++ List.replicate (L.length - i) 0)[c]'(by rw [hEl]; omega) = A.getD c 0 := by
      rw [List.getElem_append_left (by omega), List.getD_eq_getElem?_getD, List.getElem?_eq_getElem (by omega)]; rfl
     rw [hgd] at hldc
     have hab : A.getD c 0 ≤ i := by
      rw [List.getD_eq_getElem?_getD, List.getElem?_eq_getElem (by omega)]
      exact hAb _ (List.getElem_mem _)
     simp only [h1, GMb, GMc, gt_iff_lt, hidc, hldc, List.getElem?_cons_zero, Al]
     exact hj4 _ (by omega) (by omega) (by rw [if_pos h1])
    ·simp only [h1, GMb, GMc, gt_iff_lt, Al]
     exact hj4 _ q1 (by have := q2 (by omega); omega) (by rw [if_neg h1])
   ·have hf : ¬ (((4 : Nat) : Int) < 4) := by decide
    unfold Sh.f3j
    simp only [AF, Al, Df, Du, Gv, GV, MG, Bw, Bd, hf, decide_false, AL, AJ]
    by_cases h3 : (two && decide (L[i].lv = 3)) = true
    ·have hlS : Fw L two A i L[i] = Pp L (i + 1) := by unfold Fw; rw [if_pos h3]
     simp only [Bool.and_eq_true, decide_eq_true_eq] at h3
     obtain ⟨h4, h5⟩ := h3
     have hLv : Lv L 3 (i + 1) := ⟨by omega, .inr (by rw [Bb hi, h5]; rfl)⟩
     have hlf := fun H => q14_leaf (L := L) tk (i + 1) H (by omega) hl hLv
     rw [hlS] at hj5 ⊢
     rw [h4] at hj5 ⊢
     simp only [GMb, GMc, A2 hi, Am, Aw, Nat.zero_add, Ba, h5, hwi, hlf, Al]
     have h9 := hj5 rec
     exact h9
    ·have hlS : Fw L two A i L[i] = Lu A L[i] 4 := by unfold Fw; rw [if_neg h3]
     rw [hlS] at hj5 ⊢
     have h9 := hj5 rec
     cases two with
     | false =>
      simp only [GMb, GMc, Al]
      exact h9
     | true =>
      have h5 : ¬ L[i].lv = 3 := by simpa using h3
      simp only [GMb, GMc, A2 hi, Am, Aw, Nat.zero_add, Ba, h5, Al]
      exact h9
  unfold Sh.f1o
  cases two with
  | false =>
   simp only [GMb, GMc, Al, A5, hi', A2 hi, Am, Aw, Nat.zero_add, Ba, hnlv]
   exact kids
  | true =>
   have h5 : ¬ L[i].lv < 3 := by simpa using hsk
   simp only [GMb, GMc, Al, A5, hi', A2 hi, Am, Aw, Nat.zero_add, Ba, h5, hnlv]
   exact kids
end Go.Gm
namespace Go.Gm
theorem growF_ok {level : Int} (hlev : level ≤ 1329) : ∀ (d : Nat) (l : List Nd), AD l = true → 0 < l.length → (A4 l l.length).lv ≤ level → level ≤ (A4 l l.length).lv + d →
  AD (Gl level d l) = true ∧ 0 < (Gl level d l).length ∧ (A4 (Gl level d l) (Gl level d l).length).lv = level ∧ (Gl level d l).length ≤ l.length + 5 * d
 | 0, l, hl, h0, h1, h2 => ⟨hl, h0, by show (A4 l l.length).lv = level; omega, Nat.le_refl _⟩
 | d + 1, l, hl, h0, h1, h2 => by
  show AD (if _ then _ else _) = true ∧ 0 < (if _ then _ else _ : List Nd).length ∧ _
  by_cases h : (A4 l l.length).lv < level
  ·have e : Gl level (d + 1) l = Gl level d (C1 l) := by show (if _ then _ else _) = _; rw [if_pos h]
   obtain ⟨k1, ⟨x, k2, k3⟩, k4, k5⟩ := Pq hl h0 (by omega)
   have ih := growF_ok hlev d (C1 l) k1 k4 (by omega) (by rw [k5]; omega)
   rw [e]
   rw [if_pos h]
   refine ⟨ih.1, ih.2.1, ih.2.2.1, ?_⟩
   have h4 := ih.2.2.2
   have h5 := congrArg List.length k2
   simp at h5; omega
  ·have e : Gl level (d + 1) l = l := by show (if _ then _ else _) = _; rw [if_neg h]
   rw [e]
   rw [if_neg h]
   exact ⟨hl, h0, by omega, by omega⟩
theorem grow_lv {L : List Nd} (hl : AD L = true) (hn : L ≠ []) {level : Int} (h1 : Ey L ≤ level) (h2 : level ≤ 1329) : AD (FF L level) = true ∧ (FF L level).length ≤ L.length + 7000 ∧ Lv (FF L level) level.toNat (FF L level).length := by
 have hlen : 0 < L.length := List.length_pos_iff.2 hn
 have h3 := (A8 hl (show L.length - 1 < L.length by omega)).1
 have hnd : A4 L (L.length : Int) = L[L.length - 1] := Cf (by omega) (by omega)
 unfold FF
 rw [if_neg (by intro h; rcases h with h | h; omega; exact hn h)]
 obtain ⟨k1, k2, k3, k4⟩ := growF_ok h2 1400 L hl hlen h1 (by rw [hnd]; omega)
 exact ⟨k1, by omega, Nat.le_refl _, .inr (by rw [k3])⟩
theorem q14_lines (L : List Nd) (H : Aa) (hL : L.length < 274877900000) (hl : AD L = true) : Sh.f2s (My L) H = some (.ret (.sl (enL cS (Fd L)) .no), H) := by
 unfold Sh.f2s
 have e3 : (H ++ [Blk.cel 0 (Di L)])[H.length]? = some (.cel 0 (Di L)) := AG
 have hmo := fun H => q08_mostZ (L := L) H (by omega) hl
 have hlv : ∀ H, Sh.f14 (My L) H = some (.ret (.int .i64 (if L = [] then 0 else Ey L)), H) := fun H => q05_level L .no H (by omega)
 have key : ∀ two, two = twoQ L → (Fd L = (Cc L two L.length).1) → ((AH (.sl (enL cNd L) .no)).bind fun x28 => (Ae .none .add x28 (.int .i64 1)).bind fun x29 => Ap (Fu 1 8 (some [(.int .i64 0)]) x29 x29 (H ++ [Blk.cel 0 (Di L)])) fun x30 H31 =>
   Ao (fun rec1 vs H1 => Sh.f1o H rec1 (ag vs 0) (ag vs 1) (ag vs 2) (ag vs 3) (ag vs 4) H1) AC [.sl (enL cNd L) .no, .bool two, (.sl [] .tight), x30, (.int .i64 0)] H31) = some (.ret (.sl (enL cS (Fd L)) .no), H) := by
  intro two htwo hlL
  have hmk := FX (f := cN) (a := 0) (n := L.length + 1) (bytes := 8) (H := H ++ [Blk.cel 0 (Di L)]) (by omega) (by omega)
  rw [show cN 0 = [Ab.int .i64 0] from rfl] at hmk
  simp only [A5, Bw, BQ, Ar (show L.length < 9223372036854775807 by omega), hmk, B9]
  have hb : H.length ≤ (H ++ [Blk.cel 0 (Di L)]).length := by simp
  have fp : (H ++ [Blk.cel 0 (Di L)] ++ [Blk.cel 0 (flat cN (List.replicate (L.length + 1) 0))])[(H ++ [Blk.cel 0 (Di L)]).length]? = some (.cel 0 (flat cN ((Cc L two 0).2 ++ List.replicate (L.length - 0) 0))) := by
   rw [AG]; simp [Cc, List.replicate_succ]
  have hold : ∀ i, i < H.length → (H ++ [Blk.cel 0 (Di L)] ++ [Blk.cel 0 (flat cN (List.replicate (L.length + 1) 0))])[i]? = H[i]? := fun i hi => by rw [List.append_assoc, List.getElem?_append_left hi]
  have hlen : H.length ≤ (H ++ [Blk.cel 0 (Di L)] ++ [Blk.cel 0 (flat cN (List.replicate (L.length + 1) 0))]).length := by simp
  generalize (H ++ [Blk.cel 0 (Di L)]).length = p at *
  generalize H ++ [Blk.cel 0 (Di L)] ++ [Blk.cel 0 (flat cN (List.replicate (L.length + 1) 0))] = Hc at *
  have loop := Hq (G := fun rec1 vs H1 => Sh.f1o H rec1 (ag vs 0) (ag vs 1) (ag vs 2) (ag vs 3) (ag vs 4) H1) L.length
   (fun i vs Hd => ∃ v, vs = [.sl (enL cNd L) .no, .bool two, v, .ms p 0 0 (L.length + 1) (L.length + 1) 1 true, .int .i64 (i : Int)] ∧ RS cS LQ 1 H.length (Cc L two i).1 v Hd ∧ Hd[p]? = some (.cel 0 (flat cN ((Cc L two i).2 ++ List.replicate (L.length - i) 0))) ∧ (∀ j, j < H.length → Hd[j]? = H[j]?) ∧ H.length ≤ Hd.length)
   (by omega) (fun i vs Hd hi hI => ?_) (vs := [.sl (enL cNd L) .no, .bool two, .sl [] .tight, .ms p 0 0 (L.length + 1) (L.length + 1) 1 true, .int .i64 0]) (H := Hc) ⟨_, rfl, .inl ⟨rfl, rfl⟩, fp, hold, hlen⟩
  ·obtain ⟨vs', Hd, ⟨v, rfl, gR, _, go, gl⟩, rec, hloop⟩ := loop
   rw [hloop]
   obtain ⟨tk2, rfl⟩ := gR.sl
   unfold Sh.f1o
   simp only [GMb, GMc, Al, A5, Int.lt_irrefl, E5 (BR go), I3, Option.map_some]
   rw [hlL]
  ·obtain ⟨v, rfl, gR, gp, go, gl⟩ := hI
   obtain ⟨n1, n2, n3⟩ := Iu L two i
   obtain ⟨v', H', a1, a2, a3, a4, a5⟩ := lines_turn (two := two) (by omega) hl hi p (Cc L two i).1 v Hd .no (Cc L two i).2 n1 n3 n2 hb gp gR gl (line_ok (by omega) hl two hi)
   have hx : L.getD i nd0 = L[i] := by rw [List.getD_eq_getElem?_getD, List.getElem?_eq_getElem hi]; rfl
   have hnext : Cc L two (i + 1) = if two && decide (L[i].lv < 3) then ((Cc L two i).1, (Cc L two i).2 ++ [0]) else ((Cc L two i).1 ++ [Fw L two (Cc L two i).2 i L[i]], (Cc L two i).2 ++ [(Cc L two i).1.length + 1]) := by
    simp only [Cc, hx]
   refine ⟨_, H', ⟨v', rfl, by rw [hnext]; exact a1, by rw [hnext]; exact a2, fun j hj => by rw [a3 j hj]; exact go j hj, a4⟩, fun rec => a5 rec⟩
 have htw : decide (Ls L ≤ 1) = twoQ L := rfl
 simp only [GMb, GMc, boxQ, Ai, Nat.zero_add, Em e3, PL e3, hmo, htw]
 cases htq : twoQ L with
 | false =>
  simp only [GMb, GMc]
  exact key false htq.symm (by unfold Fd; rw [htq]; rfl)
 | true =>
  simp only [GMb, GMc, PL e3, hlv]
  by_cases hn : L = []
  ·have hk := key true htq.symm (by unfold Fd; rw [htq, hn]; simp)
   rw [if_pos hn]
   have : ¬ ((0 : Int) > 0) := by decide
   simp only [this, GMb, GMc]
   exact hk
  ·rw [if_neg hn]
   have hlen : 0 < L.length := List.length_pos_iff.2 hn
   have h3 := (A8 hl (show L.length - 1 < L.length by omega)).1
   have hnd : A4 L (L.length : Int) = L[L.length - 1] := Cf (by omega) (by omega)
   have hpos : Ey L > 0 := by unfold Ey; rw [hnd]; omega
   simp only [hpos, GMb, GMc, PL e3, hlv, if_neg hn]
   by_cases h33 : Ey L < 3
   ·obtain ⟨g1, g2, g3⟩ := grow_lv hl hn (level := 3) (by omega) (by omega)
    have hgr := fun H => q06_grow L 3 H (by omega) hl (by omega) (by omega)
    have hlf := fun H => q14_leaf (L := FF L 3) .no (FF L 3).length H (by omega) g1 g3
    have hlL : Fd L = [Pp (FF L 3) (FF L 3).length] := by unfold Fd; rw [htq]; simp [hn, h33]
    simp only [h33, GMb, GMc, PL e3, hgr, DI, Ff, hlf, build_S, DB, I3, Option.map_some]
    rw [hlL]
   ·have hk := key true htq.symm (by unfold Fd; rw [htq]; simp [h33])
    simp only [h33, GMb, GMc]
    exact hk
def Pd (s0 : List UInt8) (l : List (List UInt8)) : List UInt8 := l.foldl (fun s t => s ++ t ++ [10]) s0
def GW (rule : List UInt8) : List UInt8 := [91, 77, 50, 93, 32, 40, 103, 108, 105, 100, 101, 114, 41, 10, 35, 82, 32] ++ rule ++ [10]
def treeTx (rule : List UInt8) (L : List Nd) : List UInt8 := Pd (GW rule) (Fd L)
theorem Qe (s0 : List UInt8) (l : List (List UInt8)) {i : Nat} (hi : i < l.length) : Pd s0 (l.take (i + 1)) = Pd s0 (l.take i) ++ l[i] ++ [10] := by
 unfold Pd
 rw [List.take_succ_eq_append_getElem hi, List.foldl_append]; rfl
theorem Sn (s0 : List UInt8) (l : List (List UInt8)) (h : ∀ t ∈ l, t.length ≤ 30000) : ∀ i, i ≤ l.length → (Pd s0 (l.take i)).length ≤ s0.length + i * 30001
 | 0, _ => by simp [Pd]
 | i + 1, hi => by
  have ih := Sn s0 l h i (by omega)
  have h2 := h l[i] (List.getElem_mem hi)
  rw [Qe s0 l hi]
  simp only [List.length_append, List.length_singleton]
  omega
theorem q14_text (rule : List UInt8) (L : List Nd) (H : Aa) (hr : rule.length < 35184372088832) (hL : L.length < 274877900000) :
  Sh.fs (pat rule L) H = some (.ret (if IY rule && E7 L then .tup [.str (treeTx rule L), .int .i64 0] else .tup [.str [], .int .i64 1]), H) := by
 unfold Sh.fs
 have e3 : (H ++ [Blk.cel 0 (Q7 rule L)])[H.length]? = some (.cel 0 (Q7 rule L)) := AG
 have hck := fun H => q11_right rule L H (by omega) (by omega)
 simp only [GMb, GMc, boxPat, load_patP e3, hck]
 cases hrb : IY rule && E7 L with
 | false =>
  simp only [GMb, GMc]
  exact rP_plain (v := .tup [.str [], .int .i64 1]) rfl
 | true =>
  have hl : AD L = true := by
   rw [Bool.and_eq_true] at hrb
   exact qright_loose hrb.2
  have hli := fun H => q14_lines L H hL hl
  simp only [GMb, GMc, Ai, Nat.zero_add, Nat.add_zero, QX e3]
  rw [BJ (by simp; omega)]
  simp only [GMb, GMc]
  rw [BJ (by simp; omega)]
  simp only [GMb, GMc, QY e3, hli]
  obtain ⟨k1, k2⟩ := linesL_ok (by omega) hl
  unfold treeTx
  have hhl : (GW rule).length ≤ 35184372088932 := by unfold GW; simp; omega
  generalize Fd L = l at *
  refine Ct (G := fun rec1 vs H1 => Sh.f4n H rec1 (ag vs 0) (ag vs 1) (ag vs 2) H1) l.length (fun i => [.str (Pd (GW rule) (l.take i)), .sl (enL cS l) .no, .int .i64 (i : Int)]) (fun _ => H ++ [Blk.cel 0 (Q7 rule L)]) _ (by omega) (fun rec i hi => ?_) (fun rec => ?_)
  ·have hi' : (i : Int) < (l.length : Int) := by omega
   have hws := Ar (show i < 9223372036854775807 by omega)
   have hb := Sn (GW rule) l k2 i (by omega)
   have h2 := k2 l[i] (List.getElem_mem hi)
   rw [Qe _ l hi]
   unfold Sh.f4n
   simp only [GMb, GMc, A5, hi', A2 hi, Aw, List.getElem?_cons_zero]
   rw [BJ (by omega)]
   simp only [GMb, GMc]
   rw [BJ (by simp; omega)]
   simp only [GMb, GMc, hws]
  ·unfold Sh.f4n
   rw [List.take_of_length_le (Nat.le_refl _)]
   simp only [GMb, GMc, A5, Int.lt_irrefl]
   exact rP_plain (v := .tup [.str (Pd (GW rule) l), .int .i64 0]) rfl
end Go.Gm
namespace Go.Gm
set_option maxRecDepth 100000
def tA : List UInt8 := [91, 77, 50, 93, 10, 50, 32, 49]
def tB : List UInt8 := [91, 77, 50, 93, 32, 120, 13, 10, 35, 82, 32, 97, 98, 99, 10, 35, 67, 32, 121, 10, 35, 71, 32, 55, 10, 36, 36, 36, 36, 46, 46, 46, 46, 42, 36, 10, 52, 32, 49, 32, 48, 32, 48, 32, 48, 10, 53, 32, 48, 32, 48, 32, 48, 32, 50]
def tC : List UInt8 := [91, 77, 50, 93, 10, 49, 32, 48, 32, 48, 32, 48, 32, 50, 53, 53, 10, 50, 32, 49, 32, 48, 32, 49, 32, 48, 10]
def tD : List UInt8 := [91, 77, 50, 93, 10, 49, 32, 48, 32, 48, 32, 48, 32, 50, 53, 53, 10, 50, 32, 49]
def tE : List UInt8 := [91, 77, 50, 93, 10, 10]
def tF : List UInt8 := [91, 77, 50, 93, 10, 49, 32, 48, 32, 48, 32, 48, 32, 49, 10, 50, 32, 49, 32, 49, 32, 48, 32, 48]
def lB : List Nd := [⟨1, 1, 0, 0, 0⟩, ⟨2, 1, 0, 0, 0⟩, ⟨3, 0, 0, 0, 2⟩, ⟨4, 0, 0, 0, 3⟩]
def lC : List Nd := [⟨1, 0, 0, 0, 255⟩, ⟨2, 1, 0, 1, 0⟩]
def hD : List UInt8 := [32, 48, 32, 48, 32, 48]
def sB : List UInt8 := [91, 77, 50, 93, 32, 40, 103, 108, 105, 100, 101, 114, 41, 10, 35, 82, 32, 97, 98, 99, 10, 36, 36, 36, 36, 46, 46, 46, 46, 42, 36, 10, 52, 32, 48, 32, 48, 32, 48, 32, 49, 10]
def sC : List UInt8 := [91, 77, 50, 93, 32, 40, 103, 108, 105, 100, 101, 114, 41, 10, 35, 82, 32, 66, 51, 47, 83, 50, 51, 10, 49, 32, 48, 32, 48, 32, 48, 32, 50, 53, 53, 10, 50, 32, 49, 32, 48, 32, 49, 32, 48, 10]
theorem xA : Hg tA 1000 100000 = (([], []), 7, 2) := by decide +kernel
theorem xB : Hg tB 1000 100000 = (([97, 98, 99], lB), 0, 0) := by decide +kernel
theorem xC : Hg tC 1000 100000 = ((GO, lC), 0, 0) := by decide +kernel
theorem xD : hintR tD = (hD, true) := by decide +kernel
theorem xD2 : (Hg (tD ++ hD) 1000 100000).2.2 = 0 := by decide +kernel
theorem xE : hintR tE = ([], false) := by decide +kernel
theorem xF : Hg tF 0 1 = (([], []), 15, 4) := by decide +kernel
theorem rB : (IY [97, 98, 99] && E7 lB) = true := by decide +kernel
theorem rC : (IY GO && E7 lC) = true := by decide +kernel
theorem wB : treeTx [97, 98, 99] lB = sB := by decide +kernel
theorem wC : treeTx GO lC = sC := by decide +kernel
theorem q19_alive (H : Aa) : Sh.fu H = some (.ret (.bool true), H) := by
 have hA := fun K => DC tA 1000 100000 K (by decide)
 have hB := fun K => DC tB 1000 100000 K (by decide)
 have hC := fun K => DC tC 1000 100000 K (by decide)
 have hD1 := fun K => N6 tD K (by decide)
 have hD2 := fun K => DC (tD ++ hD) 1000 100000 K (by decide)
 have hE := fun K => N6 tE K (by decide)
 have hF := fun K => DC tF 0 1 K (by decide)
 have hTB := fun K => q14_text [97, 98, 99] lB K (by decide) (by decide)
 have hTC := fun K => q14_text GO lC K (by decide) (by decide)
 have hx2 := xD2
 generalize Hg (tD ++ hD) 1000 100000 = R at hD2 hx2
 obtain ⟨⟨r1, r2⟩, r3, r4⟩ := R
 dsimp only at hx2
 subst hx2
 have hadd : Ae .none .add (.str tD) (.str hD) = some (.str (tD ++ hD)) := BJ (by decide)
 have b1 : Ay (some [(.int .i64 0), (.int .i64 0)]) [(1, 1, (.int .i64 1))] = some (.agg [.int .i64 0, .int .i64 1]) := rfl
 rw [xA] at hA
 rw [xB] at hB
 rw [xC] at hC
 rw [xD] at hD1
 rw [xE] at hE
 rw [xF] at hF
 rw [rB, wB] at hTB
 rw [rC, wC] at hTC
 simp only [E4, Ig, if_true] at hA hB hC hD2 hF hTB hTC
 dsimp only at hD1 hE
 unfold Sh.fu
 rw [show ([91, 77, 50, 93, 10, 50, 32, 49] : List UInt8) = tA from rfl, show ([91, 77, 50, 93, 32, 120, 13, 10, 35, 82, 32, 97, 98, 99, 10, 35, 67, 32, 121, 10, 35, 71, 32, 55, 10, 36, 36, 36, 36, 46, 46, 46, 46, 42, 36, 10, 52, 32, 49, 32, 48, 32, 48, 32, 48, 10, 53, 32, 48, 32, 48, 32, 48, 32, 50] : List UInt8) = tB from rfl,
  show ([91, 77, 50, 93, 10, 49, 32, 48, 32, 48, 32, 48, 32, 50, 53, 53, 10, 50, 32, 49, 32, 48, 32, 49, 32, 48, 10] : List UInt8) = tC from rfl, show ([91, 77, 50, 93, 10, 49, 32, 48, 32, 48, 32, 48, 32, 50, 53, 53, 10, 50, 32, 49] : List UInt8) = tD from rfl,
  show ([91, 77, 50, 93, 10, 10] : List UInt8) = tE from rfl, show ([91, 77, 50, 93, 10, 49, 32, 48, 32, 48, 32, 48, 32, 49, 10, 50, 32, 49, 32, 49, 32, 48, 32, 48] : List UInt8) = tF from rfl,
  show ([91, 77, 50, 93, 32, 40, 103, 108, 105, 100, 101, 114, 41, 10, 35, 82, 32, 97, 98, 99, 10, 36, 36, 36, 36, 46, 46, 46, 46, 42, 36, 10, 52, 32, 48, 32, 48, 32, 48, 32, 49, 10] : List UInt8) = sB from rfl,
  show ([91, 77, 50, 93, 32, 40, 103, 108, 105, 100, 101, 114, 41, 10, 35, 82, 32, 66, 51, 47, 83, 50, 51, 10, 49, 32, 48, 32, 48, 32, 48, 32, 50, 53, 53, 10, 50, 32, 49, 32, 48, 32, 49, 32, 48, 10] : List UInt8) = sC from rfl]
 simp only [Sl.gliderref11_Wide_eq, Sl.macro_Read_eq, Sl.gliderref14_Text_eq, Sl.macro_Hint_eq, GMb, GMc, HPa, HPc, HPd, HPe, HPz, Nat.reduceAdd, Nat.reduceLT, q11_wide, hA, hB, hC, hD1, hadd, hD2, hE, hF, hTB, hTC, b1, HL, beq_self_eq_true]
theorem readR_len (b : List UInt8) (bx N : Int) : (Hg b bx N).1.2.length ≤ 100000 := by
 unfold Hg
 split
 ·rename_i hf
  unfold NO at hf
  simp only [Bool.and_eq_true, decide_eq_true_eq] at hf
  split
  ·exact Nat.zero_le _
  ·split
   ·rename_i hq
    simp only [Bool.and_eq_true, decide_eq_true_eq] at hq
    dsimp only
    omega
   ·exact Nat.zero_le _
 ·exact Nat.zero_le _
theorem reads_ok {b : List UInt8} (bx N : Int) (H : Aa) : Sh.f4y (.str b) (.agg [.int .i64 bx, .int .i64 N]) H = some (.ret (.bool true), H) := by
 unfold Sh.f4y
 simp only [Sl.gliderlaw19_alive_eq, Sl.macro_Read_eq, Sl.gliderref19_Read_eq, Sl.gliderref11_Same_eq, GMb, GMc, HPa, HPc, HPd, HPe, HPz, Nat.reduceAdd, Nat.reduceLT, q19_alive]
 by_cases hb : b.length > 500
 ·have hd : decide ((b.length : Int) > 500) = true := decide_eq_true (by omega)
  simp only [GMb, GMc, HPa, HPc, HPd, HPe, HPz, Nat.reduceAdd, Nat.reduceLT, hd]
 ·have hd : decide ((b.length : Int) > 500) = false := decide_eq_false (by omega)
  have h1 := fun K => DC b bx N K (by omega)
  have h2 := fun K => q19_read b bx N K (by omega)
  have hl := readR_len b bx N
  generalize Hg b bx N = R at h1 h2 hl
  obtain ⟨⟨r, L⟩, i, e⟩ := R
  have hs := fun K => q11_same r r L L K (by dsimp only at hl; omega)
  simp only [E4, Ig] at h1 h2 hs
  simp only [GMb, GMc, HPa, HPc, HPd, HPe, HPz, Nat.reduceAdd, Nat.reduceLT, hd, h1, h2, hs]
end Go.Gm
