/- Texts of this proof, joined. -/
import Derived.Test.YtenmplcmmdaibaaGreatDoorJ4
import Derived.Test.YtenmplcmmdaibaaGreatDoorJ5
set_option linter.unusedVariables false
set_option linter.unusedSimpArgs false
namespace Go.Gm
theorem nodup_le : ∀ (N : Nat) (l : List Nat), l.Nodup → (∀ x ∈ l, x < N) → l.length ≤ N := by
 intro N
 induction N with
 | zero =>
  intro l _ h
  cases l with
  | nil => simp
  | cons a l => have := h a (by simp); omega
 | succ N ih =>
  intro l hn h
  by_cases hN : N ∈ l
  ·have h1 := List.length_erase_of_mem hN
   have h2 := ih (l.erase N) (hn.erase N) (fun x hx => by
    rw [hn.mem_erase_iff] at hx
    have := h x hx.2; omega)
   have := List.length_pos_of_mem hN
   omega
  ·have := ih l hn (fun x hx => by
    have := h x hx
    have : x ≠ N := fun e => hN (e ▸ hx)
    omega)
   omega
def knF : Nat → List Nd → List (Aa × Aa)
 | _, [] => []
 | s, x :: l => (.agg (cNd x), .int .i64 ((s + 1 : Nat) : Int)) :: knF (s + 1) l
theorem Qg (a : Nd) (l : List Nd) (y : Nd) : Bx (a :: l) y = if a = y then 1 else if Bx l y = 0 then 0 else Bx l y + 1 := by
 by_cases h : a = y
 ·rw [if_pos h, CC]; exact ⟨by simp [h], fun j hj => by omega⟩
 ·rw [if_neg h]
  cases hf : Bx l y with
  | zero =>
   rw [if_pos rfl, FM]
   rw [FM] at hf
   intro hm
   rcases List.mem_cons.1 hm with e | e
   ·exact h e.symm
   ·exact hf e
  | succ i =>
   rw [if_neg (by omega), CC]
   rw [CC] at hf
   refine ⟨by simpa using hf.1, fun j hj => ?_⟩
   cases j with
   | zero => simpa using h
   | succ j => simpa using hf.2 j (by omega)
theorem key_nd (y : Nd) : C1 true 5 (.agg (cNd y)) = some (cNd y) := (rfl)
theorem Rs (y : Nd) : ∀ (l : List Nd) (s : Nat), CV true 5 (knF s l) (cNd y) = some (if Bx l y = 0 then none else some (.int .i64 ((s + Bx l y : Nat) : Int)))
 | [], s => by
  have : Bx [] y = 0 := by rw [FM]; simp
  simp [knF, CV, this]
 | a :: l, s => by
  have ih := Rs y l (s + 1)
  simp only [knF, CV, key_nd, Bq, MG]
  rw [Qg]
  by_cases h : a = y
  ·subst h; simp
  ·have h' : ¬ y = a := fun e => h e.symm
   rw [decide_eq_false h', if_neg h]
   simp only [Bool.false_eq_true, if_false, ih]
   by_cases h0 : Bx l y = 0
   ·simp [h0]
   ·rw [if_neg h0, if_neg (by rw [if_neg h0]; omega), if_neg h0]
    congr 3; omega
theorem QR (y : Nd) : ∀ (l : List Nd) (s : Nat), Bx l y = 0 → Cq true 5 (knF s l) (.agg (cNd y)) (cNd y) (.int .i64 ((s + l.length + 1 : Nat) : Int)) = some (knF s (l ++ [y]))
 | [], s, _ => rfl
 | a :: l, s, h => by
  rw [Qg] at h
  by_cases ha : a = y
  ·rw [if_pos ha] at h; omega
  ·rw [if_neg ha] at h
   have h0 : Bx l y = 0 := by
    by_cases h0 : Bx l y = 0
    ·exact h0
    ·rw [if_neg h0] at h; omega
   have h' : ¬ y = a := fun e => ha e.symm
   have ih := QR y l (s + 1) h0
   simp only [knF, Cq, key_nd, Bq, MG, List.cons_append]
   rw [decide_eq_false h']
   simp only [Bool.false_eq_true, if_false]
   rw [List.length_cons, show s + (l.length + 1) + 1 = s + 1 + l.length + 1 by omega, ih]
   rfl
def dnM (D : List (Nat × Nat)) : List (Aa × Aa) := D.map fun p => (.int .i64 (p.1 : Int), .int .i64 (p.2 : Int))
def lkD (D : List (Nat × Nat)) (n : Nat) : Option Nat := match D with
 | [] => none
 | p :: r => if p.1 = n then some p.2 else lkD r n
theorem lkD_mem {n m : Nat} : ∀ {D : List (Nat × Nat)}, lkD D n = some m → (n, m) ∈ D
 | [], h => by cases h
 | p :: r, h => by
  unfold lkD at h
  by_cases hp : p.1 = n
  ·rw [if_pos hp] at h; injection h with h; subst hp; subst h; exact List.mem_cons_self
  ·rw [if_neg hp] at h; exact List.mem_cons_of_mem _ (lkD_mem h)
theorem lkD_none {n : Nat} : ∀ {D : List (Nat × Nat)}, lkD D n = none → n ∉ D.map (·.1)
 | [], h => by simp
 | p :: r, h => by
  unfold lkD at h
  by_cases hp : p.1 = n
  ·rw [if_pos hp] at h; cases h
  ·rw [if_neg hp] at h
   have := lkD_none h
   simp only [List.map_cons, List.mem_cons, not_or]
   exact ⟨fun e => hp e.symm, this⟩
theorem lkD_app {n : Nat} {p : Nat × Nat} : ∀ {D : List (Nat × Nat)}, lkD (D ++ [p]) n = (match lkD D n with | some m => some m | none => if p.1 = n then some p.2 else none)
 | [] => by simp [lkD]
 | q :: r => by
  have ih := lkD_app (n := n) (p := p) (D := r)
  simp only [List.cons_append, lkD]
  by_cases hq : q.1 = n
  ·simp only [if_pos hq]
  ·simp only [if_neg hq, ih]
theorem nat_cell (a b : Nat) : Bh [.int .i64 (a : Int)] [.int .i64 (b : Int)] = some (decide (a = b)) := by
 simp only [Bh, EL, if_true, Bq]
 congr 1
 rw [Bool.eq_iff_iff]; simp; omega
theorem OM (a : Int) : C1 false 1 (.int .i64 a) = some [.int .i64 a] := (rfl)
theorem Rt (n : Nat) : ∀ D : List (Nat × Nat), CV false 1 (dnM D) [.int .i64 (n : Int)] = some ((lkD D n).map fun m => Aa.int .i64 (m : Int))
 | [] => rfl
 | p :: r => by
  have ih := Rt n r
  simp only [dnM, List.map_cons, CV, OM, Bq, nat_cell, lkD]
  by_cases hp : p.1 = n
  ·subst hp; simp
  ·have : ¬ n = p.1 := fun e => hp e.symm
   rw [decide_eq_false this, if_neg hp]
   simpa [dnM] using ih
theorem QS (n m : Nat) : ∀ D : List (Nat × Nat), lkD D n = none → Cq false 1 (dnM D) (.int .i64 (n : Int)) [.int .i64 (n : Int)] (.int .i64 (m : Int)) = some (dnM (D ++ [(n, m)]))
 | [], _ => rfl
 | p :: r, h => by
  unfold lkD at h
  by_cases hp : p.1 = n
  ·rw [if_pos hp] at h; cases h
  ·rw [if_neg hp] at h
   have ih := QS n m r h
   have : ¬ n = p.1 := fun e => hp e.symm
   simp only [dnM, List.map_cons, Cq, OM, Bq, nat_cell, List.cons_append] at ih ⊢
   rw [decide_eq_false this]
   simp only [Bool.false_eq_true, if_false, ih]
   rfl
theorem lookA_dn {H : Ab} {id : Nat} {D : List (Nat × Nat)} (h : H[id]? = some (.map (dnM D))) (n : Nat) : Dw false 1 (some (.int .i64 0)) true (.mp id) (.int .i64 (n : Int)) H = some (match lkD D n with | some m => .tup [.int .i64 (m : Int), .bool true] | none => .tup [.int .i64 0, .bool false]) := by
 unfold Dw
 simp only [Bq, OM, h, Rt, Option.map_some]
 cases lkD D n <;> rfl
theorem updA_dn {H : Ab} {id : Nat} {D : List (Nat × Nat)} (h : H[id]? = some (.map (dnM D))) {n : Nat} (m : Nat) (hn : lkD D n = none) : C5 false 1 (.mp id) (.int .i64 (n : Int)) (.int .i64 (m : Int)) H = some (H.set id (.map (dnM (D ++ [(n, m)])))) := by
 unfold C5
 simp only [Bq, OM, h, QS n m D hn, Option.map_some]
theorem lookA_kn {H : Ab} {id : Nat} {out : List Nd} (h : H[id]? = some (.map (knF 0 out))) (y : Nd) : Dw true 5 (some (.int .i64 0)) true (.mp id) (.agg (cNd y)) H = some (if Bx out y = 0 then .tup [.int .i64 0, .bool false] else .tup [.int .i64 (Bx out y : Int), .bool true]) := by
 unfold Dw
 simp only [Bq, key_nd, h, Rs, Option.map_some, Nat.zero_add]
 by_cases h0 : Bx out y = 0 <;> simp [h0]
theorem updA_kn {H : Ab} {id : Nat} {out : List Nd} (h : H[id]? = some (.map (knF 0 out))) {y : Nd} (hn : Bx out y = 0) : C5 true 5 (.mp id) (.agg (cNd y)) (.int .i64 ((out.length + 1 : Nat) : Int)) H = some (H.set id (.map (knF 0 (out ++ [y])))) := by
 have := QR y out 0 hn
 rw [Nat.zero_add] at this
 unfold C5
 simp only [Bq, key_nd, h, this, Option.map_some]
def HG (y : Nd) : Bool := decide (y.k0 = 0) && (decide (y.k1 = 0) && (decide (y.k2 = 0) && decide (y.k3 = 0)))
theorem eq_kids (y : Nd) : Af (.flat 4) .eql (.agg (Gl y)) (.agg [.int .i64 0, .int .i64 0, .int .i64 0, .int .i64 0]) = some (.bool (HG y)) := by
 show (eqA (.flat 4) (.agg (Gl y)) (.agg [.int .i64 0, .int .i64 0, .int .i64 0, .int .i64 0])).map Aa.bool = _
 have h : eqA (.flat 4) (.agg (Gl y)) (.agg [.int .i64 0, .int .i64 0, .int .i64 0, .int .i64 0]) = some (HG y) := by
  unfold eqA
  simp only []
  rw [if_pos (show (Gl y).length = 4 from rfl)]
  simp only [Gl, Bh, EL, if_true, Bq, Bool.and_true, Ev]
  rfl
 rw [h]; rfl
def Fx (out : List Nd) (y : Nd) : List Nd × Nat := if HG y then (out, 0) else AS out y
structure AR (b ar km : Nat) (out : List Nd) (v : Aa) (H : Ab) : Prop where
 cell : H[ar]? = some (.cel 0 [v, .mp km])
 row : RS cNd As 5 b out v H
 known : H[km]? = some (.map (knF 0 out))
structure AX (b ar km : Nat) (H H' : Ab) : Prop where
 len : H.length ≤ H'.length
 cel : ∀ (i : Nat) (cs : List Aa), i ≠ ar → H[i]? = some (.cel 0 cs) → H'[i]? = some (.cel 0 cs)
 map : ∀ (i : Nat) (es : List (Aa × Aa)), i ≠ km → H[i]? = some (.map es) → H'[i]? = some (.map es)
 old : ∀ i, i < b → H'[i]? = H[i]?
theorem AX.refl (b ar km : Nat) (H : Ab) : AX b ar km H H := ⟨Nat.le_refl _, fun _ _ _ h => h, fun _ _ _ h => h, fun _ _ => rfl⟩
theorem AX.trans {b ar km : Nat} {H H1 H2 : Ab} (h : AX b ar km H H1) (k : AX b ar km H1 H2) : AX b ar km H H2 :=
 ⟨Nat.le_trans h.len k.len, fun i cs hi hc => k.cel i cs hi (h.cel i cs hi hc), fun i es hi hc => k.map i es hi (h.map i es hi hc), fun i hi => (k.old i hi).trans (h.old i hi)⟩
theorem AX.push {b ar km : Nat} {H : Ab} (hb : b ≤ H.length) (G : Ab) : AX b ar km H (H ++ G) :=
 ⟨by simp, fun i cs _ h => B6 h, fun i es _ h => B6 h, fun i hi => List.getElem?_append_left (by omega)⟩
theorem AR.push {b ar km : Nat} {out : List Nd} {v : Aa} {H : Ab} (h : AR b ar km out v H) (G : Ab) : AR b ar km out v (H ++ G) :=
 ⟨B6 h.cell, h.row.left G, B6 h.known⟩
theorem c06_intern {b ar km : Nat} {out : List Nd} {v : Aa} {H : Ab} (h : AR b ar km out v H) (hba : b ≤ ar) (hbk : b ≤ km) (hb : b ≤ H.length) (y : Nd) (ho : out.length < 3000000000000) :
  ∃ v' H', Sh.f20 (.ptr ar 0 0) (.agg (cNd y)) H = some (.ret (.int .i64 ((Fx out y).2 : Int)), H') ∧ AR b ar km (Fx out y).1 v' H' ∧ AX b ar km H H' := by
 have hB : b ≤ (H ++ [Blk.cel 0 (cNd y)]).length := by simp; omega
 have h1 := h.push [.cel 0 (cNd y)]
 have e1 : AX b ar km H (H ++ [.cel 0 (cNd y)]) := AX.push hb _
 have hbd : A3 (some [(.int .i64 0), (.int .i64 0), (.int .i64 0), (.int .i64 0)]) [] = some (.agg [.int .i64 0, .int .i64 0, .int .i64 0, .int .i64 0]) := rfl
 unfold Sh.f20 Fx
 have l0 := Bw (o := 0) (sz := 1) h1.cell
 have l1 := Bw (o := 1) (sz := 1) h1.cell
 cases hz : HG y with
 | true =>
  simp only [GMb, GMc, HPa, HPc, HPd, HPe, HPz, Nat.reduceAdd, Nat.reduceLT, Bd, CN, Ci, CL, hbd, eq_kids, hz, if_true]
  exact ⟨v, _, rfl, h1, e1⟩
 | false =>
  simp only [GMb, GMc, HPa, HPc, HPd, HPe, HPz, Nat.reduceAdd, Nat.reduceLT, Bd, CN, Ci, CL, hbd, eq_kids, hz, l1, Ca, DY, lookA_kn h1.known, Bool.false_eq_true, if_false]
  unfold AS
  by_cases h0 : Bx out y = 0
  ·obtain ⟨v', H2, ha, hr, hk, hg⟩ := RS.snoc2 (bytes := 40) h1.row hB y .tight (by omega) (by omega)
   have hc2 := hk.cel _ _ h1.cell
   have hst := st_cel (o := 0) (v := v') hc2 hr.one (by simp)
   have hka : km ≠ ar := fun e => by have := h.known; rw [e, h.cell] at this; cases this
   have har : ar < H.length := (List.getElem?_eq_some_iff.1 h.cell).1
   have hkl : km < H.length := (List.getElem?_eq_some_iff.1 h.known).1
   have hkn : ∀ es, v ≠ .sl es (.own km) := h.row.notok (B := .map (knF 0 out)) h.known (fun _ _ _ e => by cases e)
   have hk2 : H2[km]? = some (.map (knF 0 out)) := by rw [hg.keep km (by simp; omega) hkn]; exact h1.known
   have hH1 : H.length ≠ ar := by omega
   have hbox : H2[H.length]? = some (.cel 0 (cNd y)) := hk.cel _ _ A9
   have hl2 : ar < H2.length := (List.getElem?_eq_some_iff.1 hc2).1
   have hkl2 : km < H2.length := (List.getElem?_eq_some_iff.1 hk2).1
   obtain ⟨H3, hH3⟩ : ∃ H3, H3 = H2.set ar (.cel 0 ([v, .mp km].set 0 v')) := ⟨_, rfl⟩
   rw [← hH3] at hst
   have hc3 : H3[ar]? = some (.cel 0 [v', .mp km]) := by rw [hH3, List.getElem?_set_self hl2]; rfl
   have hk3 : H3[km]? = some (.map (knF 0 out)) := by rw [hH3, List.getElem?_set_ne (Ne.symm hka)]; exact hk2
   have hb3 : H3[H.length]? = some (.cel 0 (cNd y)) := by rw [hH3, List.getElem?_set_ne (Ne.symm hH1)]; exact hbox
   have l30 := Bw (o := 0) (sz := 1) hc3
   have l31 := Bw (o := 1) (sz := 1) hc3
   have hup := updA_kn hk3 h0
   obtain ⟨H4, hH4⟩ : ∃ H4, H4 = H3.set km (.map (knF 0 (out ++ [y]))) := ⟨_, rfl⟩
   rw [← hH4] at hup
   have hc4 : H4[ar]? = some (.cel 0 [v', .mp km]) := by rw [hH4, List.getElem?_set_ne hka]; exact hc3
   have l40 := Bw (o := 0) (sz := 1) hc4
   have hlen := hr.len
   rw [List.length_append, List.length_singleton] at hlen
   refine ⟨v', H4, ?_, ⟨hc4, ?_, ?_⟩, e1.trans ⟨?_, fun i cs hi hc => ?_, fun i es hi hc => ?_, fun i hi => ?_⟩⟩
   ·simp only [h0, if_true, GMb, GMc, HPa, HPc, HPd, HPe, HPz, Nat.reduceAdd, Nat.reduceLT, l0, Ca, DY, Bd, CN, Ci, CL, FS, ha, hst, l30, l31, CK hb3, hlen, hup, l40]
   ·have r3 : RS cNd As 5 b (out ++ [y]) v' H3 := by rw [hH3]; exact hr.put hc2
    rw [hH4, if_pos h0]
    exact r3.setB hk3 (fun _ _ _ e => by cases e)
   ·rw [hH4, List.getElem?_set_self (by rw [hH3, List.length_set]; exact hkl2)]; simp only [h0, if_true]
   ·rw [hH4, List.length_set, hH3, List.length_set]; exact hk.len
   ·have c2 := hk.cel i cs hc
    have hik : i ≠ km := fun e => by rw [e, hk2] at c2; cases c2
    rw [hH4, List.getElem?_set_ne (Ne.symm hik), hH3, List.getElem?_set_ne (Ne.symm hi)]; exact c2
   ·have hia : i ≠ ar := fun e => by rw [e, h1.cell] at hc; cases hc
    have hil : i < (H ++ [Blk.cel 0 (cNd y)]).length := (List.getElem?_eq_some_iff.1 hc).1
    have hin : ∀ es', v ≠ .sl es' (.own i) := h1.row.notok hc (fun _ _ _ e => by cases e)
    rw [hH4, List.getElem?_set_ne (Ne.symm hi), hH3, List.getElem?_set_ne (Ne.symm hia), hg.keep i hil hin]; exact hc
   ·rw [hH4, List.getElem?_set_ne (by omega), hH3, List.getElem?_set_ne (by omega)]; exact hk.old i hi
  ·simp only [h0, if_false, GMb, GMc, HPa, HPc, HPd, HPe, HPz, Nat.reduceAdd, Nat.reduceLT]
   exact ⟨v, _, rfl, h1, e1⟩
end Go.Gm
namespace Go.Gm
theorem LP (y : Nd) : HG y = (List.range 4).all fun k => decide (y.kid k = 0) := by
 rw [Fi]
 simp only [HG, Bool.and_assoc]
 rfl
theorem GS {L : List Nd} {v n : Nat} {out : List Nd} (h : n = 0 ∨ (Ap L).getD n true = true) : AB L (Ap L) v n out = (out, 0) := by
 have he : (Ap L).getD n true = true := by
  rcases h with h | h
  ·rw [h]; exact Cu L
  ·exact h
 cases v with
 | zero => rfl
 | succ v => simp only [AB, he, if_true]
theorem insF_pos {L : List Nd} {v n : Nat} {out : List Nd} (h : (Ap L).getD n true = false) : 0 < (AB L (Ap L) (v + 1) n out).2 := by
 simp only [AB, h, Bool.false_eq_true, if_false]
 split
 ·exact JN _ _
 ·exact JN _ _
theorem Nm (rec : Nat → List Nd → List Nd × Nat) (x : Nd) (out : List Nd) : ∀ k, k ≤ 4 → ∀ j, j < k → (Bk rec x k out).2.kid j = ((rec (x.kid j).toNat (Bk rec x j out).1).2 : Int)
 | 0, _, j, h => by omega
 | k + 1, hk, j, h => by
  simp only [Bk]
  by_cases e : j = k
  ·subst e; rw [JG _ _ (by omega)]
  ·rw [Ds _ _ (by omega) (by omega) e]; exact Nm rec x out k (by omega) j (by omega)
theorem Ry {L : List Nd} {v : Nat} (x : Nd) (out : List Nd) (h : ∀ k, k < 4 → (x.kid k).toNat = 0 ∨ (Ap L).getD (x.kid k).toNat true = true) : ∀ k, k ≤ 4 → (Bk (AB L (Ap L) v) x k out).1 = out
 | 0, _ => rfl
 | k + 1, hk => by
  simp only [Bk]
  rw [GS (h k (by omega))]
  exact Ry x out h k (by omega)
theorem intern_ins {L : List Nd} (hl : Ar L = true) {m v : Nat} (hm : m < L.length) (hv : L[m].lv.toNat = v + 1) (out : List Nd) :
  Fx (Bk (AB L (Ap L) v) L[m] (if 1 < L[m].lv then 4 else 0) out).1 (Bk (AB L (Ap L) v) L[m] (if 1 < L[m].lv then 4 else 0) out).2 = AB L (Ap L) (v + 1) (m + 1) out := by
 obtain ⟨l1, l2, l3⟩ := Ax hl hm
 have hx : Ak L ((m + 1 : Nat) : Int) = L[m] := A6 hm
 have he := KY hl (n := m + 1) (by omega) hm
 rw [hx] at he
 by_cases h1 : 1 < L[m].lv
 ·rw [if_pos h1]
  cases hE : (Ap L).getD (m + 1) true with
  | true =>
   rw [hE] at he
   have hk : ∀ k, k < 4 → (L[m].kid k).toNat = 0 ∨ (Ap L).getD (L[m].kid k).toNat true = true := fun k hk => by
    have := List.all_eq_true.1 he.symm k (by simpa using hk)
    simp only [Bool.or_eq_true, decide_eq_true_eq, Bool.and_eq_true] at this
    rcases this with h | h
    ·left; rw [h]; rfl
    ·exact .inr h.2
   have hn : HG (Bk (AB L (Ap L) v) L[m] 4 out).2 = true := by
    rw [LP, List.all_eq_true]
    intro k hk'
    have hk4 : k < 4 := by simpa using hk'
    rw [decide_eq_true_eq, Nm _ _ _ 4 (by omega) k hk4, GS (hk k hk4)]; rfl
   unfold Fx
   rw [hn, if_pos rfl, Ry _ _ hk 4 (by omega)]
   simp only [AB, hE, if_true]
  | false =>
   rw [hE] at he
   have : ¬ ∀ k, k < 4 → (L[m].kid k = 0 ∨ (Ap L).getD (L[m].kid k).toNat true = true) := fun h => by
    have : ((List.range 4).all fun k => decide (L[m].kid k = 0) || (decide (1 < L[m].lv) && (Ap L).getD (L[m].kid k).toNat true)) = true := by
     rw [List.all_eq_true]
     intro k hk
     have := h k (by simpa using hk)
     simp only [Bool.or_eq_true, decide_eq_true_eq, Bool.and_eq_true]
     rcases this with q | q
     ·exact .inl q
     ·exact .inr ⟨h1, q⟩
    rw [this] at he; cases he
   have ⟨k, hk4, hk0⟩ : ∃ k, k < 4 ∧ ¬ (L[m].kid k = 0 ∨ (Ap L).getD (L[m].kid k).toNat true = true) := by
    by_cases h : ∃ k, k < 4 ∧ ¬ (L[m].kid k = 0 ∨ (Ap L).getD (L[m].kid k).toNat true = true)
    ·exact h
    ·exact absurd (fun k hk => Decidable.byContradiction fun hc => h ⟨k, hk, hc⟩) this
   have hn : HG (Bk (AB L (Ap L) v) L[m] 4 out).2 = false := by
    rw [LP, List.all_eq_false]
    refine ⟨k, by simpa using hk4, ?_⟩
    rw [decide_eq_true_eq, Nm _ _ _ 4 (by omega) k hk4]
    obtain ⟨v', rfl⟩ : ∃ v', v = v' + 1 := ⟨v - 1, by omega⟩
    have := insF_pos (L := L) (v := v') (n := (L[m].kid k).toNat) (out := (Bk (AB L (Ap L) (v' + 1)) L[m] k out).1) (by
     cases hq : (Ap L).getD (L[m].kid k).toNat true with
     | false => rfl
     | true => exact absurd (.inr hq) hk0)
    omega
   unfold Fx
   rw [hn]
   simp only [AB, hE, Bool.false_eq_true, if_false, hx, if_pos h1]
 ·rw [if_neg h1]
  have hn : HG L[m] = (Ap L).getD (m + 1) true := by
   rw [he, LP, Fi, Fi]
   simp [h1]
  unfold Fx
  simp only [Bk, AB, hn, hx, if_neg h1]
structure Seat where
 b : Nat
 pd : Nat
 pl : Nat
 pv : Nat
 pa : Nat
 ar : Nat
 km : Nat
 dm : Nat
structure VQ (s : Seat) (L : List Nd) (tk : Tok) (out : List Nd) (D : List (Nat × Nat)) (H : Ab) : Prop where
 hb : s.b ≤ s.ar ∧ s.b ≤ s.km ∧ s.b ≤ s.dm ∧ s.km ≠ s.dm
 ne : s.pd ≠ s.ar ∧ s.pl ≠ s.ar ∧ s.pv ≠ s.ar ∧ s.pa ≠ s.ar
 done : H[s.pd]? = some (.cel 0 [.mp s.dm])
 list : H[s.pl]? = some (.cel 0 [.sl (enL cNd L) tk])
 self : H[s.pv]? = some (.cel 0 [.fn 50 [.ptr s.pd 0 0, .ptr s.pl 0 0, .ptr s.pv 0 0, .ptr s.pa 0 0]])
 arena : H[s.pa]? = some (.cel 0 [.ptr s.ar 0 0])
 nodes : ∃ v, AR s.b s.ar s.km out v H
 nums : H[s.dm]? = some (.map (dnM D))
structure VD (L out : List Nd) (D : List (Nat × Nat)) : Prop where
 nd : (D.map (·.1)).Nodup
 le : ∀ p ∈ D, p.1 ≤ L.length
 val : ∀ p ∈ D, AB L (Ap L) (Ak L (p.1 : Int)).lv.toNat p.1 out = (out, p.2)
 cnt : out.length < D.length
 zero : lkD D 0 = some 0
theorem VD.short {L out : List Nd} {D : List (Nat × Nat)} (h : VD L out D) : out.length ≤ L.length := by
 have := nodup_le (L.length + 1) (D.map (·.1)) h.nd (fun x hx => by
  obtain ⟨p, hp, rfl⟩ := List.mem_map.1 hx
  have := h.le p hp; omega)
 rw [List.length_map] at this
 have := h.cnt; omega
theorem VQ.len {s : Seat} {L : List Nd} {tk : Tok} {out : List Nd} {D : List (Nat × Nat)} {H : Ab} (h : VQ s L tk out D H) : s.b ≤ H.length := by
 obtain ⟨v, h1⟩ := h.nodes
 have := (List.getElem?_eq_some_iff.1 h1.cell).1
 have := h.hb.1; omega
theorem VQ.cells {s : Seat} {L : List Nd} {tk : Tok} {out : List Nd} {D : List (Nat × Nat)} {H H' : Ab} (h : VQ s L tk out D H) (hk : ∀ i, i < H.length → H'[i]? = H[i]?) (hl : H.length ≤ H'.length) : VQ s L tk out D H' := by
 have g : ∀ {i : Nat} {x : Blk}, H[i]? = some x → H'[i]? = some x := fun hx => by rw [hk _ (List.getElem?_eq_some_iff.1 hx).1]; exact hx
 obtain ⟨v, h1⟩ := h.nodes
 refine ⟨h.hb, h.ne, g h.done, g h.list, g h.self, g h.arena, ⟨v, g h1.cell, ?_, g h1.known⟩, g h.nums⟩
 rcases h1.row with r | ⟨t, r1, r2, r3⟩
 ·exact .inl r
 ·exact .inr ⟨t, r1, r2, g r3⟩
theorem VQ.put {s : Seat} {L : List Nd} {tk : Tok} {out : List Nd} {D : List (Nat × Nat)} {H : Ab} {q : Nat} {x y : Nd} (h : VQ s L tk out D H) (hq : H[q]? = some (.cel 0 (cNd x))) : VQ s L tk out D (H.set q (.cel 0 (cNd y))) := by
 obtain ⟨v, h1⟩ := h.nodes
 have n5 : ∀ {i : Nat} {c : List Aa}, H[i]? = some (.cel 0 c) → c.length ≠ 5 → (H.set q (.cel 0 (cNd y)))[i]? = some (.cel 0 c) := fun {i c} hi hc => by
  have : q ≠ i := fun e => by rw [e, hi] at hq; injection hq with hq; injection hq with _ hq; rw [hq] at hc; exact hc rfl
  rw [List.getElem?_set_ne this]; exact hi
 have nm : ∀ {i : Nat} {es : List (Aa × Aa)}, H[i]? = some (.map es) → (H.set q (.cel 0 (cNd y)))[i]? = some (.map es) := fun {i es} hi => by
  have : q ≠ i := fun e => by rw [e, hi] at hq; cases hq
  rw [List.getElem?_set_ne this]; exact hi
 exact ⟨h.hb, h.ne, n5 h.done (by simp), n5 h.list (by simp), n5 h.self (by simp), n5 h.arena (by simp), ⟨v, n5 h1.cell (by simp), h1.row.put hq, nm h1.known⟩, nm h.nums⟩
theorem VD.grow {L out : List Nd} {D : List (Nat × Nat)} (h : VD L out D) (r : List Nd) : ∀ p ∈ D, AB L (Ap L) (Ak L (p.1 : Int)).lv.toNat p.1 (out ++ r) = (out ++ r, p.2) := by
 intro p hp
 have h3 := h.val p hp
 have := DK (L := L) (E := Ap L) (Ak L (p.1 : Int)).lv.toNat p.1 out r
 rwa [h3] at this
theorem c06_visit {s : Seat} {L : List Nd} {tk : Tok} (hL : L.length < 2000000000000) (hl : Ar L = true) : ∀ (v n d : Nat) (out : List Nd) (D : List (Nat × Nat)) (H : Ab), n ≤ L.length → (n = 0 ∨ (Ak L (n : Int)).lv.toNat = v) → v < d → VQ s L tk out D H → VD L out D →
  ∃ H' D', Sh.f4 d (.int .i64 (n : Int)) (.ptr s.pd 0 0) (.ptr s.pl 0 0) (.ptr s.pv 0 0) (.ptr s.pa 0 0) H = some (.ret (.int .i64 ((AB L (Ap L) v n out).2 : Int)), H') ∧
   VQ s L tk (AB L (Ap L) v n out).1 D' H' ∧ Ext s.b s.ar H H' ∧ VD L (AB L (Ap L) v n out).1 D' ∧ ∀ j, n < j → lkD D' j = lkD D j := by
 intro v
 induction v with
 | zero =>
  intro n d out D H hn hv hd hQ hD
  obtain ⟨d, rfl⟩ : ∃ e, d = e + 1 := ⟨d - 1, by omega⟩
  have hn0 : n = 0 := by
   rcases hv with h | h
   ·exact h
   ·cases n with
    | zero => rfl
    | succ m =>
     rw [A6 (show m < L.length from hn)] at h
     have := (Ax hl (show m < L.length from hn)).1; omega
  subst hn0
  refine ⟨H, D, ?_, hQ, Ext.refl _ _ _, hD, fun _ _ => rfl⟩
  show Sh.f2l (Sh.f4 d) _ _ _ _ _ _ = _
  have hlk := lookA_dn hQ.nums 0
  rw [hD.zero] at hlk
  unfold Sh.f2l
  simp only [GMb, GMc, HPa, HPc, HPd, HPe, HPz, Nat.reduceAdd, Nat.reduceLT, Bw hQ.done, hlk]
  rfl
 | succ v ih =>
  intro n d out D H hn hv hd hQ hD
  obtain ⟨d, rfl⟩ : ∃ e, d = e + 1 := ⟨d - 1, by omega⟩
  show ∃ H' D', Sh.f2l (Sh.f4 d) _ _ _ _ _ _ = _ ∧ _
  have hlk := lookA_dn hQ.nums n
  unfold Sh.f2l
  simp only [GMb, GMc, HPa, HPc, HPd, HPe, HPz, Nat.reduceAdd, Nat.reduceLT, Bw hQ.done, hlk]
  cases hln : lkD D n with
  | some m =>
   have hmem := lkD_mem hln
   have hval := hD.val _ hmem
   dsimp only at hval
   have hins : AB L (Ap L) (v + 1) n out = (out, m) := by
    rcases hv with h | h
    ·have := GS (L := L) (v := (Ak L (n : Int)).lv.toNat) (out := out) (n := n) (.inl h)
     rw [hval] at this
     rw [GS (.inl h)]
     exact this.symm
    ·rw [h] at hval; exact hval
   rw [hins]
   exact ⟨H, D, by simp only [GMb, GMc, HPa, HPc, HPd, HPe, HPz, Nat.reduceAdd, Nat.reduceLT], hQ, Ext.refl _ _ _, hD, fun _ _ => rfl⟩
  | none =>
   obtain ⟨m, rfl⟩ : ∃ m, n = m + 1 := ⟨n - 1, by
    cases n with
    | zero => rw [hD.zero] at hln; cases hln
    | succ n => rfl⟩
   have hm : m < L.length := hn
   have hv' : (Ak L ((m + 1 : Nat) : Int)).lv.toNat = v + 1 := by
    rcases hv with h | h
    ·omega
    ·exact h
   obtain ⟨l1, l2, l3⟩ := Ax hl hm
   have hx : Ak L ((m + 1 : Nat) : Int) = L[m] := A6 hm
   rw [hx] at hv'
   have hwm : IntKind.i64.wrap (((m + 1 : Nat) : Int) - 1) = (m : Int) := by rw [A0] <;> omega
   have hble := hQ.len
   have hQ1 : VQ s L tk out D (H ++ [.cel 0 (cNd L[m])]) := hQ.cells (fun i hi => List.getElem?_append_left hi) (by simp)
   have hE1 : Ext s.b s.ar H (H ++ [.cel 0 (cNd L[m])]) := Ext.snoc hble _
   have hHar : H.length ≠ s.ar := by
    obtain ⟨v, h1⟩ := hQ.nodes
    have := (List.getElem?_eq_some_iff.1 h1.cell).1; omega
   simp only [GMb, GMc, HPa, HPc, HPd, HPe, HPz, Nat.reduceAdd, Nat.reduceLT, Bw hQ.list, Ca, hwm, Aw hm, Fw, Bd, CN, Ci, CL]
   have fin : ∀ (Hc : Ab) (D1 : List (Nat × Nat)), lkD D1 (m + 1) = none → VQ s L tk (Bk (AB L (Ap L) v) L[m] (if 1 < L[m].lv then 4 else 0) out).1 D1 Hc → Hc[H.length]? = some (.cel 0 (cNd (Bk (AB L (Ap L) v) L[m] (if 1 < L[m].lv then 4 else 0) out).2)) → Ext s.b s.ar H Hc → VD L (Bk (AB L (Ap L) v) L[m] (if 1 < L[m].lv then 4 else 0) out).1 D1 → (∀ j, m < j → lkD D1 j = lkD D j) →
     ∃ H' D', Sh.f3d H (.int .i64 ((m + 1 : Nat) : Int)) (.ptr s.pd 0 0) (.ptr s.pa 0 0) (.ptr H.length 0 0) Hc = some (.ret (.int .i64 ((AB L (Ap L) (v + 1) (m + 1) out).2 : Int)), H') ∧
      VQ s L tk (AB L (Ap L) (v + 1) (m + 1) out).1 D' H' ∧ Ext s.b s.ar H H' ∧ VD L (AB L (Ap L) (v + 1) (m + 1) out).1 D' ∧ ∀ j, m + 1 < j → lkD D' j = lkD D j := by
    intro Hc D1 hl1 hQc hbox hEc hDc hjj
    have hint := intern_ins hl hm hv' out
    have hagain := DK (L := L) (E := Ap L) (v + 1) (m + 1) out []
    rw [List.append_nil] at hagain
    generalize Bk (AB L (Ap L) v) L[m] (if 1 < L[m].lv then 4 else 0) out = io at *
    obtain ⟨o, y⟩ := io
    dsimp only at *
    obtain ⟨vv, hA⟩ := hQc.nodes
    have hsh := hDc.short
    obtain ⟨v', H2, i1, i2, i3⟩ := c06_intern hA hQc.hb.1 hQc.hb.2.1 hQc.len y (by omega)
    rw [hint] at i1 i2
    have hdm : s.dm ≠ s.km := Ne.symm hQc.hb.2.2.2
    have hdn := i3.map _ _ hdm hQc.nums
    have hpd := i3.cel _ _ hQc.ne.1 hQc.done
    have hup := updA_dn (H := H2) (n := m + 1) hdn (AB L (Ap L) (v + 1) (m + 1) out).2 hl1
    have hgrow : ∃ r, (AB L (Ap L) (v + 1) (m + 1) out).1 = o ++ r := by
     rw [← hint]
     unfold Fx AS
     split
     ·exact ⟨[], by simp⟩
     ·split
      ·exact ⟨[y], rfl⟩
      ·exact ⟨[], by simp⟩
    have hglen : (AB L (Ap L) (v + 1) (m + 1) out).1.length ≤ o.length + 1 := by
     rw [← hint]
     unfold Fx AS
     split
     ·dsimp only; omega
     ·split
      ·simp
      ·dsimp only; omega
    refine ⟨H2.set s.dm (.map (dnM (D1 ++ [(m + 1, (AB L (Ap L) (v + 1) (m + 1) out).2)]))), D1 ++ [(m + 1, (AB L (Ap L) (v + 1) (m + 1) out).2)], ?_, ?_, hEc.trans ⟨?_, fun i cs hi hc => ?_, fun i hi => ?_⟩, ?_, fun j hj => ?_⟩
    ·unfold Sh.f3d
     simp only [GMb, GMc, HPa, HPc, HPd, HPe, HPz, Nat.reduceAdd, Nat.reduceLT, Bw hQc.arena, Ca, CK hbox, i1, Bw hpd, hup]
    ·have hdl : s.dm < H2.length := (List.getElem?_eq_some_iff.1 hdn).1
     have nc : ∀ {i : Nat} {c : List Aa}, i ≠ s.ar → Hc[i]? = some (.cel 0 c) → (H2.set s.dm (.map (dnM (D1 ++ [(m + 1, (AB L (Ap L) (v + 1) (m + 1) out).2)]))))[i]? = some (.cel 0 c) := fun {i c} hi hc => by
      have h2 := i3.cel i c hi hc
      have : s.dm ≠ i := fun e => by rw [← e, hdn] at h2; cases h2
      rw [List.getElem?_set_ne this]; exact h2
     have hda : s.dm ≠ s.ar := fun e => by have := i2.cell; rw [← e, hdn] at this; cases this
     exact ⟨hQc.hb, hQc.ne, nc hQc.ne.1 hQc.done, nc hQc.ne.2.1 hQc.list, nc hQc.ne.2.2.1 hQc.self, nc hQc.ne.2.2.2 hQc.arena,
      ⟨v', by rw [List.getElem?_set_ne hda]; exact i2.cell, i2.row.setB hdn (fun _ _ _ e => by cases e), by rw [List.getElem?_set_ne hdm]; exact i2.known⟩, by rw [List.getElem?_set_self hdl]⟩
    ·rw [List.length_set]; exact i3.len
    ·have h2 := i3.cel i cs hi hc
     have : s.dm ≠ i := fun e => by rw [← e, hdn] at h2; cases h2
     rw [List.getElem?_set_ne this]; exact h2
    ·have := hQc.hb.2.2.1
     rw [List.getElem?_set_ne (by omega)]; exact i3.old i hi
    ·obtain ⟨r, hr⟩ := hgrow
     refine ⟨?_, fun p hp => ?_, fun p hp => ?_, ?_, ?_⟩
     ·rw [List.map_append, List.nodup_append]
      refine ⟨hDc.nd, by simp, fun a ha b hb => ?_⟩
      have hbm : b = m + 1 := by simpa using hb
      have := lkD_none hl1
      exact fun e => this (by rw [← hbm, ← e]; exact ha)
     ·rcases List.mem_append.1 hp with h | h
      ·exact hDc.le p h
      ·rw [List.mem_singleton.1 h]; exact hn
     ·rcases List.mem_append.1 hp with h | h
      ·rw [hr]; exact hDc.grow r p h
      ·rw [List.mem_singleton.1 h]
       dsimp only
       rw [hx, hv']; exact hagain
     ·rw [List.length_append, List.length_singleton]; have := hDc.cnt; omega
     ·rw [lkD_app, hDc.zero]
    ·rw [lkD_app, hjj j (by omega)]
     cases lkD D j with
     | some _ => rfl
     | none => dsimp only; rw [if_neg (by omega)]
   by_cases hlv : L[m].lv > 1
   ·simp only [hlv, GMb, GMc]
    have h1lt : 1 < L[m].lv := hlv
    rw [if_pos h1lt] at fin
    have loop := My (G := fun rec2 vs H1 => Sh.f3e H (Sh.f4 d) (fun vs H => Sh.f3d H (ag vs 0) (ag vs 1) (ag vs 2) (ag vs 3) H) rec2 (ag vs 0) (ag vs 1) (ag vs 2) (ag vs 3) (ag vs 4) (ag vs 5) (ag vs 6) H1) 4
     (fun k vs Hc => ∃ D', vs = [.int .i64 ((m + 1 : Nat) : Int), .ptr s.pd 0 0, .ptr s.pv 0 0, .ptr s.pa 0 0, .ptr H.length 0 0, .agg (Gl L[m]), .int .i64 (k : Int)] ∧ VQ s L tk (Bk (AB L (Ap L) v) L[m] k out).1 D' Hc ∧ Hc[H.length]? = some (.cel 0 (cNd (Bk (AB L (Ap L) v) L[m] k out).2)) ∧ Ext s.b s.ar H Hc ∧ VD L (Bk (AB L (Ap L) v) L[m] k out).1 D' ∧ lkD D' (m + 1) = none ∧ ∀ j, m < j → lkD D' j = lkD D j)
     (by decide) (fun k vs Hc hk hI => ?_) (vs := [.int .i64 ((m + 1 : Nat) : Int), .ptr s.pd 0 0, .ptr s.pv 0 0, .ptr s.pa 0 0, .ptr H.length 0 0, .agg (Gl L[m]), .int .i64 0]) (H := H ++ [Blk.cel 0 (cNd L[m])]) ⟨D, rfl, hQ1, by simp [Bk], hE1, hD, hln, fun _ _ => rfl⟩
    ·obtain ⟨vs', Hc, ⟨D', rfl, hQc, hbox, hEc, hDc, hlc, hjc⟩, rec, hloop⟩ := loop
     obtain ⟨H', D2, f1, f2⟩ := fin Hc D' hlc hQc hbox hEc hDc hjc
     refine ⟨H', D2, hloop.trans ?_, f2⟩
     unfold Sh.f3e
     simp only [GMb, GMc, Ay, show ¬ (((4 : Nat) : Int) < 4) from by decide]
     exact f1
    ·obtain ⟨D1, rfl, hQc, hbox, hEc, hDc, hlc, hjc⟩ := hI
     have hk' : (k : Int) < 4 := by omega
     obtain ⟨q1, q2, q3⟩ := l3 k hk
     obtain ⟨c, hc⟩ : ∃ c : Nat, L[m].kid k = (c : Int) := ⟨(L[m].kid k).toNat, by omega⟩
     have hcm : c ≤ m := by
      by_cases h0 : 0 < L[m].kid k
      ·have := (q3 h1lt h0).1; omega
      ·omega
     have hcv : c = 0 ∨ (Ak L (c : Int)).lv.toNat = v := by
      by_cases h0 : c = 0
      ·exact .inl h0
      ·right
       obtain ⟨g, rfl⟩ : ∃ g, c = g + 1 := ⟨c - 1, by omega⟩
       have hgl : g < L.length := by omega
       have := (q3 h1lt (by omega)).2 L[g] (by rw [show (L[m].kid k - 1).toNat = g by omega]; exact List.getElem?_eq_getElem hgl)
       rw [A6 hgl]; omega
     obtain ⟨H1, D', r1, r2, r3, r4, r5⟩ := ih c d (Bk (AB L (Ap L) v) L[m] k out).1 D1 Hc (by omega) hcv (by omega) hQc hDc
     have hbox1 := r3.cel _ _ hHar hbox
     have hst := Cw (c := ((AB L (Ap L) v c (Bk (AB L (Ap L) v) L[m] k out).1).2 : Int)) hbox1 hk
     have hstep : Bk (AB L (Ap L) v) L[m] (k + 1) out = ((AB L (Ap L) v c (Bk (AB L (Ap L) v) L[m] k out).1).1, (Bk (AB L (Ap L) v) L[m] k out).2.setKid k ((AB L (Ap L) v c (Bk (AB L (Ap L) v) L[m] k out).1).2 : Int)) := by
      simp only [Bk, hc, Int.toNat_natCast]
     rw [hstep]
     refine ⟨_, H1.set H.length (.cel 0 (cNd ((Bk (AB L (Ap L) v) L[m] k out).2.setKid k ((AB L (Ap L) v c (Bk (AB L (Ap L) v) L[m] k out).1).2 : Int)))), ⟨D', rfl, r2.put hbox1, ?_, ⟨by have := hEc.len; have := r3.len; rw [List.length_set]; omega, fun i cs hi hc => ?_, fun i hi => ?_⟩, r4, ?_, fun j hj => ?_⟩, fun rec => ?_⟩
     ·rw [List.getElem?_set_self (List.getElem?_eq_some_iff.1 hbox1).1]
     ·have := (List.getElem?_eq_some_iff.1 hc).1
      rw [List.getElem?_set_ne (by omega)]; exact r3.cel i cs hi (hEc.cel i cs hi hc)
     ·rw [List.getElem?_set_ne (by omega), r3.old i hi]; exact hEc.old i hi
     ·rw [r5 (m + 1) (by omega)]; exact hlc
     ·rw [r5 j (by omega)]; exact hjc j hj
     ·have hcall : RM (Fk (Sh.f4 d)) (.fn 50 [.ptr s.pd 0 0, .ptr s.pl 0 0, .ptr s.pv 0 0, .ptr s.pa 0 0]) [.int .i64 (c : Int)] Hc = Sh.f4 d (.int .i64 (c : Int)) (.ptr s.pd 0 0) (.ptr s.pl 0 0) (.ptr s.pv 0 0) (.ptr s.pa 0 0) Hc := rfl
      unfold Sh.f3e
      simp only [GMb, GMc, HPa, HPc, HPd, HPe, HPz, Nat.reduceAdd, Nat.reduceLT, Ay, hk', ag_kid _ hk, hc, Bw hQc.self, Ca, hcall, r1, CM hk, hst, Av (show k < 9223372036854775807 by omega)]
   ·simp only [hlv, GMb, GMc]
    rw [if_neg hlv] at fin
    exact fin _ D hln hQ1 (by simp [Bk]) hE1 hD (fun _ _ => rfl)
theorem c06_of (L : List Nd) (tk : Tok) (n : Int) (H : Ab) (hL : L.length < 1000000000000) : Sh.f21 (.sl (enL cNd L) tk) (.int .i64 n) H =
  some (.ret (if Ls L n then .tup [Lm (B7 L n.toNat), .int .i64 0] else .tup [Lm [], .int .i64 1]), H) := by
 unfold Sh.f21
 have hbx : Et true 1 (.sl (enL cNd L) tk) H = some (.ptr H.length 0 0, H ++ [.cel 0 [.sl (enL cNd L) tk]]) := by
  unfold Et; simp only [acells_sl, alloc_eq (cs := [.sl (enL cNd L) tk]) rfl]; rfl
 have hq0 : Aa.agg [.sl [] .no] = Lm [] := rfl
 simp only [hbx, GMb, GMc, HPa, HPc, HPd, HPe, HPz, Nat.reduceAdd, Nat.reduceLT, c05_loose L tk _ (show L.length < 1152921504606846976 by omega)]
 unfold Ls
 have hb0 : A3 (some [(.sl [] .tight)]) [] = some (.agg [.sl [] .tight]) := rfl
 cases hl : Ar L with
 | false => simp only [GMb, GMc, HPa, HPc, HPd, HPe, HPz, Nat.reduceAdd, Nat.reduceLT, hb0, hq0, Bool.false_eq_true, if_false]
 | true =>
  by_cases hn0 : n < 0
  ·have : ¬ 0 ≤ n := by omega
   simp only [GMb, GMc, HPa, HPc, HPd, HPe, HPz, Nat.reduceAdd, Nat.reduceLT, hb0, hq0, hn0, this, Bool.false_eq_true, if_false]
  ·have h0' : 0 ≤ n := by omega
   by_cases hn1 : n > L.length
   ·have : ¬ n ≤ L.length := by omega
    simp only [GMb, GMc, HPa, HPc, HPd, HPe, HPz, Nat.reduceAdd, Nat.reduceLT, hb0, hq0, hn0, h0', hn1, this, A2, Bool.false_eq_true, if_false]
   ·obtain ⟨n, rfl⟩ := Int.eq_ofNat_of_zero_le h0'
    have hle : n ≤ L.length := by omega
    have hle' : (n : Int) ≤ (L.length : Int) := by omega
    have hnn : ¬ (n : Int) > (L.length : Int) := hn1
    obtain ⟨s1, s2, s3⟩ := Rb hl hle
    unfold B7
    simp only [GMb, GMc, HPa, HPc, HPd, HPe, HPz, Nat.reduceAdd, Nat.reduceLT, hn0, h0', hnn, hle', A2, c06_shrink L tk n _ (show L.length < 3518437200000 by omega) hl hle, if_true, Int.toNat_natCast]
    generalize BT L n = S at s1 s2 s3
    obtain ⟨M, r⟩ := S
    dsimp only at s1 s2 s3 ⊢
    have hlvv : (Ak M (r : Int)).lv.toNat < AI := by
     rw [Dj]
     by_cases hr : 0 < r
     ·have := lv_le s1 hr s2; omega
     ·obtain rfl : r = 0 := by omega
      unfold Ak
      rw [List.getD_eq_getElem?_getD]
      by_cases hM : 0 < M.length
      ·rw [show (((0 : Nat) : Int) - 1).toNat = 0 from rfl, List.getElem?_eq_getElem hM]
       have := (Ax s1 hM).2.1
       simp only [Option.getD_some]; omega
      ·rw [show (((0 : Nat) : Int) - 1).toNat = 0 from rfl, List.getElem?_eq_none (by omega)]; simp
    have hmk : ∀ K : Ab, CJ K = some (.mp K.length, K ++ [.map []]) := fun _ => rfl
    have hb1 : ∀ x, A3 (some [.sl [] .tight, .nilmap]) [(1, 1, .mp x)] = some (.agg [.sl [] .tight, .mp x]) := fun _ => rfl
    have hup : C5 false 1 (.mp (H.length + 5)) (.int .i64 0) (.int .i64 0) (H ++ [.cel 0 [.sl (enL cNd M) .no], .cel 0 [.sl [] .tight], .map [], .cel 0 [.sl [] .tight, .mp (H.length + 2)], .cel 0 [.ptr (H.length + 3) 0 0], .map []]) =
      some (H ++ [.cel 0 [.sl (enL cNd M) .no], .cel 0 [.sl [] .tight], .map [], .cel 0 [.sl [] .tight, .mp (H.length + 2)], .cel 0 [.ptr (H.length + 3) 0 0], .map (dnM [(0, 0)])]) := by
     have := updA_dn (H := H ++ [.cel 0 [.sl (enL cNd M) .no], .cel 0 [.sl [] .tight], .map [], .cel 0 [.sl [] .tight, .mp (H.length + 2)], .cel 0 [.ptr (H.length + 3) 0 0], .map []]) (id := H.length + 5) (D := []) (by simp [dnM]) (n := 0) 0 rfl
     rw [show ((0 : Nat) : Int) = 0 from rfl] at this
     rw [this, List.set_append_right _ _ (by omega), show H.length + 5 - H.length = 5 by omega]
     rfl
    have hf : ∀ l : List Aa, Al 1 (.ptr 0 0 0) (.fn 50 l) [Blk.cel 0 [.nilfn]] = some [.cel 0 [.fn 50 l]] := fun l => KG rfl (by simp)
    obtain ⟨F, hF⟩ : ∃ F : Ab, F = H ++ [.cel 0 [.sl (enL cNd M) .no], .cel 0 [.sl [] .tight], .map [], .cel 0 [.sl [] .tight, .mp (H.length + 2)], .cel 0 [.ptr (H.length + 3) 0 0], .map (dnM [(0, 0)]), .cel 0 [.mp (H.length + 5)], .cel 0 [.fn 50 [.ptr (H.length + 6) 0 0, .ptr H.length 0 0, .ptr (H.length + 7) 0 0, .ptr (H.length + 4) 0 0]]] := ⟨_, rfl⟩
    have hQ : VQ ⟨H.length, H.length + 6, H.length, H.length + 7, H.length + 4, H.length + 3, H.length + 2, H.length + 5⟩ M .no [] [(0, 0)] F := by
     refine ⟨⟨by dsimp only; omega, by dsimp only; omega, by dsimp only; omega, by dsimp only; omega⟩, ⟨by dsimp only; omega, by dsimp only; omega, by dsimp only; omega, by dsimp only; omega⟩, ?_, ?_, ?_, ?_, ⟨.sl [] .tight, ?_, .inl ⟨rfl, rfl⟩, ?_⟩, ?_⟩ <;> (rw [hF]; simp [knF])
    have hD : VD M [] [(0, 0)] := ⟨by simp, fun p hp => by rw [List.mem_singleton.1 hp]; exact Nat.zero_le _, fun p hp => by rw [List.mem_singleton.1 hp]; exact GS (.inl rfl), by simp, rfl⟩
    obtain ⟨H', D', v1, v2, v3, v4, v5⟩ := c06_visit (s := ⟨H.length, H.length + 6, H.length, H.length + 7, H.length + 4, H.length + 3, H.length + 2, H.length + 5⟩) (L := M) (tk := .no) (by omega) s1 (Ak M (r : Int)).lv.toNat r AI [] [(0, 0)] F s2 (.inr rfl) hlvv hQ hD
    dsimp only at v1 v3
    have hcall : RM G1 (.fn 50 [.ptr (H.length + 6) 0 0, .ptr H.length 0 0, .ptr (H.length + 7) 0 0, .ptr (H.length + 4) 0 0]) [.int .i64 (r : Int)] F = Sh.f4 AI (.int .i64 (r : Int)) (.ptr (H.length + 6) 0 0) (.ptr H.length 0 0) (.ptr (H.length + 7) 0 0) (.ptr (H.length + 4) 0 0) F := rfl
    rw [v1] at hcall
    rw [hF] at hcall
    have hres : H'[H.length + 1]? = some (.cel 0 [.sl [] .tight]) := v3.cel _ _ (by omega) (by rw [hF]; simp)
    have hold : ∀ i, i < H.length → H'[i]? = H[i]? := fun i hi => by rw [v3.old i hi, hF, List.getElem?_append_left hi]
    obtain ⟨v, hA⟩ := v2.nodes
    have hpa := Bw (o := 0) (sz := 1) v2.arena
    have har := Bw (o := 0) (sz := 1) hA.cell
    dsimp only at hpa har
    obtain ⟨tk3, rfl⟩ := hA.row.sl
    generalize (AB M (Ap M) (Ak M (r : Int)).lv.toNat r []).1 = Q at *
    have hb : A3 (some [(.sl [] .tight)]) [(0, 1, .sl (enL cNd Q) tk3)] = some (.agg [.sl (enL cNd Q) tk3]) := by simp [A3, GW, DI]
    have hst := st_agg (sz := 1) (ws := [.sl (enL cNd Q) tk3]) hres rfl rfl rfl
    have hcl := (List.getElem?_eq_some_iff.1 hres).1
    have hld := PT (sz := 1) (H := H'.set (H.length + 1) (.cel 0 [.sl (enL cNd Q) tk3])) (p := H.length + 1) (by rw [List.getElem?_set_self hcl]) rfl
    have htake : (H'.set (H.length + 1) (.cel 0 [.sl (enL cNd Q) tk3])).take H.length = H := BX fun i hi => by
     rw [List.getElem?_set_ne (by omega)]; exact hold i hi
    simp only [GMb, GMc, HPa, HPc, HPd, HPe, HPz, Nat.reduceAdd, Nat.reduceLT, hmk, hb1, hup, hf, hcall, hpa, har, Ca, hb, hst, hld, FF htake]
    rfl
end Go.Gm
namespace Go.Gm
theorem p_fine (bx N : Int) (H : Ab) : Sh.f1c (.agg [.int .i64 bx, .int .i64 N]) H = some (.ret (.bool (Qf bx N)), H) := by
 unfold Sh.f1c Sh.f1b Qf
 by_cases h1 : bx ≥ 0
 ·by_cases h2 : bx ≤ 1000
  ·by_cases h3 : N ≥ 0
   ·simp only [GMb, GMc, HPa, HPc, HPd, HPe, HPz, Nat.reduceAdd, Nat.reduceLT, h1, h2, h3]
   ·simp only [GMb, GMc, HPa, HPc, HPd, HPe, HPz, Nat.reduceAdd, Nat.reduceLT, h1, h2, h3]
  ·simp only [GMb, GMc, HPa, HPc, HPd, HPe, HPz, Nat.reduceAdd, Nat.reduceLT, h1, h2]
 ·simp only [GMb, GMc, HPa, HPc, HPd, HPe, HPz, Nat.reduceAdd, Nat.reduceLT, h1]
theorem q11_wide (H : Ab) : Sh.ff H = some (.ret (.agg [.int .i64 1000, .int .i64 100000]), H) := by
 have hb : A3 (some [(.int .i64 0), (.int .i64 0)]) [(0, 1, (.int .i64 1000)), (1, 1, (.int .i64 100000))] = some (.agg [.int .i64 1000, .int .i64 100000]) := rfl
 unfold Sh.ff
 simp only [GMb, GMc, HPa, HPc, HPd, HPe, HPz, Nat.reduceAdd, Nat.reduceLT, hb]
def Ed (lines : List (Nat × Int)) : Nat := match lines.getLast? with
 | some q => q.1
 | none => 0
def GN : MSt := ⟨Da, [], []⟩
def JL (b : List UInt8) (bx N : Int) : (List UInt8 × List Nd) × Int × Int :=
 if Qf bx N then
  match Gf b N GN with
  | ((some e, c), _) => (([], []), (c : Int), e.1)
  | ((none, _), st) =>
   if Ls st.nodes (Ed st.lines : Int) && decide ((B7 st.nodes (Ed st.lines)).length ≤ N) then ((st.law, B7 st.nodes (Ed st.lines)), 0, 0)
   else (([], []), (b.length : Int), 4)
 else (([], []), 0, 1)
def Mi (r : (List UInt8 × List Nd) × Int × Int) : Aa := .tup [pat r.1.1 r.1.2, .int .i64 r.2.1, .int .i64 r.2.2]
theorem MZ (rule : List UInt8) (L : List Nd) : pat rule L = .agg [.str rule, .sl (enL cNd L) .no] := rfl
theorem PM (b : List UInt8) (N : Int) : ∀ k a st, a ≤ b.length → (BI b N k a st).2.nodes.length ≤ st.nodes.length + 21 * (b.length - a) ∧ (BI b N k a st).2.lines.length ≤ st.lines.length + (b.length - a)
 | 0, a, st, _ => ⟨Nat.le_add_right _ _, Nat.le_add_right _ _⟩
 | k + 1, a, st, h => by
  unfold BI
  by_cases he : a = b.length
  ·rw [if_pos he]; exact ⟨Nat.le_add_right _ _, Nat.le_add_right _ _⟩
  ·rw [if_neg he]
   have hok := oneS_ok (show a < b.length by omega) N st
   generalize IX b N a st = M at hok
   obtain ⟨⟨er, c⟩, st'⟩ := M
   obtain ⟨k1, k2, k3, k4⟩ := hok
   dsimp only at k1 k2 k3 k4 ⊢
   cases er with
   | some e => exact ⟨by dsimp only; omega, by dsimp only; omega⟩
   | none =>
    have := PM b N k c st' k1
    have := k2 rfl
    dsimp only
    omega
theorem allS_cnt (b : List UInt8) (N : Int) (st : MSt) : (Gf b N st).2.nodes.length ≤ st.nodes.length + 21 * b.length ∧ (Gf b N st).2.lines.length ≤ st.lines.length + b.length := by
 unfold Gf
 have hM := HK (Nat.zero_le b.length) C2
 have e : (B3 b 0 C2 []).2 = G2 b 0 C2 := rfl
 generalize B3 b 0 C2 [] = M at e
 obtain ⟨er, c⟩ := M
 dsimp only at e
 subst e
 cases er with
 | some e => exact ⟨Nat.le_add_right _ _, Nat.le_add_right _ _⟩
 | none =>
  have hle := endS_le (anyN_le hM) []
  dsimp only
  generalize G4 b (Ff b (G2 b 0 C2)) [] = M at hle
  obtain ⟨er, d⟩ := M
  cases er with
  | some e => exact ⟨Nat.le_add_right _ _, Nat.le_add_right _ _⟩
  | none =>
   have := PM b N (b.length + 1) d st hle.2
   dsimp only
   omega
theorem j1 {H K : Ab} {b : List UInt8} {c : Nat} {bx N : Int} {st : MSt} {v w : Aa} (hlim : K[H.length]? = some (.cel 0 [.int .i64 bx, .int .i64 N])) (hres : K[H.length + 1]? = some (.cel 0 [.str [], .sl [] .tight])) (hlx : K[H.length + 2]? = some (.cel 0 (.str b :: .int .i64 (c : Int) :: rdR bx N st.law v w)))
  (hrow : RS cNd As 5 H.length st.nodes v K) (hold : ∀ i, i < H.length → K[i]? = H[i]?) (hnd : st.nodes.length < 100000000000) :
  Sh.f4h H (.str b) (.ptr H.length 0 0) (.ptr (H.length + 1) 0 0) (.ptr (H.length + 2) 0 0) (.int .i64 (Ed st.lines : Int)) K = some (.ret (Mi (if Ls st.nodes (Ed st.lines : Int) && decide ((B7 st.nodes (Ed st.lines)).length ≤ N) then ((st.law, B7 st.nodes (Ed st.lines)), 0, 0) else (([], []), (b.length : Int), 4))), H) := by
 have b1 : A3 (some [(.str []), (.sl [] .tight)]) [] = some (.agg [.str [], .sl [] .tight]) := rfl
 have hl5 := Bw (o := 5) (sz := 1) hlx
 obtain ⟨tk, rfl⟩ := hrow.sl
 have hof := fun H => c06_of st.nodes tk (Ed st.lines : Int) H (by omega)
 have hKl : H.length + 2 < K.length := (List.getElem?_eq_some_iff.1 hlx).1
 rw [Int.toNat_natCast] at hof
 have bad : ∀ L : List Nd, ((A3 (some [(.str []), (.sl [] .tight)]) []).bind fun x64 =>
 (B5 (.str b)).bind fun x65 =>
 bP H (AL (Al 2 (.ptr (H.length + 1) 0 0) x64 (K ++ [.cel 0 [.sl (enL cNd L) .no]]))) fun _ H67 =>
 (Ll [Ad true 2 (.ptr (H.length + 1) 0 0) H67, some x65, some (.int .i64 4)]).bind fun x68 => rPN H x68 H67) = some (.ret (Mi (([], []), (b.length : Int), 4)), H) := by
  intro L
  have hr' := B6 (G := [Blk.cel 0 [.sl (enL cNd L) .no]]) hres
  have hst := st_agg (sz := 2) (ws := [.str [], .sl [] .tight]) hr' rfl rfl rfl
  have hld := PT (sz := 2) (H := (K ++ [Blk.cel 0 [.sl (enL cNd L) .no]]).set (H.length + 1) (.cel 0 [.str [], .sl [] .tight])) (p := H.length + 1) (cs := [.str [], .sl [] .tight]) (by rw [List.getElem?_set_self (by simp; omega)]) rfl
  have htk : ((K ++ [Blk.cel 0 [.sl (enL cNd L) .no]]).set (H.length + 1) (.cel 0 [.str [], .sl [] .tight])).take H.length = H := BX fun i hi => by rw [List.getElem?_set_ne (by omega), List.getElem?_append_left (by omega)]; exact hold i hi
  simp only [b1, GMb, GMc, HPa, HPc, HPd, HPe, HPz, Nat.reduceAdd, Nat.reduceLT, hst, hld, FF htk, Mi, MZ]
  rfl
 unfold Sh.f4h
 simp only [GMb, GMc, HPa, HPc, HPd, HPe, HPz, Nat.reduceAdd, Nat.reduceLT, hl5, rdR, Ca, DY, hof]
 cases hok : Ls st.nodes (Ed st.lines : Int) with
 | false =>
  have := bad []
  simp only [GMb, GMc, HPa, HPc, HPd, HPe, HPz, Nat.reduceAdd, Nat.reduceLT, OI, Bool.false_eq_true, if_false, show decide ((1 : Int) = 0) = false from by decide] at this ⊢
  exact this
 | true =>
  generalize B7 st.nodes (Ed st.lines) = Q
  have hlim' := Bw (o := 1) (sz := 1) (B6 (G := [Blk.cel 0 [.sl (enL cNd Q) .no]]) hlim)
  simp only [GMb, GMc, HPa, HPc, HPd, HPe, HPz, Nat.reduceAdd, Nat.reduceLT, OI, if_true, A2, hlim', Ca, DY]
  by_cases hlen : (Q.length : Int) ≤ N
  ·have hgt : ¬ (Q.length : Int) > N := by omega
   have hr' := B6 (G := [Blk.cel 0 [.sl (enL cNd Q) .no]]) hres
   have hst := st_agg (sz := 2) (ws := [.str st.law, .sl (enL cNd Q) .no]) hr' rfl rfl rfl
   have hld := PT (sz := 2) (H := (K ++ [Blk.cel 0 [.sl (enL cNd Q) .no]]).set (H.length + 1) (.cel 0 [.str st.law, .sl (enL cNd Q) .no])) (p := H.length + 1) (cs := [.str st.law, .sl (enL cNd Q) .no]) (by rw [List.getElem?_set_self (by simp; omega)]) rfl
   have htk : ((K ++ [Blk.cel 0 [.sl (enL cNd Q) .no]]).set (H.length + 1) (.cel 0 [.str st.law, .sl (enL cNd Q) .no])).take H.length = H := BX fun i hi => by rw [List.getElem?_set_ne (by omega), List.getElem?_append_left (by omega)]; exact hold i hi
   have hl4 := Bw (o := 4) (sz := 1) (B6 (G := [Blk.cel 0 [.sl (enL cNd Q) .no]]) hlx)
   have hbd : A3 (some [(.str []), (.sl [] .tight)]) [(0, 1, .str st.law), (1, 1, .agg [.sl (enL cNd Q) .no])] = some (.agg [.str st.law, .sl (enL cNd Q) .no]) := rfl
   simp only [hgt, hlen, GMb, GMc, HPa, HPc, HPd, HPe, HPz, Nat.reduceAdd, Nat.reduceLT, hl4, rdR, Ca, DY, hbd, hst, hld, FF htk, Mi, MZ, if_true]
  ·have hgt : (Q.length : Int) > N := by omega
   have := bad Q
   simp only [hgt, hlen, GMb, GMc, HPa, HPc, HPd, HPe, HPz, Nat.reduceAdd, Nat.reduceLT, Bool.false_eq_true, if_false] at this ⊢
   exact this
theorem C8 (b : List UInt8) (bx N : Int) (H : Ab) (hb : b.length < 100000000) : Sh.fi (.str b) (.agg [.int .i64 bx, .int .i64 N]) H = some (.ret (Mi (JL b bx N)), H) := by
 have b1 : A3 (some [(.str []), (.sl [] .tight)]) [] = some (.agg [.str [], .sl [] .tight]) := rfl
 have b2 : ∀ s, A3 (some [(.str []), (.int .i64 0)]) [(0, 1, .str s)] = some (.agg [.str s, .int .i64 0]) := fun _ => rfl
 have b3 : ∀ s, A3 (some [(.str []), (.int .i64 0), (.int .i64 0), (.int .i64 0), (.str []), (.sl [] .tight), (.sl [] .tight)]) [(0, 2, .agg [.str s, .int .i64 0]), (2, 2, .agg [.int .i64 bx, .int .i64 N]), (4, 1, (.str [66, 51, 47, 83, 50, 51]))] = some (.agg [.str s, .int .i64 0, .int .i64 bx, .int .i64 N, .str Da, .sl [] .tight, .sl [] .tight]) := fun _ => rfl
 unfold Sh.fi JL
 simp only [GMb, GMc, HPa, HPc, HPd, HPe, HPz, Nat.reduceAdd, Nat.reduceLT, p_fine]
 cases hf : Qf bx N with
 | false =>
  simp only [GMb, GMc, HPa, HPc, HPd, HPe, HPz, Nat.reduceAdd, Nat.reduceLT, b1, Bool.false_eq_true, if_false, Mi, MZ]
  rfl
 | true =>
  simp only [GMb, GMc, HPa, HPc, HPd, HPe, HPz, Nat.reduceAdd, Nat.reduceLT, b2, b3, if_true]
  obtain ⟨F, hF⟩ : ∃ F : Ab, F = H ++ [.cel 0 [.int .i64 bx, .int .i64 N], .cel 0 [.str [], .sl [] .tight], .cel 0 [.str b, .int .i64 0, .int .i64 bx, .int .i64 N, .str Da, .sl [] .tight, .sl [] .tight]] := ⟨_, rfl⟩
  have hR : RD H.length (H.length + 2) b 0 bx N GN F := ⟨.sl [] .tight, .sl [] .tight, by omega, by unfold Lx; rw [hF]; simp [rdR, GN], .inl ⟨rfl, rfl⟩, .inl ⟨rfl, rfl⟩⟩
  obtain ⟨H1, c1, c2, c3⟩ := Rk hR (by omega) rfl rfl
  rw [hF] at c1
  have hlim : H1[H.length]? = some (.cel 0 [.int .i64 bx, .int .i64 N]) := c2.cel _ _ (by omega) (by rw [hF]; simp)
  have hres : H1[H.length + 1]? = some (.cel 0 [.str [], .sl [] .tight]) := c2.cel _ _ (by omega) (by rw [hF]; simp)
  have hold : ∀ i, i < H.length → H1[i]? = H[i]? := fun i hi => by rw [c2.old i hi, hF, List.getElem?_append_left hi]
  simp only [c1, GMb, GMc]
  have hpos := allS_er b N GN
  have hcnt := allS_cnt b N GN
  generalize Gf b N GN = A at c3 hpos hcnt
  obtain ⟨⟨er, c⟩, st⟩ := A
  dsimp only at c3 ⊢
  obtain ⟨v, w, c3⟩ := c3
  have hl1 := (List.getElem?_eq_some_iff.1 hres).1
  cases er with
  | some e =>
   have hpe := hpos e rfl
   have hres' := B6 (G := [Blk.cel 0 [.int .i64 e.1, .str e.2]]) hres
   have hst := st_agg (sz := 2) (ws := [.str [], .sl [] .tight]) hres' rfl rfl rfl
   have hset : (H1 ++ [Blk.cel 0 [.int .i64 e.1, .str e.2]]).set (H.length + 1) (.cel 0 [.str [], .sl [] .tight]) = H1 ++ [Blk.cel 0 [.int .i64 e.1, .str e.2]] := by
    apply List.ext_getElem?
    intro i
    by_cases hi : H.length + 1 = i
    ·subst hi
     rw [List.getElem?_set_self (by simp; omega), hres']
    ·rw [List.getElem?_set_ne hi]
   rw [hset] at hst
   have hld := PT (sz := 2) hres' rfl
   have hat := Bw (o := 1) (sz := 1) (B6 (G := [Blk.cel 0 [.int .i64 e.1, .str e.2]]) c3.lx)
   have htk : (H1 ++ [Blk.cel 0 [.int .i64 e.1, .str e.2]]).take H.length = H := BX fun i hi => by rw [List.getElem?_append_left (by omega)]; exact hold i hi
   by_cases he : e.1 = 0
   ·exact absurd he (by omega)
   ·have hne : (!decide (e.1 = 0)) = true := by simp [he]
    simp only [R0, GMb, GMc, HPa, HPc, HPd, HPe, HPz, Nat.reduceAdd, Nat.reduceLT, hne, b1, hst, hat, Ca, DY, hld, FF htk, Mi, MZ]
    rfl
  | none =>
   have hnd : st.nodes.length < 100000000000 := by have := hcnt.1; dsimp only [GN] at this; simp only [List.length_nil] at this; omega
   have hln : st.lines.length < 100000000000 := by have := hcnt.2; dsimp only [GN] at this; simp only [List.length_nil] at this; omega
   have hlines := c3.lines
   have hld6 := Bw (o := 6) (sz := 1) (B6 (G := [Blk.cel 0 [.int .i64 0, .str []]]) c3.lx)
   have hroot := j1 (H := H) (b := b) (c := c) (bx := bx) (N := N) (st := st) (v := v) (w := w) (K := H1 ++ [Blk.cel 0 [.int .i64 0, .str []]]) (B6 hlim) (B6 hres) (B6 c3.lx) (c3.nodes.left _) (fun i hi => by rw [List.getElem?_append_left (by omega)]; exact hold i hi) hnd
   simp only [R0, GMb, GMc, HPa, HPc, HPd, HPe, HPz, Nat.reduceAdd, Nat.reduceLT, hld6, rdR, Ca, DY, hlines.len]
   by_cases hl0 : 0 < st.lines.length
   ·have hl0' : (st.lines.length : Int) > 0 := by omega
    have hlt : st.lines.length - 1 < st.lines.length := by omega
    have hw : IntKind.i64.wrap ((st.lines.length : Int) - 1) = ((st.lines.length - 1 : Nat) : Int) := Dq (by omega) (by have := hln; omega)
    have hr : Ed st.lines = st.lines[st.lines.length - 1].1 := by
     unfold Ed
     rw [List.getLast?_eq_getElem?, List.getElem?_eq_getElem hlt]
    simp only [hl0', GMb, GMc, HPa, HPc, HPd, HPe, HPz, Nat.reduceAdd, Nat.reduceLT, hld6, rdR, Ca, DY, hlines.len, hw, hlines.idx hlt, Ai, Au, lnC]
    rw [← hr]
    exact hroot
   ·have hl0' : ¬ (st.lines.length : Int) > 0 := by omega
    have hr : Ed st.lines = 0 := by
     unfold Ed
     rw [List.getLast?_eq_getElem?, List.getElem?_eq_none (by omega)]
    simp only [hl0', GMb, GMc]
    rw [hr] at hroot ⊢
    exact hroot
def hintR (b : List UInt8) : List UInt8 × Bool := match (Gf b 100000 ⟨[], [], []⟩).1.1 with
 | none => ([], true)
 | some e => (e.2, decide (e.1 = 0) || decide (e.1 = 3))
theorem Mk (b : List UInt8) (H : Ab) (hb : b.length < 100000000) : Sh.fm (.str b) H = some (.ret (.tup [.str (hintR b).1, .bool (hintR b).2]), H) := by
 have b2 : ∀ s, A3 (some [(.str []), (.int .i64 0)]) [(0, 1, .str s)] = some (.agg [.str s, .int .i64 0]) := fun _ => rfl
 have b4 : A3 (some [(.int .i64 0), (.int .i64 0)]) [(0, 1, (.int .i64 1000)), (1, 1, (.int .i64 100000))] = some (.agg [.int .i64 1000, .int .i64 100000]) := rfl
 have b3 : ∀ s, A3 (some [(.str []), (.int .i64 0), (.int .i64 0), (.int .i64 0), (.str []), (.sl [] .tight), (.sl [] .tight)]) [(0, 2, .agg [.str s, .int .i64 0]), (2, 2, .agg [.int .i64 1000, .int .i64 100000])] = some (.agg [.str s, .int .i64 0, .int .i64 1000, .int .i64 100000, .str [], .sl [] .tight, .sl [] .tight]) := fun _ => rfl
 unfold Sh.fm hintR
 simp only [GMb, GMc, HPa, HPc, HPd, HPe, HPz, Nat.reduceAdd, Nat.reduceLT, b2, b3, b4]
 obtain ⟨F, hF⟩ : ∃ F : Ab, F = H ++ [.cel 0 [.str b, .int .i64 0, .int .i64 1000, .int .i64 100000, .str [], .sl [] .tight, .sl [] .tight]] := ⟨_, rfl⟩
 have hR : RD H.length H.length b 0 1000 100000 ⟨[], [], []⟩ F := ⟨.sl [] .tight, .sl [] .tight, Nat.le_refl _, by unfold Lx; rw [hF]; simp [rdR], .inl ⟨rfl, rfl⟩, .inl ⟨rfl, rfl⟩⟩
 obtain ⟨H1, c1, c2, c3⟩ := Rk hR (by omega) rfl rfl
 rw [hF] at c1
 have hlen : H.length ≤ H1.length := by have := c2.len; rw [hF] at this; simp at this; omega
 have hold : ∀ i, i < H.length → H1[i]? = H[i]? := fun i hi => by rw [c2.old i hi, hF, List.getElem?_append_left hi]
 have htk : ∀ G, (H1 ++ G).take H.length = H := fun G => BX fun i hi => by rw [List.getElem?_append_left (by omega)]; exact hold i hi
 simp only [c1, GMb, GMc]
 cases (Gf b 100000 ⟨[], [], []⟩).1.1 with
 | none =>
  simp only [R0, GMb, GMc, HPa, HPc, HPd, HPe, HPz, Nat.reduceAdd, Nat.reduceLT]
  exact ED rfl (htk _)
 | some e =>
  by_cases h0 : e.1 = 0
  ·simp only [R0, GMb, GMc, HPa, HPc, HPd, HPe, HPz, Nat.reduceAdd, Nat.reduceLT, h0]
   exact ED rfl (htk _)
  ·simp only [R0, GMb, GMc, HPa, HPc, HPd, HPe, HPz, Nat.reduceAdd, Nat.reduceLT, h0]
   exact ED rfl (htk _)
end Go.Gm
namespace Go.Gm
def finR (b : List UInt8) (N : Int) (A : (Er × Nat) × MSt) : (List UInt8 × List Nd) × Int × Int :=
 match A with
 | ((some e, c), _) => (([], []), (c : Int), e.1)
 | ((none, _), st) =>
  if Ls st.nodes (Ed st.lines : Int) && decide ((B7 st.nodes (Ed st.lines)).length ≤ N) then ((st.law, B7 st.nodes (Ed st.lines)), 0, 0)
  else (([], []), (b.length : Int), 4)
theorem readR_eq (b : List UInt8) (bx N : Int) : JL b bx N = if Qf bx N then finR b N (Gf b N GN) else (([], []), 0, 1) := rfl
structure RI (H : Ab) (b : List UInt8) (bx N : Int) (er : Er) (c : Nat) (st : MSt) (v1 v2 v3 : Aa) (K : Ab) : Prop where
 lim : K[H.length]? = some (.cel 0 [.int .i64 bx, .int .i64 N])
 res : K[H.length + 1]? = some (.cel 0 [.str [], .sl [] .tight])
 cur : K[H.length + 2]? = some (.cel 0 [.str b, .int .i64 (c : Int), .int .i64 (codeR er)])
 stt : K[H.length + 3]? = some (.cel 0 (sttC st.law v1 v2 v3))
 old : ∀ i, i < H.length → K[i]? = H[i]?
 sr : SR H.length st v1 v2 v3 K
section
variable {H : Ab} {b : List UInt8} {bx N : Int} {er : Er} {c : Nat} {st : MSt} {v1 v2 v3 : Aa} {K : Ab}
theorem RI.len (h : RI H b bx N er c st v1 v2 v3 K) : H.length + 3 < K.length := (List.getElem?_eq_some_iff.1 h.stt).1
theorem RI.ble (h : RI H b bx N er c st v1 v2 v3 K) : H.length ≤ K.length := by have := h.len; omega
theorem RI.go (h : RI H b bx N er c st v1 v2 v3 K) {K' : Ab} (hk : Kp H.length K K') {er' : Er} {c' : Nat} {st' : MSt} {w1 w2 w3 : Aa} (hs : SR H.length st' w1 w2 w3 K') :
  RI H b bx N er' c' st' w1 w2 w3 ((K'.set (H.length + 2) (.cel 0 [.str b, .int .i64 (c' : Int), .int .i64 (codeR er')])).set (H.length + 3) (.cel 0 (sttC st'.law w1 w2 w3))) := by
 have hl := h.len
 have := hk.len
 have k2 := hk.cel _ _ h.cur
 have k3 := hk.cel _ _ h.stt
 have k3' : (K'.set (H.length + 2) (.cel 0 [.str b, .int .i64 (c' : Int), .int .i64 (codeR er')]))[H.length + 3]? = some (.cel 0 (sttC st.law v1 v2 v3)) := by rw [List.getElem?_set_ne (by omega)]; exact k3
 refine ⟨?_, ?_, ?_, ?_, fun i hi => ?_, (hs.put k2).put k3'⟩
 ·rw [List.getElem?_set_ne (by omega), List.getElem?_set_ne (by omega)]; exact hk.cel _ _ h.lim
 ·rw [List.getElem?_set_ne (by omega), List.getElem?_set_ne (by omega)]; exact hk.cel _ _ h.res
 ·rw [List.getElem?_set_ne (by omega), List.getElem?_set_self (by omega)]
 ·rw [List.getElem?_set_self (by rw [List.length_set]; omega)]
 ·rw [List.getElem?_set_ne (by omega), List.getElem?_set_ne (by omega), hk.old i hi]; exact h.old i hi
end
end Go.Gm
namespace Go.Gm
def hdS (b : List UInt8) : Er × Nat := match B3 b 0 C2 [] with
 | (some e, c) => (some e, c)
 | (none, c) => G4 b (Ff b c) []
theorem RT (b : List UInt8) (N : Int) (st : MSt) : Gf b N st = match hdS b with
 | (some e, c) => ((some e, c), st)
 | (none, d) => BI b N (b.length + 1) d st := by
 unfold Gf hdS
 generalize B3 b 0 C2 [] = M
 obtain ⟨er, c⟩ := M
 cases er with
 | some e => rfl
 | none =>
  dsimp only
  generalize G4 b (Ff b c) [] = E
  obtain ⟨er, d⟩ := E
  cases er <;> rfl
end Go.Gm
namespace Go.Gm
end Go.Gm
namespace Go.Gm
end Go.Gm
namespace Go.Gm
end Go.Gm
namespace Go.Gm
theorem qright_loose {L : List Nd} (h : CU L = true) : Ar L = true := by
 simp only [CU, Bool.or_eq_true, decide_eq_true_eq, Bool.and_eq_true] at h
 rcases h with h | h
 ·subst h; rfl
 ·exact h.1.1.1
end Go.Gm
namespace Go.Gm
end Go.Gm
namespace Go.Gm
end Go.Gm
namespace Go.Gm
end Go.Gm
namespace Go.Gm
end Go.Gm
namespace Go.Gm
theorem sb_lt10 {z : Int} {k m : Nat} (h : SB k z) (hk : 10 * k ≤ m) : z.natAbs < 10 ^ m := Nat.lt_of_lt_of_le h (pow10_le hk)
theorem MV {z : Int} (h : SB 44 z) : z.natAbs < 10 ^ 4096 ∧ (G5 z).length ≤ 5000 := by
 have h1 : z.natAbs < 10 ^ 4096 := sb_lt10 (m := 4096) h (by decide)
 refine ⟨h1, ?_⟩
 have := ND 4096 z.natAbs h1
 simp only [show ¬ ((4096 : Nat) = 0) by decide, if_false] at this
 unfold G5
 split
 ·simp; omega
 ·omega
end Go.Gm
namespace Go.Gm
end Go.Gm
namespace Go.Gm
end Go.Gm
namespace Go.Gm
end Go.Gm
namespace Go.Gm
end Go.Gm
namespace Go.Gm
theorem Oa {ι : Type} {G : ι → LK → LK} {σ : Type} (I : σ → List Aa → Ab → Prop) (μ : σ → Nat) (done : σ → Prop)
  (turn : ∀ (s : σ) (vs : List Aa) (H : Ab), I s vs H → ¬ done s → ∃ s' vs' H', μ s' < μ s ∧ I s' vs' H' ∧ ∀ (i : ι) (rec : LK), G i rec vs H = rec vs' H')
  {s : σ} {vs : List Aa} {H : Ab} (h0 : I s vs H) (hm : μ s < 1152921504606846976) : ∃ s' vs' H', done s' ∧ I s' vs' H' ∧ ∀ i, ∃ rec, Ao (G i) AI vs H = G i rec vs' H' := by
 have key : ∀ (n : Nat) (s : σ) (vs : List Aa) (H : Ab), μ s < n → I s vs H → ∃ s' vs' H', done s' ∧ I s' vs' H' ∧ ∀ i, ∃ rec, Ao (G i) n vs H = G i rec vs' H' := by
  intro n
  induction n with
  | zero => intro s vs H hn _; omega
  | succ n ih =>
   intro s vs H hn hI
   by_cases hd : done s
   ·exact ⟨s, vs, H, hd, hI, fun i => ⟨Ao (G i) n, DV n vs H⟩⟩
   ·obtain ⟨s1, vs1, H1, h1, h2, h3⟩ := turn s vs H hI hd
    obtain ⟨s2, vs2, H2, h4, h5, h6⟩ := ih s1 vs1 H1 (by omega) h2
    exact ⟨s2, vs2, H2, h4, h5, fun i => (h6 i).imp fun rec h7 => by rw [DV, h3, h7]⟩
 exact key AI s vs H (by rw [Dj]; exact hm) h0
theorem loop_while {G : LK → LK} {σ : Type} (I : σ → List Aa → Ab → Prop) (μ : σ → Nat) (done : σ → Prop)
  (turn : ∀ (s : σ) (vs : List Aa) (H : Ab), I s vs H → ¬ done s → ∃ s' vs' H', μ s' < μ s ∧ I s' vs' H' ∧ ∀ rec : LK, G rec vs H = rec vs' H')
  {s : σ} {vs : List Aa} {H : Ab} (h0 : I s vs H) (hm : μ s < 1152921504606846976) : ∃ s' vs' H', done s' ∧ I s' vs' H' ∧ ∃ rec, Ao G AI vs H = G rec vs' H' := by
 obtain ⟨s', vs', H', h1, h2, h3⟩ := Oa (G := fun (_ : Unit) => G) I μ done (fun s vs H hI hd => by
  obtain ⟨s1, vs1, H1, h1, h2, h3⟩ := turn s vs H hI hd
  exact ⟨s1, vs1, H1, h1, h2, fun _ => h3⟩) h0 hm
 exact ⟨s', vs', H', h1, h2, h3 ()⟩
theorem Kp.get {b p : Nat} {H H' : Ab} {cs : List Aa} (h : Kp b H H') (hp : H[p]? = some (.cel 0 cs)) : H'[p]? = some (.cel 0 cs) := h.cel p cs hp
end Go.Gm
namespace Go.Gm
end Go.Gm
namespace Go.Gm
end Go.Gm
namespace Go.Gm
end Go.Gm
namespace Go.Gm
theorem RS.app {α : Type} {f : α → List Aa} {ty : TypeId} {sz : Nat} [hf : Sz f sz] {bytes b : Nat} {out : List α} {v : Aa} {H : Ab} (h : RS f ty sz b out v H) (hb : b ≤ H.length) (m : List α) (tk : Tok) (hl : (out.length + m.length) * bytes ≤ 140737488355328) (hl2 : out.length + m.length ≤ 140737488355328) :
  ∃ v' H', AG ty sz bytes v (.sl (enL f m) tk) H = some (v', H') ∧ RS f ty sz b (out ++ m) v' H' ∧ Kp b H H' := by
 by_cases hm : m = []
 ·subst hm
  have hx : (BE sz v H).isSome = true := by
   obtain ⟨tk', rfl⟩ := h.sl
   rw [elems_sl]; rfl
  refine ⟨v, H, FT hx, by rw [List.append_nil]; exact h, Kp.refl _ _⟩
 ·rcases h with ⟨rfl, rfl⟩ | ⟨t, h1, rfl, h3⟩
  ·have := Cv (f := f) (l := []) (m := m) (ty := ty) (bytes := bytes) (tk := tk) (H := H) hm (by simpa using hl) (by simpa using hl2)
   exact ⟨_, _, this, .inr ⟨H.length, hb, rfl, by simp⟩, Kp.app hb _⟩
  ·have := DQ (f := f) (l := out) (m := m) (ty := ty) (bytes := bytes) (tk := tk) (H := H) (t := t) hm h3 hl hl2
   have htl := (List.getElem?_eq_some_iff.1 h3).1
   refine ⟨_, _, this, .inr ⟨t, h1, rfl, by simp [htl]⟩, ⟨by simp, fun i cs hc => ?_, fun i hi => ?_⟩⟩
   ·have : t ≠ i := fun e => by rw [← e, h3] at hc; cases hc
    rw [List.getElem?_set_ne this]; exact hc
   ·rw [List.getElem?_set_ne (by omega)]
end Go.Gm
namespace Go.Gm
end Go.Gm
namespace Go.Gm
end Go.Gm
namespace Go.Gm
def ndL (v : Int) : Nd := ⟨v, 0, 0, 0, 0⟩
def EY (o : Nd) (l : List Nd) : Nat → List Nd × Nd
 | 0 => (l, ndL (o.lv + 1))
 | k + 1 => if o.kid k = 0 then EY o l k else ((EY o l k).1 ++ [(ndL o.lv).setKid (3 - k) (o.kid k)], (EY o l k).2.setKid k (((EY o l k).1.length + 1 : Nat) : Int))
def Ce (l : List Nd) : List Nd := (EY (Ak l l.length) l 4).1 ++ [(EY (Ak l l.length) l 4).2]
def FJ (level : Int) : Nat → List Nd → List Nd
 | 0, l => l
 | d + 1, l => if (Ak l l.length).lv < level then FJ level d (Ce l) else l
def Fr (L : List Nd) (level : Int) : List Nd := if level > 1329 ∨ L = [] then L else FJ level 1400 L
theorem ndL_kid (v : Int) {k : Nat} (hk : k < 4) : (ndL v).kid k = 0 := by
 match k, hk with
 | 0, _ => rfl
 | 1, _ => rfl
 | 2, _ => rfl
 | 3, _ => rfl
theorem OJ {L : List Nd} {x : Nd} (h1 : 1 ≤ x.lv) (h2 : x.lv ≤ 1329) (h : ∀ k, k < 4 → 0 ≤ x.kid k ∧ (x.lv = 1 → x.kid k ≤ 255) ∧ (1 < x.lv → 0 < x.kid k → x.kid k ≤ L.length ∧ ∀ y, L[(x.kid k - 1).toNat]? = some y → y.lv = x.lv - 1)) : D9 (L ++ [x]) L.length = true := by
 have e : (L ++ [x])[L.length]? = some x := by simp
 unfold D9
 rw [e]
 simp only [Bool.and_eq_true, decide_eq_true_eq, List.all_eq_true, List.mem_range]
 refine ⟨⟨h1, h2⟩, fun k hk => ?_⟩
 obtain ⟨q1, q2, q3⟩ := h k hk
 simp only [BS, Bool.and_eq_true, decide_eq_true_eq]
 refine ⟨⟨q1, q2⟩, fun a b => ⟨(q3 a b).1, fun y hy => (q3 a b).2 y ?_⟩⟩
 rw [List.getElem?_append_left (by have := (q3 a b).1; omega)] at hy
 exact hy
structure GrowI (o : Nd) (l : List Nd) (k : Nat) (r : List Nd × Nd) : Prop where
 pre : ∃ e, r.1 = l ++ e ∧ e.length ≤ k
 loose : Ar r.1 = true
 lv : r.2.lv = o.lv + 1
 kids : ∀ j, j < 4 → r.2.kid j = 0 ∨ (0 < r.2.kid j ∧ r.2.kid j ≤ r.1.length ∧ ∀ y, r.1[(r.2.kid j - 1).toNat]? = some y → y.lv = o.lv)
theorem Qb {l : List Nd} (hl : Ar l = true) (h0 : 0 < l.length) : ∀ k, k ≤ 4 → GrowI (Ak l l.length) l k (EY (Ak l l.length) l k)
 | 0, _ => ⟨⟨[], by simp [EY], by simp⟩, hl, rfl, fun j hj => .inl (ndL_kid _ hj)⟩
 | k + 1, hk => by
  have ih := Qb hl h0 k (by omega)
  have hnd : Ak l (l.length : Int) = l[l.length - 1] := BP (by omega) (by omega)
  obtain ⟨l1, l2, l3⟩ := Ax hl (show l.length - 1 < l.length by omega)
  rw [← hnd] at l1 l2 l3
  unfold EY
  generalize Ak l (l.length : Int) = o at *
  by_cases hc : o.kid k = 0
  ·rw [if_pos hc]
   obtain ⟨⟨e, e1, e2⟩, h2, h3, h4⟩ := ih
   exact ⟨⟨e, e1, by omega⟩, h2, h3, h4⟩
  ·rw [if_neg hc]
   obtain ⟨⟨e, e1, e2⟩, h2, h3, h4⟩ := ih
   generalize EY o l k = r at *
   have hlen : r.1.length = l.length + e.length := by rw [e1]; simp
   have hlo : Ar (r.1 ++ [(ndL o.lv).setKid (3 - k) (o.kid k)]) = true := by
    refine EF h2 (OJ (by rw [Dt]; exact l1) (by rw [Dt]; exact l2) fun j hj => ?_)
    rw [Dt]
    show 0 ≤ _ ∧ (o.lv = 1 → _) ∧ (1 < o.lv → _)
    by_cases hj2 : j = 3 - k
    ·rw [hj2, JG _ _ (by omega)]
     obtain ⟨q1, q2, q3⟩ := l3 k (by omega)
     refine ⟨q1, q2, fun a b => ?_⟩
     obtain ⟨q4, q5⟩ := q3 a b
     refine ⟨by omega, fun y hy => q5 y ?_⟩
     rw [e1, List.getElem?_append_left (by omega)] at hy
     exact hy
    ·rw [Ds _ _ (by omega) hj hj2, ndL_kid _ hj]
     exact ⟨Int.le_refl _, fun _ => by omega, fun _ b => absurd b (by omega)⟩
   refine ⟨⟨e ++ [(ndL o.lv).setKid (3 - k) (o.kid k)], by rw [e1, List.append_assoc], by simp; omega⟩, hlo, by rw [Dt]; exact h3, fun j hj => ?_⟩
   by_cases hj2 : j = k
   ·subst hj2
    rw [JG _ _ hj]
    refine .inr ⟨by omega, by simp, fun y hy => ?_⟩
    have : (((r.1.length + 1 : Nat) : Int) - 1).toNat = r.1.length := by omega
    rw [this] at hy
    simp at hy
    rw [← hy, Dt]; rfl
   ·rw [Ds _ _ (by omega) hj hj2]
    rcases h4 j hj with h5 | ⟨h5, h6, h7⟩
    ·exact .inl h5
    ·refine .inr ⟨h5, by simp; omega, fun y hy => h7 y ?_⟩
     rw [List.getElem?_append_left (by omega)] at hy
     exact hy
theorem Og {l : List Nd} (hl : Ar l = true) (h0 : 0 < l.length) (hv : (Ak l l.length).lv < 1329) : Ar (Ce l) = true ∧ (∃ e, Ce l = l ++ e ∧ e.length ≤ 5) ∧ 0 < (Ce l).length ∧ (Ak (Ce l) (Ce l).length).lv = (Ak l l.length).lv + 1 := by
 have hI := Qb hl h0 4 (Nat.le_refl _)
 have hnd : Ak l (l.length : Int) = l[l.length - 1] := BP (by omega) (by omega)
 obtain ⟨l1, l2, l3⟩ := Ax hl (show l.length - 1 < l.length by omega)
 rw [← hnd] at l1 l2 l3
 unfold Ce
 generalize Ak l (l.length : Int) = o at *
 obtain ⟨⟨e, e1, e2⟩, h2, h3, h4⟩ := hI
 generalize EY o l 4 = r at *
 refine ⟨EF h2 (OJ (by rw [h3]; omega) (by rw [h3]; omega) fun j hj => ?_), ⟨e ++ [r.2], by rw [e1, List.append_assoc], by simp; omega⟩, by simp, ?_⟩
 ·rw [h3]
  rcases h4 j hj with h5 | ⟨h5, h6, h7⟩
  ·rw [h5]; exact ⟨Int.le_refl _, fun _ => by omega, fun _ b => absurd b (by omega)⟩
  ·exact ⟨by omega, fun a => by omega, fun _ _ => ⟨h6, fun y hy => by rw [h7 y hy]; omega⟩⟩
 ·have : Ak (r.1 ++ [r.2]) ((r.1 ++ [r.2]).length : Int) = r.2 := by
   rw [BP (n := r.1.length) (by simp) (by simp)]; simp
  rw [this, h3]
theorem RO (v : Int) : A3 (some [(.int .i64 0), (.int .i64 0), (.int .i64 0), (.int .i64 0), (.int .i64 0)]) [(0, 1, .int .i64 v)] = some (.agg (cNd (ndL v))) := by
 simp [A3, GW, DI, ndL, cNd]
theorem grow_turn {l : List Nd} {o : Nd} {H Hd : Ab} {vo : Aa} {k p : Nat} {lev : Aa} {r : List Nd × Nd} (hk : k < 4) (hL : l.length < 549755813888) (h0 : 0 < l.length) (ho : l[l.length - 1] = o) (hpre : ∃ e, r.1 = l ++ e ∧ e.length ≤ k)
  (hp : H.length ≤ p) (fp : Hd[p]? = some (.cel 0 (cNd r.2))) (hR : RS cNd As 5 H.length r.1 vo Hd) (hlen : H.length ≤ Hd.length) :
  ∃ v' H', RS cNd As 5 H.length (if o.kid k = 0 then r else (r.1 ++ [(ndL o.lv).setKid (3 - k) (o.kid k)], r.2.setKid k ((r.1.length + 1 : Nat) : Int))).1 v' H' ∧
   H'[p]? = some (.cel 0 (cNd (if o.kid k = 0 then r else (r.1 ++ [(ndL o.lv).setKid (3 - k) (o.kid k)], r.2.setKid k ((r.1.length + 1 : Nat) : Int))).2)) ∧ (∀ i, i < H.length → H'[i]? = Hd[i]?) ∧ H.length ≤ H'.length ∧
   ∀ rec1 rec2 : LK, Sh.f25 H rec1 rec2 lev vo (.int .i64 (l.length : Int)) (.ptr p 0 0) (.int .i64 (k : Int)) Hd = rec2 [lev, v', .int .i64 (l.length : Int), .ptr p 0 0, .int .i64 ((k + 1 : Nat) : Int)] H' := by
 obtain ⟨e, e1, e2⟩ := hpre
 have hk' : (k : Int) < 4 := by omega
 have hwk := Av (show k < 9223372036854775807 by omega)
 have hwn := Dq h0 (show l.length < 9223372036854775807 by omega)
 have hrl : r.1.length = l.length + e.length := by rw [e1]; simp
 have hni : l.length - 1 < r.1.length := by omega
 have hro : r.1[l.length - 1] = o := by
  have : r.1[l.length - 1]? = some o := by rw [e1, List.getElem?_append_left (by omega), List.getElem?_eq_getElem (by omega), ho]
  rw [List.getElem?_eq_getElem hni] at this
  exact Option.some.inj this
 obtain ⟨tk, rfl⟩ := hR.sl
 by_cases hc : o.kid k = 0
 ·rw [if_pos hc]
  refine ⟨_, Hd, hR, fp, fun i hi => rfl, hlen, fun rec1 rec2 => ?_⟩
  unfold Sh.f25
  simp only [GMb, GMc, hk', hwn, Aw hni, hro, Ai, CB hk, Au, Nat.zero_add, Nat.mul_one, Cy hk, hc, Ay, Sh.f4j, hwk]
 ·rw [if_neg hc]
  have hR' := hR.left [Blk.cel 0 (cNd ((ndL o.lv).setKid (3 - k) (o.kid k)))]
  obtain ⟨v', H', a1, a2, a3⟩ := hR'.snoc (bytes := 40) (by simp; omega) ((ndL o.lv).setKid (3 - k) (o.kid k)) .tight (by omega) (by omega)
  obtain ⟨tk', rfl⟩ := a2.sl
  have fp2 := a3.cel p _ (B6 fp)
  have hpl := (List.getElem?_eq_some_iff.1 fp2).1
  have hlen2 : H.length ≤ H'.length := by have := a3.len; simp at this; omega
  refine ⟨_, H'.set p (.cel 0 (cNd (r.2.setKid k ((r.1.length + 1 : Nat) : Int)))), a2.put fp2, by rw [List.getElem?_set_self hpl], fun i hi => ?_, by simpa using hlen2, fun rec1 rec2 => ?_⟩
  ·rw [List.getElem?_set_ne (by omega), a3.old i hi, List.getElem?_append_left (by omega)]
  ·have s1 : Al 5 (.ptr Hd.length 0 0) (.agg (cNd (ndL o.lv))) (Hd ++ [.cel 0 (cNd nd0)]) = some (Hd ++ [.cel 0 (cNd (ndL o.lv))]) := by rw [DT A9 rfl, BJ]
   have s2 : Al 1 (.ptr Hd.length 0 (1 + (3 - k))) (.int .i64 (o.kid k)) (Hd ++ [.cel 0 (cNd (ndL o.lv))]) = some (Hd ++ [.cel 0 (cNd ((ndL o.lv).setKid (3 - k) (o.kid k)))]) := by rw [Cw A9 (by omega), BJ]
   have s3 : Ad true 5 (.ptr Hd.length 0 0) (Hd ++ [.cel 0 (cNd ((ndL o.lv).setKid (3 - k) (o.kid k)))]) = some (.agg (cNd ((ndL o.lv).setKid (3 - k) (o.kid k)))) := CK A9
   have s4 := Cw (c := ((r.1.length + 1 : Nat) : Int)) fp2 hk
   have hw3 : IntKind.i64.wrap (3 - (k : Int)) = ((3 - k : Nat) : Int) := by rw [A0] <;> omega
   have hi3 : ∀ (id g o : Nat), AW 4 1 (.ptr id g o) (.int .i64 ((3 - k : Nat) : Int)) = some (.ptr id g (o + (3 - k))) := fun id g o => CM (show 3 - k < 4 by omega)
   unfold Sh.f25
   simp only [GMb, GMc, hk', hwn, Aw hni, hro, Ai, Ah, CB hk, Au, Nat.zero_add, Nat.mul_one, Cy hk, Bd, hc, RO, Fg, s1, hw3, hi3, s2, s3, FS, a1, A2, List.length_append, List.length_singleton, CM hk, s4, Ay, Sh.f4j, hwk]
theorem q06_grow (L : List Nd) (level : Int) (H : Ab) (hL : L.length < 274877906944) (hl : Ar L = true) (h0 : -9223372036854775808 ≤ level) (h1 : level ≤ 9223372036854775807) :
  Sh.f26 (Lm L) (.int .i64 level) H = some (.ret (.tup [.sl (enL cNd (Fr L level)) .no, .int .i64 ((Fr L level).length : Int)]), H) := by
 unfold Sh.f26 Fr
 have e3 : (H ++ [Blk.cel 0 (De L)])[H.length]? = some (.cel 0 (De L)) := A9
 have hb0 : AF 5 [] = some (.sl [] .tight) := rfl
 have hR0 : RS cNd As 5 H.length [] (.sl [] .tight) (H ++ [Blk.cel 0 (De L)]) := .inl ⟨rfl, rfl⟩
 obtain ⟨v, Hc, a1, a2, a3⟩ := hR0.app (bytes := 40) (by simp) L .no (by simp; omega) (by simp; omega)
 rw [List.nil_append] at a2
 have hold : ∀ i, i < H.length → Hc[i]? = H[i]? := fun i hi => by rw [a3.old i hi, List.getElem?_append_left hi]
 have hlc : H.length ≤ Hc.length := by have := a3.len; simp at this; omega
 obtain ⟨tk, rfl⟩ := a2.sl
 simp only [GMb, GMc, boxQ, hb0, Ah, Nat.zero_add, DW e3, a1, A2]
 by_cases hbig : level > 1329
 ·rw [if_pos (.inl hbig)]
  simp only [hbig, GMb, GMc, FF (BX hold)]
  simp
 ·by_cases hn : L = []
  ·rw [if_pos (.inr hn)]
   have : (L.length : Int) = 0 := by rw [hn]; rfl
   simp only [hbig, this, GMb, GMc, FF (BX hold)]
   simp
  ·rw [if_neg (by intro h; rcases h with h | h; exact hbig h; exact hn h)]
   have hlen : 0 < L.length := List.length_pos_iff.2 hn
   have hne : ¬ (L.length : Int) = 0 := by omega
   simp only [hbig, hne, GMb, GMc]
   have loop := loop_while (G := fun rec1 vs H1 => Sh.f3q H rec1 (ag vs 0) (ag vs 1) (ag vs 2) H1) (σ := List Nd × Nat)
    (fun s vs Hd => ∃ v, vs = [.int .i64 level, v, .int .i64 (s.1.length : Int)] ∧ RS cNd As 5 H.length s.1 v Hd ∧ (∀ i, i < H.length → Hd[i]? = H[i]?) ∧ H.length ≤ Hd.length ∧ Ar s.1 = true ∧ 0 < s.1.length ∧ FJ level s.2 s.1 = FJ level 1400 L ∧ level ≤ (Ak s.1 s.1.length).lv + s.2 ∧ s.1.length + 5 * s.2 ≤ L.length + 7000)
    (fun s => s.2) (fun s => ¬ (Ak s.1 s.1.length).lv < level) (fun s vs Hd hI hd => ?_) (s := (L, 1400)) (vs := [.int .i64 level, .sl (enL cNd L) tk, .int .i64 (L.length : Int)]) (H := Hc)
    ⟨_, rfl, a2, hold, hlc, hl, hlen, rfl, by
     have hnd : Ak L (L.length : Int) = L[L.length - 1] := BP (by omega) (by omega)
     have := (Ax hl (show L.length - 1 < L.length by omega)).1
     show level ≤ (Ak L (L.length : Int)).lv + (1400 : Nat)
     rw [hnd]; omega, by simp⟩ (by simp)
   ·obtain ⟨s, vs', Hd, hdone, ⟨v, rfl, gR, go, gl, glo, g0, ge, gv, gn⟩, rec, hloop⟩ := loop
    rw [hloop]
    obtain ⟨l, d⟩ := s
    dsimp only at *
    obtain ⟨tk2, rfl⟩ := gR.sl
    have hge : FJ level d l = l := by
     cases d with
     | zero => rfl
     | succ d => show (if _ then _ else _) = _; rw [if_neg hdone]
    rw [← ge, hge]
    have hnd : Ak l (l.length : Int) = l[l.length - 1] := BP (by omega) (by omega)
    have hwn := Dq g0 (show l.length < 9223372036854775807 by omega)
    rw [hnd] at hdone
    unfold Sh.f3q
    simp only [GMb, GMc, hwn, Aw (show l.length - 1 < l.length by omega), Ai, Au, Nat.zero_add, Bd, hdone, FF (BX go)]
    simp
   ·obtain ⟨v, rfl, gR, go, gl, glo, g0, ge, gv, gn⟩ := hI
    obtain ⟨l, d⟩ := s
    dsimp only at *
    rw [Decidable.not_not] at hd
    have hnd : Ak l (l.length : Int) = l[l.length - 1] := BP (by omega) (by omega)
    obtain ⟨d', rfl⟩ : ∃ d', d = d' + 1 := ⟨d - 1, by omega⟩
    obtain ⟨k1, ⟨e, k2, k3⟩, k4, k5⟩ := Og glo g0 (by omega)
    have hgf : FJ level (d' + 1) l = FJ level d' (Ce l) := by show (if _ then _ else _) = _; rw [if_pos hd]
    have hwn := Dq g0 (show l.length < 9223372036854775807 by omega)
    have l12 := (Ax glo (show l.length - 1 < l.length by omega))
    have hwl : IntKind.i64.wrap (l[l.length - 1].lv + 1) = l[l.length - 1].lv + 1 := by rw [A0] <;> omega
    obtain ⟨tk1, rfl⟩ := gR.sl
    have s1 : Al 5 (.ptr Hd.length 0 0) (.agg (cNd (ndL (l[l.length - 1].lv + 1)))) (Hd ++ [.cel 0 (cNd nd0)]) = some (Hd ++ [.cel 0 (cNd (ndL (l[l.length - 1].lv + 1)))]) := by rw [DT A9 rfl, BJ]
    have hi2 : l[l.length - 1].lv < level := by rw [← hnd]; exact hd
    have inner := Oa (ι := LK) (G := fun rec1 rec2 vs H1 => Sh.f25 H rec1 rec2 (ag vs 0) (ag vs 1) (ag vs 2) (ag vs 3) (ag vs 4) H1) (σ := Nat)
     (fun k vs H1 => ∃ v, k ≤ 4 ∧ vs = [.int .i64 level, v, .int .i64 (l.length : Int), .ptr Hd.length 0 0, .int .i64 (k : Int)] ∧ RS cNd As 5 H.length (EY l[l.length - 1] l k).1 v H1 ∧ H1[Hd.length]? = some (.cel 0 (cNd (EY l[l.length - 1] l k).2)) ∧ (∀ i, i < H.length → H1[i]? = H[i]?) ∧ H.length ≤ H1.length)
     (fun k => 4 - k) (fun k => k = 4) (fun k vs H1 hI hdk => ?_) (s := 0) (vs := [.int .i64 level, .sl (enL cNd l) tk1, .int .i64 (l.length : Int), .ptr Hd.length 0 0, .int .i64 0]) (H := Hd ++ [.cel 0 (cNd (ndL (l[l.length - 1].lv + 1)))])
     ⟨_, by omega, rfl, gR.left _, A9, fun i hi => by rw [List.getElem?_append_left (by omega)]; exact go i hi, by simp; omega⟩ (by omega)
    ·obtain ⟨k, vs', H1, rfl, ⟨v, _, rfl, fR, fp, fo, fl⟩, hrec⟩ := inner
     have hgS : Ce l = (EY l[l.length - 1] l 4).1 ++ [(EY l[l.length - 1] l 4).2] := by unfold Ce; rw [hnd]
     have hl4 : (EY l[l.length - 1] l 4).1.length ≤ l.length + 5 := by
      have := congrArg List.length (hgS.symm.trans k2)
      simp at this; omega
     obtain ⟨v2, H2, b1, b2, b3⟩ := fR.snoc (bytes := 40) fl (EY l[l.length - 1] l 4).2 .tight (by omega) (by omega)
     rw [← hgS] at b2
     obtain ⟨tk2, rfl⟩ := b2.sl
     refine ⟨(Ce l, d'), [.int .i64 level, .sl (enL cNd (Ce l)) tk2, .int .i64 ((Ce l).length : Int)], H2, by simp, ⟨_, rfl, b2, fun i hi => by rw [b3.old i hi]; exact fo i hi, by have := b3.len; omega, k1, k4, by rw [← hgf]; exact ge, by show level ≤ _ + (d' : Int); rw [k5]; omega, ?_⟩, fun rec => ?_⟩
     ·have := congrArg List.length k2
      simp at this ⊢; omega
     ·obtain ⟨rec2, h9⟩ := hrec rec
      unfold Sh.f3q
      simp only [GMb, GMc, hwn, Aw (show l.length - 1 < l.length by omega), Ai, Au, Nat.zero_add, Bd, hi2, hwl, RO, Fg, s1]
      refine h9.trans ?_
      have hf : ¬ (((4 : Nat) : Int) < 4) := by decide
      unfold Sh.f25
      simp only [GMb, GMc, Ay, hf, CK fp, FS, b1, A2]
    ·obtain ⟨v, hk4, rfl, fR, fp, fo, fl⟩ := hI
     have hk : k < 4 := by omega
     have hpre := (Qb glo g0 k hk4).pre
     rw [hnd] at hpre
     obtain ⟨v', H', c1, c2, c3, c4, c5⟩ := grow_turn (lev := .int .i64 level) hk (by omega) g0 rfl hpre gl fp fR fl
     refine ⟨k + 1, _, H', by omega, ⟨v', by omega, rfl, c1, c2, fun i hi => by rw [c3 i hi]; exact fo i hi, c4⟩, fun rec1 rec2 => c5 rec1 rec2⟩
end Go.Gm
namespace Go.Gm
def onF (L : List Nd) : Nat → Int → Nat → Nat → Bool
 | 0, _, _, _ => false
 | v + 1, n, x, y => if n = 0 then false else if v = 0 then decide (0 < (Ak L n).kid (2 * (y / 2 ^ v) + x / 2 ^ v)) else onF L v ((Ak L n).kid (2 * (y / 2 ^ v) + x / 2 ^ v)) (x % 2 ^ v) (y % 2 ^ v)
theorem div_lt2 {x u : Nat} (h : x < 2 ^ (u + 1)) : x / 2 ^ u < 2 := by
 rw [Nat.div_lt_iff_lt_mul (Nat.pow_pos (by omega))]
 rw [Nat.pow_succ] at h; omega
theorem q14_on {L : List Nd} {tk : Tok} (hL : L.length < 549755813888) (hl : Ar L = true) : ∀ (v n x y d : Nat) (H : Ab), Lv L v n → v ≤ d → v ≤ 60 → x < 2 ^ v → y < 2 ^ v →
  Sh.f8 (d + 1) (.sl (enL cNd L) tk) (.int .i64 (n : Int)) (.int .i64 (x : Int)) (.int .i64 (y : Int)) H = some (.ret (.bool (onF L v n x y)), H) := by
 intro v
 induction v with
 | zero =>
  intro n x y d H hLv _ _ _ _
  have hn : n = 0 := by
   rcases Nat.eq_zero_or_pos n with h | h
   ·exact h
   ·have := (hLv.num h hl).2; omega
  subst hn
  show Sh.f2p (Sh.f8 d) _ _ _ _ H = _
  unfold Sh.f2p
  simp only [GMb, GMc, Int.natCast_zero, onF]
 | succ u ih =>
  intro n x y d H hLv hd hv hx hy
  show Sh.f2p (Sh.f8 d) _ _ _ _ H = _
  unfold Sh.f2p
  by_cases hn : n = 0
  ·subst hn
   simp only [GMb, GMc, Int.natCast_zero, onF, if_true]
  ·have hn0 : 0 < n := by omega
   have hn' : ¬ (n : Int) = 0 := by omega
   have hnL := hLv.1
   have hni : n - 1 < L.length := by omega
   have hnd : Ak L (n : Int) = L[n - 1] := BP (by omega) hni
   obtain ⟨hlv, _⟩ := hLv.num hn0 hl
   have hwn := Dq hn0 (show n < 9223372036854775807 by omega)
   have hlv2 : L[n - 1].lv = ((u + 1 : Nat) : Int) := by rw [← hnd]; exact hlv
   obtain ⟨q, hq⟩ : ∃ q, q = 2 * (y / 2 ^ u) + x / 2 ^ u := ⟨_, rfl⟩
   have hqx := div_lt2 hx
   have hqy := div_lt2 hy
   have hq4 : q < 4 := by omega
   obtain ⟨d', rfl⟩ : ∃ d', d = d' + 1 := ⟨d - 1, by omega⟩
   have hon : onF L (u + 1) n x y = if u = 0 then decide (0 < L[n - 1].kid q) else onF L u (L[n - 1].kid q) (x % 2 ^ u) (y % 2 ^ u) := by
    show (if (n : Int) = 0 then _ else _) = _
    rw [if_neg hn', hnd, ← hq]
   rw [hon]
   simp only [hn', GMb, GMc]
   refine BQ (G := fun rec1 vs H1 => Sh.f3r H (Sh.f8 (d' + 1)) rec1 (ag vs 0) (ag vs 1) (ag vs 2) (ag vs 3) (ag vs 4) (ag vs 5) H1) u
    (fun i => [.sl (enL cNd L) tk, .int .i64 (n : Int), .int .i64 (x : Int), .int .i64 (y : Int), .int .i64 ((2 ^ i : Nat) : Int), .int .i64 ((i + 1 : Nat) : Int)]) (fun _ => H) _ (by omega) (fun rec i hi => ?_) (fun rec => ?_)
   ·have hi' : ((i + 1 : Nat) : Int) < ((u + 1 : Nat) : Int) := by omega
    have hpw : 2 ^ i ≤ 2 ^ 60 := Nat.pow_le_pow_right (by omega) (by omega)
    have hw1 : IntKind.i64.wrap (((2 ^ i : Nat) : Int) * 2) = ((2 ^ (i + 1) : Nat) : Int) := by
     rw [Nat.pow_succ]
     generalize 2 ^ i = p at *
     rw [A0] <;> omega
    have hw2 := Av (show i + 1 < 9223372036854775807 by omega)
    unfold Sh.f3r
    simp only [GMb, GMc, Ay, hwn, Aw hni, Ai, Au, Nat.zero_add, Bd, hlv2, hi', hw1, hw2]
   ·have hp0 : ((2 ^ u : Nat) : Int) ≠ 0 := by have : 0 < 2 ^ u := Nat.pow_pos (by omega); omega
    have hd1 : ∀ a : Nat, ((a : Int).tdiv ((2 ^ u : Nat) : Int)) = ((a / 2 ^ u : Nat) : Int) := fun a => rfl
    have hd2 : ∀ a : Nat, ((a : Int).tmod ((2 ^ u : Nat) : Int)) = ((a % 2 ^ u : Nat) : Int) := fun a => rfl
    have hwy : IntKind.i64.wrap ((y / 2 ^ u : Nat) : Int) = ((y / 2 ^ u : Nat) : Int) := Cz (by omega)
    have hwx : IntKind.i64.wrap ((x / 2 ^ u : Nat) : Int) = ((x / 2 ^ u : Nat) : Int) := Cz (by omega)
    have hwm : IntKind.i64.wrap (2 * ((y / 2 ^ u : Nat) : Int)) = 2 * ((y / 2 ^ u : Nat) : Int) := by rw [A0] <;> omega
    have hwq : IntKind.i64.wrap (2 * ((y / 2 ^ u : Nat) : Int) + ((x / 2 ^ u : Nat) : Int)) = (q : Int) := by rw [A0] <;> omega
    obtain ⟨l1, l2, l3⟩ := Ax hl hni
    obtain ⟨q1, q2, q3⟩ := l3 q hq4
    unfold Sh.f3r
    simp only [GMb, GMc, Ay, hwn, Aw hni, Ai, Au, Nat.zero_add, Bd, hlv2, Int.lt_irrefl, Lc hp0, Il hp0, hd1, hd2, hwy, hwx, hwm, hwq, CB hq4, Nat.mul_one, Cy hq4]
    by_cases hu : u = 0
    ·have : ((u + 1 : Nat) : Int) = 1 := by omega
     rw [if_pos hu]
     simp only [this, GMb, GMc, gt_iff_lt]
    ·have : ¬ ((u + 1 : Nat) : Int) = 1 := by omega
     rw [if_neg hu]
     have h1 : 1 < (Ak L n).lv := by rw [hlv]; omega
     obtain ⟨e1, e2, e3⟩ := hLv.kid hl hn0 h1 hq4
     rw [hnd] at e1 e3
     obtain ⟨m, hm⟩ := Int.eq_ofNat_of_zero_le e3
     rw [hm] at e1 ⊢
     rw [Int.toNat_natCast] at e1
     have hrec := fun H => ih m (x % 2 ^ u) (y % 2 ^ u) d' H e1 (by omega) (by omega) (Nat.mod_lt _ (Nat.pow_pos (by omega))) (Nat.mod_lt _ (Nat.pow_pos (by omega)))
     simp only [this, GMb, GMc, hrec]
def EQ (on : Nat → Nat → Bool) (y : Nat) (k : Nat) : List UInt8 := (List.range k).map fun x => if on x y then 42 else 46
def C0 (on : Nat → Nat → Bool) (y : Nat) : Nat → Nat
 | 0 => 0
 | k + 1 => if on k y then k + 1 else C0 on y k
def Cs (on : Nat → Nat → Bool) : Nat → List UInt8 × Nat
 | 0 => ([], 0)
 | y + 1 => ((Cs on y).1 ++ (EQ on y 8).take (C0 on y 8) ++ [36], if 0 < C0 on y 8 then ((Cs on y).1 ++ (EQ on y 8).take (C0 on y 8) ++ [36]).length else (Cs on y).2)
def Oc (L : List Nd) (n : Nat) : List UInt8 := (Cs (onF L 3 n) 8).1.take (Cs (onF L 3 n) 8).2
theorem Kw (on : Nat → Nat → Bool) (y k : Nat) : (EQ on y k).length = k := by simp [EQ]
theorem leafRow_succ (on : Nat → Nat → Bool) (y k : Nat) : EQ on y (k + 1) = EQ on y k ++ [if on k y then 42 else 46] := by simp [EQ, List.range_succ]
theorem QF (on : Nat → Nat → Bool) (y k : Nat) : C0 on y (k + 1) = if on k y then k + 1 else C0 on y k := rfl
theorem Kv (on : Nat → Nat → Bool) (y : Nat) : ∀ k, C0 on y k ≤ k
 | 0 => Nat.le_refl _
 | k + 1 => by
  have := Kv on y k
  unfold C0
  split <;> omega
theorem Gk (on : Nat → Nat → Bool) : ∀ y, (Cs on y).1.length ≤ y * 9 ∧ (Cs on y).2 ≤ (Cs on y).1.length
 | 0 => ⟨by simp [Cs], by simp [Cs]⟩
 | y + 1 => by
  have ih := Gk on y
  have h1 := Kv on y 8
  have h2 := Kw on y 8
  simp only [Cs, List.length_append, List.length_singleton, List.length_take]
  refine ⟨by omega, ?_⟩
  split <;> omega
theorem Rx (L : List Nd) (n : Nat) : (Oc L n).length ≤ 72 := by
 have := Gk (onF L 3 n) 8
 unfold Oc
 rw [List.length_take]; omega
theorem q14_leaf {L : List Nd} (tk : Tok) (n : Nat) (H : Ab) (hL : L.length < 549755813888) (hl : Ar L = true) (hn : Lv L 3 n) :
  Sh.f14 (.sl (enL cNd L) tk) (.int .i64 (n : Int)) H = some (.ret (.str (Oc L n)), H) := by
 unfold Sh.f14 Oc
 obtain ⟨F, hF⟩ := fuel_succ 100 (by omega)
 have hon : ∀ (x y : Nat) (H : Ab), x < 8 → y < 8 → Sh.f8 AI (.sl (enL cNd L) tk) (.int .i64 (n : Int)) (.int .i64 (x : Int)) (.int .i64 (y : Int)) H = some (.ret (.bool (onF L 3 n x y)), H) := by
  intro x y H hx hy
  rw [hF, show F + 100 = (F + 99) + 1 from rfl]
  exact q14_on hL hl 3 n x y (F + 99) H hn (by omega) (by omega) hx hy
 generalize onF L 3 n = on at *
 refine BQ (G := fun rec1 vs H1 => Sh.f3u H rec1 (ag vs 0) (ag vs 1) (ag vs 2) (ag vs 3) (ag vs 4) H1) 8
  (fun y => [.sl (enL cNd L) tk, .int .i64 (n : Int), .str (Cs on y).1, .int .i64 ((Cs on y).2 : Int), .int .i64 (y : Int)]) (fun _ => H) _ (by decide) (fun rec y hy => ?_) (fun rec => ?_)
 ·have hy' : (y : Int) < 8 := by omega
  have hwy := Av (show y < 9223372036854775807 by omega)
  have hacc := Gk on y
  have hul := Kv on y 8
  have hrl := Kw on y 8
  unfold Sh.f3u
  simp only [AC, Ay, CT, Dp, FU, G8, Bq, AO, hy', decide_true, AM, AN]
  refine BQ (G := fun rec3 vs H1 => Sh.f3t H (fun vs H => Sh.f3s H rec (ag vs 0) (ag vs 1) (ag vs 2) (ag vs 3) (ag vs 4) H) rec3 (ag vs 0) (ag vs 1) (ag vs 2) (ag vs 3) (ag vs 4) (ag vs 5) (ag vs 6) (ag vs 7) H1) 8
   (fun x => [.sl (enL cNd L) tk, .int .i64 (n : Int), .str (Cs on y).1, .int .i64 ((Cs on y).2 : Int), .int .i64 (y : Int), .str (EQ on y x), .int .i64 (C0 on y x : Int), .int .i64 (x : Int)]) (fun _ => H) _ (by decide) (fun rec3 x hx => ?_) (fun rec3 => ?_)
  ·have hx' : (x : Int) < 8 := by omega
   have hwx := Av (show x < 9223372036854775807 by omega)
   have hrx := Kw on y x
   have hon1 := fun H => hon x y H hx hy
   rw [leafRow_succ, QF]
   unfold Sh.f3t
   cases ho : on x y with
   | true =>
    rw [ho] at hon1
    simp only [GMb, GMc, Ay, hx', hon1, if_true]
    rw [AV (by rw [hrx]; simp; omega)]
    simp only [GMb, GMc, EP, List.length_append, List.length_singleton, hrx, Ay, Sh.f4k, hwx]
   | false =>
    rw [ho] at hon1
    simp only [GMb, GMc, Ay, hx', hon1]
    rw [AV (by rw [hrx]; simp; omega)]
    simp only [GMb, GMc, Ay, Sh.f4k, hwx]
  ·have hf : ¬ (((8 : Nat) : Int) < 8) := by decide
   have htk : (EQ on y 8).length = 8 := hrl
   unfold Sh.f3t
   simp only [AC, Ay, CT, Dp, FU, G8, Lw, Bq, AO, hf, decide_false, AK, Hs (show C0 on y 8 ≤ (EQ on y 8).length by omega)]
   rw [AV (by simp; omega)]
   simp only [Bq]
   rw [AV (by simp; omega)]
   simp only [Bq, CW]
   by_cases h0 : 0 < C0 on y 8
   ·have h0' : (C0 on y 8 : Int) > 0 := by omega
    simp only [h0', GMb, GMc, EP, Ay, Sh.f3s, hwy, Cs, h0]
   ·have h0' : ¬ (C0 on y 8 : Int) > 0 := by omega
    simp only [h0', GMb, GMc, EP, Ay, Sh.f3s, hwy, Cs, h0]
 ·have hf : ¬ (((8 : Nat) : Int) < 8) := by decide
  have hacc := Gk on 8
  unfold Sh.f3u
  simp only [GMb, GMc, Ay, hf, Hs hacc.2]
theorem Np {n : Int} (h0 : -9223372036854775808 ≤ n) (h1 : n ≤ 9223372036854775807) : SB 44 n := by
 unfold SB
 have : (4294967296 : Nat) ^ 2 ≤ 4294967296 ^ 44 := pow_le32 (by omega)
 have h2 : n.natAbs < 18446744073709551616 := by omega
 rw [show (4294967296 : Nat) ^ 2 = 18446744073709551616 from rfl] at this
 omega
theorem q14_number (n : Int) (H : Ab) (h0 : -9223372036854775808 ≤ n) (h1 : n ≤ 9223372036854775807) : Sh.fx (.int .i64 n) H = some (.ret (.str (G5 n)), H) := by
 unfold Sh.fx
 have hof := fun H => q02_of n H h0 h1
 have htx := fun H => Pw n H (MV (Np h0 h1)).1
 simp only [GMb, GMc, hof, htx]
end Go.Gm
namespace Go.Gm
def Kt (at' : List Nat) (x : Nd) : Nat → List UInt8
 | 0 => G5 x.lv
 | k + 1 => Kt at' x k ++ [32] ++ G5 (if 1 < x.lv then ((at'.getD (x.kid k).toNat 0 : Nat) : Int) else x.kid k)
def EW (L : List Nd) (two : Bool) (at' : List Nat) (i : Nat) (x : Nd) : List UInt8 := if two && decide (x.lv = 3) then Oc L (i + 1) else Kt at' x 4
def BH (L : List Nd) (two : Bool) : Nat → List (List UInt8) × List Nat
 | 0 => ([], [0])
 | i + 1 =>
  let r := BH L two i
  let x := L.getD i nd0
  if two && decide (x.lv < 3) then (r.1, r.2 ++ [0]) else (r.1 ++ [EW L two r.2 i x], r.2 ++ [r.1.length + 1])
def twoQ (L : List Nd) : Bool := decide (Ko L ≤ 1)
def EG (L : List Nd) : List (List UInt8) :=
 if twoQ L && decide (L ≠ []) && decide (D6 L < 3) then [Oc (Fr L 3) (Fr L 3).length] else (BH L (twoQ L) L.length).1
theorem HL (L : List Nd) (two : Bool) : ∀ i, (BH L two i).2.length = i + 1 ∧ (BH L two i).1.length ≤ i ∧ ∀ a ∈ (BH L two i).2, a ≤ i
 | 0 => by simp [BH]
 | i + 1 => by
  obtain ⟨h1, h2, h3⟩ := HL L two i
  simp only [BH]
  split
  ·refine ⟨by simp; omega, by simp only; omega, fun a ha => ?_⟩
   rcases List.mem_append.1 ha with h | h
   ·have := h3 a h; omega
   ·rw [List.mem_singleton] at h; omega
  ·refine ⟨by simp; omega, by simp; omega, fun a ha => ?_⟩
   rcases List.mem_append.1 ha with h | h
   ·have := h3 a h; omega
   ·rw [List.mem_singleton] at h; omega
theorem Ni {L : List Nd} {at' : List Nat} {x : Nd} (h1 : 1 ≤ x.lv) (h2 : x.lv ≤ 1329) (hk : ∀ k, k < 4 → 0 ≤ x.kid k ∧ (x.lv = 1 → x.kid k ≤ 255)) (ha : ∀ a ∈ at', a ≤ 549755813888) : ∀ k, k ≤ 4 → (Kt at' x k).length ≤ 5000 + k * 5001
 | 0, _ => by have := (MV (Np (n := x.lv) (by omega) (by omega))).2; simp [Kt]; omega
 | k + 1, hk4 => by
  have ih := Ni (L := L) h1 h2 hk ha k (by omega)
  have hv : ∀ n : Int, 0 ≤ n → n ≤ 549755813888 → (G5 n).length ≤ 5000 := fun n a b => (MV (Np (n := n) (by omega) (by omega))).2
  have hd : (G5 (if 1 < x.lv then ((at'.getD (x.kid k).toNat 0 : Nat) : Int) else x.kid k)).length ≤ 5000 := by
   obtain ⟨q1, q2⟩ := hk k (by omega)
   split
   ·refine hv _ (by omega) ?_
    rw [List.getD_eq_getElem?_getD]
    cases hq : at'[(x.kid k).toNat]? with
    | none => simp
    | some a => have := ha a (List.mem_of_getElem? hq); simp; omega
   ·exact hv _ q1 (by have := q2 (by omega); omega)
  simp only [Kt, List.length_append, List.length_singleton]
  omega
theorem line_ok {L : List Nd} (hL : L.length < 274877906944) (hl : Ar L = true) (two : Bool) {i : Nat} (hi : i < L.length) : (EW L two (BH L two i).2 i L[i]).length ≤ 30000 := by
 obtain ⟨l1, l2, l3⟩ := Ax hl hi
 obtain ⟨h1, h2, h3⟩ := HL L two i
 unfold EW
 split
 ·have := Rx L (i + 1); omega
 ·have := Ni (L := L) (at' := (BH L two i).2) l1 l2 (fun k hk => ⟨(l3 k hk).1, (l3 k hk).2.1⟩) (fun a ha => by have := h3 a ha; omega) 4 (Nat.le_refl _)
  omega
theorem Ob {L : List Nd} (hL : L.length < 274877906944) (hl : Ar L = true) (two : Bool) : ∀ i, i ≤ L.length → ∀ s ∈ (BH L two i).1, s.length ≤ 30000
 | 0, _, s, hs => by cases hs
 | i + 1, hi, s, hs => by
  have ih := Ob hL hl two i (by omega)
  have hx : L.getD i nd0 = L[i] := by rw [List.getD_eq_getElem?_getD, List.getElem?_eq_getElem (show i < L.length by omega)]; rfl
  have hk := line_ok hL hl two (show i < L.length by omega)
  simp only [BH, hx] at hs
  split at hs
  ·exact ih s hs
  ·rcases List.mem_append.1 hs with h | h
   ·exact ih s h
   ·rw [List.mem_singleton] at h; rw [h]; exact hk
theorem linesL_ok {L : List Nd} (hL : L.length < 274877906944) (hl : Ar L = true) : (EG L).length ≤ L.length + 1 ∧ ∀ s ∈ EG L, s.length ≤ 30000 := by
 unfold EG
 split
 ·refine ⟨by simp, fun s hs => ?_⟩
  rw [List.mem_singleton] at hs
  rw [hs]
  have := Rx (Fr L 3) (Fr L 3).length; omega
 ·exact ⟨by have := (HL L (twoQ L) L.length).2.1; omega, Ob hL hl _ _ (Nat.le_refl _)⟩
theorem lines_turn {L : List Nd} {H : Ab} {two : Bool} {i : Nat} (hL : L.length < 274877906944) (hl : Ar L = true) (hi : i < L.length) (p : Nat) (out : List (List UInt8)) (vo : Aa) (Hd : Ab) (tk : Tok) (A : List Nat) (hA : A.length = i + 1) (hAb : ∀ a ∈ A, a ≤ i) (hout : out.length ≤ i)
  (hp : H.length ≤ p) (fp : Hd[p]? = some (.cel 0 (flat cN (A ++ List.replicate (L.length - i) 0)))) (hR : RS cS KF 1 H.length out vo Hd) (hlen : H.length ≤ Hd.length)
  (hs : (EW L two A i L[i]).length ≤ 30000) :
  ∃ v' H', RS cS KF 1 H.length (if two && decide (L[i].lv < 3) then (out, A ++ [0]) else (out ++ [EW L two A i L[i]], A ++ [out.length + 1])).1 v' H' ∧
   H'[p]? = some (.cel 0 (flat cN ((if two && decide (L[i].lv < 3) then (out, A ++ [0]) else (out ++ [EW L two A i L[i]], A ++ [out.length + 1])).2 ++ List.replicate (L.length - (i + 1)) 0))) ∧ (∀ j, j < H.length → H'[j]? = Hd[j]?) ∧ H.length ≤ H'.length ∧
   ∀ rec : LK, Sh.f15 H rec (.sl (enL cNd L) tk) (.bool two) vo (.ms p 0 0 (L.length + 1) (L.length + 1) 1 true) (.int .i64 (i : Int)) Hd = rec [.sl (enL cNd L) tk, .bool two, v', .ms p 0 0 (L.length + 1) (L.length + 1) 1 true, .int .i64 ((i + 1 : Nat) : Int)] H' := by
 have hi' : (i : Int) < (L.length : Int) := by omega
 have hwi := Av (show i < 9223372036854775807 by omega)
 obtain ⟨l1, l2, l3⟩ := Ax hl hi
 obtain ⟨tk0, rfl⟩ := hR.sl
 have hj2 : ∀ (rec : LK) (v : Aa) (H1 : Ab), Sh.f2a H rec (.sl (enL cNd L) tk) (.bool two) v (.ms p 0 0 (L.length + 1) (L.length + 1) 1 true) (.int .i64 (i : Int)) H1 = rec [.sl (enL cNd L) tk, .bool two, v, .ms p 0 0 (L.length + 1) (L.length + 1) 1 true, .int .i64 ((i + 1 : Nat) : Int)] H1 := by
  intro rec v H1
  unfold Sh.f2a
  simp only [GMb, GMc, hwi]
 have hrep : ∀ a : Nat, (A ++ List.replicate (L.length - i) 0).set (i + 1) a = A ++ [a] ++ List.replicate (L.length - (i + 1)) 0 := by
  intro a
  rw [List.set_append_right _ _ (by omega), hA, Nat.sub_self, show L.length - i = (L.length - (i + 1)) + 1 from by omega, List.replicate_succ, List.set_cons_zero]
  simp
 have hrep0 : A ++ [0] ++ List.replicate (L.length - (i + 1)) 0 = A ++ List.replicate (L.length - i) 0 := by
  rw [show L.length - i = (L.length - (i + 1)) + 1 from by omega, List.replicate_succ]; simp
 have hEl : (A ++ List.replicate (L.length - i) 0).length = L.length + 1 := by simp [hA]; omega
 have hgc : A5 Hd p 0 = some (flat cN (A ++ List.replicate (L.length - i) 0)) := Ba fp
 have hline : ∀ j2 : LK, Sh.f2r H j2 (.sl (enL cNd L) tk) (.bool two) (.sl (enL cS out) tk0) (.ms p 0 0 (L.length + 1) (L.length + 1) 1 true) (.int .i64 (i : Int)) (.str (EW L two A i L[i])) Hd = Sh.f2r H j2 (.sl (enL cNd L) tk) (.bool two) (.sl (enL cS out) tk0) (.ms p 0 0 (L.length + 1) (L.length + 1) 1 true) (.int .i64 (i : Int)) (.str (EW L two A i L[i])) Hd := fun _ => rfl
 by_cases hsk : (two && decide (L[i].lv < 3)) = true
 ·rw [if_pos hsk]
  simp only [Bool.and_eq_true, decide_eq_true_eq] at hsk
  refine ⟨_, Hd, hR, by rw [hrep0]; exact fp, fun j hj => rfl, hlen, fun rec => ?_⟩
  obtain ⟨h2, h3⟩ := hsk
  subst h2
  unfold Sh.f15
  simp only [GMb, GMc, A2, hi', Aw hi, Ai, Au, Nat.zero_add, Bd, h3, Ay, hj2]
 ·rw [if_neg hsk]
  obtain ⟨v', H', a1, a2, a3⟩ := hR.snoc (bytes := 16) hlen (EW L two A i L[i]) .tight (by omega) (by omega)
  obtain ⟨tk', rfl⟩ := a2.sl
  have fp2 := a3.get fp
  have hpl := (List.getElem?_eq_some_iff.1 fp2).1
  have hlen2 : H.length ≤ H'.length := by have := a3.len; omega
  have hidx := Ek (sz := 1) (id := p) (n := L.length + 1) (K := .i64) (g := 0) (off := 0) (cap := L.length + 1) (ex := true) (i := i + 1) (by omega)
  simp only [Nat.zero_add, Nat.mul_one] at hidx
  have hst := FC (f := cN) (sz := 1) (a := out.length + 1) (v := .int .i64 ((out.length + 1 : Nat) : Int)) (Ba fp2) (i := i + 1) (by rw [hEl]; omega) rfl
  simp only [Nat.mul_one, hrep, CI fp2] at hst
  have hj5 : ∀ (rec : LK), Sh.f2r H (fun vs H1 => Sh.f2a H rec (ag vs 0) (ag vs 1) (ag vs 2) (ag vs 3) (ag vs 4) H1) (.sl (enL cNd L) tk) (.bool two) (.sl (enL cS out) tk0) (.ms p 0 0 (L.length + 1) (L.length + 1) 1 true) (.int .i64 (i : Int)) (.str (EW L two A i L[i])) Hd
    = rec [.sl (enL cNd L) tk, .bool two, .sl (enL cS (out ++ [EW L two A i L[i]])) tk', .ms p 0 0 (L.length + 1) (L.length + 1) 1 true, .int .i64 ((i + 1 : Nat) : Int)] (H'.set p (.cel 0 (flat cN (A ++ [out.length + 1] ++ List.replicate (L.length - (i + 1)) 0)))) := by
   intro rec
   unfold Sh.f2r
   simp only [GMb, GMc, build_S, a1, hwi, A2, List.length_append, List.length_singleton, hidx, hst, Ay, hj2]
  refine ⟨_, H'.set p (.cel 0 (flat cN (A ++ [out.length + 1] ++ List.replicate (L.length - (i + 1)) 0))), a2.put fp2, by rw [List.getElem?_set_self hpl], fun j hj => by rw [List.getElem?_set_ne (by omega)]; exact a3.old j hj, by simpa using hlen2, fun rec => ?_⟩
  have hnum : ∀ (n : Int) (H : Ab), 0 ≤ n → n ≤ 549755813888 → Sh.fx (.int .i64 n) H = some (.ret (.str (G5 n)), H) := fun n H a b => q14_number n H (by omega) (by omega)
  have hnlv := fun H => hnum L[i].lv H (by omega) (by omega)
  have kids : Ao (fun rec3 vs H1 => Sh.f2s H (fun vs H1 => Sh.f2a H rec (ag vs 0) (ag vs 1) (ag vs 2) (ag vs 3) (ag vs 4) H1) rec3 (ag vs 0) (ag vs 1) (ag vs 2) (ag vs 3) (ag vs 4) (ag vs 5) (ag vs 6) H1) AI [.sl (enL cNd L) tk, .bool two, .sl (enL cS out) tk0, .ms p 0 0 (L.length + 1) (L.length + 1) 1 true, .int .i64 (i : Int), .str (G5 L[i].lv), .int .i64 0] Hd
    = rec [.sl (enL cNd L) tk, .bool two, .sl (enL cS (out ++ [EW L two A i L[i]])) tk', .ms p 0 0 (L.length + 1) (L.length + 1) 1 true, .int .i64 ((i + 1 : Nat) : Int)] (H'.set p (.cel 0 (flat cN (A ++ [out.length + 1] ++ List.replicate (L.length - (i + 1)) 0)))) := by
   refine BQ (G := fun rec3 vs H1 => Sh.f2s H (fun vs H1 => Sh.f2a H rec (ag vs 0) (ag vs 1) (ag vs 2) (ag vs 3) (ag vs 4) H1) rec3 (ag vs 0) (ag vs 1) (ag vs 2) (ag vs 3) (ag vs 4) (ag vs 5) (ag vs 6) H1) 4
    (fun k => [.sl (enL cNd L) tk, .bool two, .sl (enL cS out) tk0, .ms p 0 0 (L.length + 1) (L.length + 1) 1 true, .int .i64 (i : Int), .str (Kt A L[i] k), .int .i64 (k : Int)]) (fun _ => Hd) _ (by decide) (fun rec3 k hk => ?_) (fun rec3 => ?_)
   ·have hk' : (k : Int) < 4 := by omega
    have hwk := Av (show k < 9223372036854775807 by omega)
    obtain ⟨q1, q2, q3⟩ := l3 k hk
    have hll := Ni (L := L) (at' := A) (x := L[i]) l1 l2 (fun k hk => ⟨(l3 k hk).1, (l3 k hk).2.1⟩) (fun a ha => by have := hAb a ha; omega) k (by omega)
    have hj4 : ∀ c : Int, 0 ≤ c → c ≤ 549755813888 → c = (if 1 < L[i].lv then ((A.getD (L[i].kid k).toNat 0 : Nat) : Int) else L[i].kid k) → Sh.f4r H rec3 (.sl (enL cNd L) tk) (.bool two) (.sl (enL cS out) tk0) (.ms p 0 0 (L.length + 1) (L.length + 1) 1 true) (.int .i64 (i : Int)) (.str (Kt A L[i] k)) (.int .i64 (k : Int)) (.int .i64 c) Hd
      = rec3 [.sl (enL cNd L) tk, .bool two, .sl (enL cS out) tk0, .ms p 0 0 (L.length + 1) (L.length + 1) 1 true, .int .i64 (i : Int), .str (Kt A L[i] (k + 1)), .int .i64 ((k + 1 : Nat) : Int)] Hd := by
     intro c hc0 hc1 hc
     have hn := fun H => hnum c H hc0 hc1
     have hdl := (MV (Np (n := c) (by omega) (by omega))).2
     rw [show Kt A L[i] (k + 1) = Kt A L[i] k ++ [32] ++ G5 c by rw [hc]; rfl]
     unfold Sh.f4r
     rw [AV (by simp; omega)]
     simp only [GMb, GMc, hn]
     rw [AV (by simp; omega)]
     simp only [GMb, GMc, hwk]
    unfold Sh.f2s
    simp only [GMb, GMc, Ay, hk', Aw hi, Ai, CB hk, Au, Nat.zero_add, Nat.mul_one, Cy hk, Bd]
    by_cases h1 : 1 < L[i].lv
    ·have hle : (L[i].kid k).toNat ≤ i := by
      by_cases h0 : 0 < L[i].kid k
      ·have := (q3 h1 h0).1; omega
      ·omega
     obtain ⟨c, hc⟩ := Int.eq_ofNat_of_zero_le q1
     rw [hc] at hle hj4 ⊢
     rw [Int.toNat_natCast] at hle hj4
     have hidc := Ek (sz := 1) (id := p) (n := L.length + 1) (K := .i64) (g := 0) (off := 0) (cap := L.length + 1) (ex := true) (i := c) (by omega)
     simp only [Nat.zero_add, Nat.mul_one] at hidc
     have hldc := HJ (f := cN) hgc (i := c) (by rw [hEl]; omega)
     have hgd : (A ++ List.replicate (L.length - i) 0)[c]'(by rw [hEl]; omega) = A.getD c 0 := by
      rw [List.getElem_append_left (by omega), List.getD_eq_getElem?_getD, List.getElem?_eq_getElem (by omega)]; rfl
     rw [hgd] at hldc
     have hab : A.getD c 0 ≤ i := by
      rw [List.getD_eq_getElem?_getD, List.getElem?_eq_getElem (by omega)]
      exact hAb _ (List.getElem_mem _)
     simp only [h1, GMb, GMc, gt_iff_lt, hidc, hldc, List.getElem?_cons_zero, Ay]
     exact hj4 _ (by omega) (by omega) (by rw [if_pos h1])
    ·simp only [h1, GMb, GMc, gt_iff_lt, Ay]
     exact hj4 _ q1 (by have := q2 (by omega); omega) (by rw [if_neg h1])
   ·have hf : ¬ (((4 : Nat) : Int) < 4) := by decide
    unfold Sh.f2s
    simp only [AC, Ay, CT, Dp, FU, G8, Lw, Bq, AO, hf, decide_false, AK, AN]
    by_cases h3 : (two && decide (L[i].lv = 3)) = true
    ·have hlS : EW L two A i L[i] = Oc L (i + 1) := by unfold EW; rw [if_pos h3]
     simp only [Bool.and_eq_true, decide_eq_true_eq] at h3
     obtain ⟨h4, h5⟩ := h3
     have hLv : Lv L 3 (i + 1) := ⟨by omega, .inr (by rw [A6 hi, h5]; rfl)⟩
     have hlf := fun H => q14_leaf (L := L) tk (i + 1) H (by omega) hl hLv
     rw [hlS] at hj5 ⊢
     rw [h4] at hj5 ⊢
     simp only [GMb, GMc, Aw hi, Ai, Au, Nat.zero_add, Bd, h5, hwi, hlf, Ay]
     have h9 := hj5 rec
     exact h9
    ·have hlS : EW L two A i L[i] = Kt A L[i] 4 := by unfold EW; rw [if_neg h3]
     rw [hlS] at hj5 ⊢
     have h9 := hj5 rec
     cases two with
     | false =>
      simp only [GMb, GMc, Ay]
      exact h9
     | true =>
      have h5 : ¬ L[i].lv = 3 := by simpa using h3
      simp only [GMb, GMc, Aw hi, Ai, Au, Nat.zero_add, Bd, h5, Ay]
      exact h9
  unfold Sh.f15
  cases two with
  | false =>
   simp only [GMb, GMc, Ay, A2, hi', Aw hi, Ai, Au, Nat.zero_add, Bd, hnlv]
   exact kids
  | true =>
   have h5 : ¬ L[i].lv < 3 := by simpa using hsk
   simp only [GMb, GMc, Ay, A2, hi', Aw hi, Ai, Au, Nat.zero_add, Bd, h5, hnlv]
   exact kids
end Go.Gm
namespace Go.Gm
theorem growF_ok {level : Int} (hlev : level ≤ 1329) : ∀ (d : Nat) (l : List Nd), Ar l = true → 0 < l.length → (Ak l l.length).lv ≤ level → level ≤ (Ak l l.length).lv + d →
  Ar (FJ level d l) = true ∧ 0 < (FJ level d l).length ∧ (Ak (FJ level d l) (FJ level d l).length).lv = level ∧ (FJ level d l).length ≤ l.length + 5 * d
 | 0, l, hl, h0, h1, h2 => ⟨hl, h0, by show (Ak l l.length).lv = level; omega, Nat.le_refl _⟩
 | d + 1, l, hl, h0, h1, h2 => by
  show Ar (if _ then _ else _) = true ∧ 0 < (if _ then _ else _ : List Nd).length ∧ _
  by_cases h : (Ak l l.length).lv < level
  ·have e : FJ level (d + 1) l = FJ level d (Ce l) := by show (if _ then _ else _) = _; rw [if_pos h]
   obtain ⟨k1, ⟨x, k2, k3⟩, k4, k5⟩ := Og hl h0 (by omega)
   have ih := growF_ok hlev d (Ce l) k1 k4 (by omega) (by rw [k5]; omega)
   rw [e]
   rw [if_pos h]
   refine ⟨ih.1, ih.2.1, ih.2.2.1, ?_⟩
   have h4 := ih.2.2.2
   have h5 := congrArg List.length k2
   simp at h5; omega
  ·have e : FJ level (d + 1) l = l := by show (if _ then _ else _) = _; rw [if_neg h]
   rw [e]
   rw [if_neg h]
   exact ⟨hl, h0, by omega, by omega⟩
theorem grow_lv {L : List Nd} (hl : Ar L = true) (hn : L ≠ []) {level : Int} (h1 : D6 L ≤ level) (h2 : level ≤ 1329) : Ar (Fr L level) = true ∧ (Fr L level).length ≤ L.length + 7000 ∧ Lv (Fr L level) level.toNat (Fr L level).length := by
 have hlen : 0 < L.length := List.length_pos_iff.2 hn
 have h3 := (Ax hl (show L.length - 1 < L.length by omega)).1
 have hnd : Ak L (L.length : Int) = L[L.length - 1] := BP (by omega) (by omega)
 unfold Fr
 rw [if_neg (by intro h; rcases h with h | h; omega; exact hn h)]
 obtain ⟨k1, k2, k3, k4⟩ := growF_ok h2 1400 L hl hlen h1 (by rw [hnd]; omega)
 exact ⟨k1, by omega, Nat.le_refl _, .inr (by rw [k3])⟩
theorem q14_lines (L : List Nd) (H : Ab) (hL : L.length < 274877900000) (hl : Ar L = true) : Sh.f2b (Lm L) H = some (.ret (.sl (enL cS (EG L)) .no), H) := by
 unfold Sh.f2b
 have e3 : (H ++ [Blk.cel 0 (De L)])[H.length]? = some (.cel 0 (De L)) := A9
 have hmo := fun H => q08_mostZ (L := L) H (by omega) hl
 have hlv : ∀ H, Sh.fu (Lm L) H = some (.ret (.int .i64 (if L = [] then 0 else D6 L)), H) := fun H => q05_level L .no H (by omega)
 have key : ∀ two, two = twoQ L → (EG L = (BH L two L.length).1) → ((AE (.sl (enL cNd L) .no)).bind fun x28 => (Af .none .add x28 (.int .i64 1)).bind fun x29 => A1 (ET 1 8 (some [(.int .i64 0)]) x29 x29 (H ++ [Blk.cel 0 (De L)])) fun x30 H31 =>
   Ao (fun rec1 vs H1 => Sh.f15 H rec1 (ag vs 0) (ag vs 1) (ag vs 2) (ag vs 3) (ag vs 4) H1) AI [.sl (enL cNd L) .no, .bool two, (.sl [] .tight), x30, (.int .i64 0)] H31) = some (.ret (.sl (enL cS (EG L)) .no), H) := by
  intro two htwo hlL
  have hmk := F6 (f := cN) (a := 0) (n := L.length + 1) (bytes := 8) (H := H ++ [Blk.cel 0 (De L)]) (by omega) (by omega)
  rw [show cN 0 = [Aa.int .i64 0] from rfl] at hmk
  simp only [A2, Bq, BA, Av (show L.length < 9223372036854775807 by omega), hmk, BO]
  have hb : H.length ≤ (H ++ [Blk.cel 0 (De L)]).length := by simp
  have fp : (H ++ [Blk.cel 0 (De L)] ++ [Blk.cel 0 (flat cN (List.replicate (L.length + 1) 0))])[(H ++ [Blk.cel 0 (De L)]).length]? = some (.cel 0 (flat cN ((BH L two 0).2 ++ List.replicate (L.length - 0) 0))) := by
   rw [A9]; simp [BH, List.replicate_succ]
  have hold : ∀ i, i < H.length → (H ++ [Blk.cel 0 (De L)] ++ [Blk.cel 0 (flat cN (List.replicate (L.length + 1) 0))])[i]? = H[i]? := fun i hi => by rw [List.append_assoc, List.getElem?_append_left hi]
  have hlen : H.length ≤ (H ++ [Blk.cel 0 (De L)] ++ [Blk.cel 0 (flat cN (List.replicate (L.length + 1) 0))]).length := by simp
  generalize (H ++ [Blk.cel 0 (De L)]).length = p at *
  generalize H ++ [Blk.cel 0 (De L)] ++ [Blk.cel 0 (flat cN (List.replicate (L.length + 1) 0))] = Hc at *
  have loop := My (G := fun rec1 vs H1 => Sh.f15 H rec1 (ag vs 0) (ag vs 1) (ag vs 2) (ag vs 3) (ag vs 4) H1) L.length
   (fun i vs Hd => ∃ v, vs = [.sl (enL cNd L) .no, .bool two, v, .ms p 0 0 (L.length + 1) (L.length + 1) 1 true, .int .i64 (i : Int)] ∧ RS cS KF 1 H.length (BH L two i).1 v Hd ∧ Hd[p]? = some (.cel 0 (flat cN ((BH L two i).2 ++ List.replicate (L.length - i) 0))) ∧ (∀ j, j < H.length → Hd[j]? = H[j]?) ∧ H.length ≤ Hd.length)
   (by omega) (fun i vs Hd hi hI => ?_) (vs := [.sl (enL cNd L) .no, .bool two, .sl [] .tight, .ms p 0 0 (L.length + 1) (L.length + 1) 1 true, .int .i64 0]) (H := Hc) ⟨_, rfl, .inl ⟨rfl, rfl⟩, fp, hold, hlen⟩
  ·obtain ⟨vs', Hd, ⟨v, rfl, gR, _, go, gl⟩, rec, hloop⟩ := loop
   rw [hloop]
   obtain ⟨tk2, rfl⟩ := gR.sl
   unfold Sh.f15
   simp only [GMb, GMc, Ay, A2, Int.lt_irrefl, FF (BX go), KW, Option.map_some]
   rw [hlL]
  ·obtain ⟨v, rfl, gR, gp, go, gl⟩ := hI
   obtain ⟨n1, n2, n3⟩ := HL L two i
   obtain ⟨v', H', a1, a2, a3, a4, a5⟩ := lines_turn (two := two) (by omega) hl hi p (BH L two i).1 v Hd .no (BH L two i).2 n1 n3 n2 hb gp gR gl (line_ok (by omega) hl two hi)
   have hx : L.getD i nd0 = L[i] := by rw [List.getD_eq_getElem?_getD, List.getElem?_eq_getElem hi]; rfl
   have hnext : BH L two (i + 1) = if two && decide (L[i].lv < 3) then ((BH L two i).1, (BH L two i).2 ++ [0]) else ((BH L two i).1 ++ [EW L two (BH L two i).2 i L[i]], (BH L two i).2 ++ [(BH L two i).1.length + 1]) := by
    simp only [BH, hx]
   refine ⟨_, H', ⟨v', rfl, by rw [hnext]; exact a1, by rw [hnext]; exact a2, fun j hj => by rw [a3 j hj]; exact go j hj, a4⟩, fun rec => a5 rec⟩
 have htw : decide (Ko L ≤ 1) = twoQ L := rfl
 simp only [GMb, GMc, boxQ, Ah, Nat.zero_add, DW e3, OK e3, hmo, htw]
 cases htq : twoQ L with
 | false =>
  simp only [GMb, GMc]
  exact key false htq.symm (by unfold EG; rw [htq]; rfl)
 | true =>
  simp only [GMb, GMc, OK e3, hlv]
  by_cases hn : L = []
  ·have hk := key true htq.symm (by unfold EG; rw [htq, hn]; simp)
   rw [if_pos hn]
   have : ¬ ((0 : Int) > 0) := by decide
   simp only [this, GMb, GMc]
   exact hk
  ·rw [if_neg hn]
   have hlen : 0 < L.length := List.length_pos_iff.2 hn
   have h3 := (Ax hl (show L.length - 1 < L.length by omega)).1
   have hnd : Ak L (L.length : Int) = L[L.length - 1] := BP (by omega) (by omega)
   have hpos : D6 L > 0 := by unfold D6; rw [hnd]; omega
   simp only [hpos, GMb, GMc, OK e3, hlv, if_neg hn]
   by_cases h33 : D6 L < 3
   ·obtain ⟨g1, g2, g3⟩ := grow_lv hl hn (level := 3) (by omega) (by omega)
    have hgr := fun H => q06_grow L 3 H (by omega) hl (by omega) (by omega)
    have hlf := fun H => q14_leaf (L := Fr L 3) .no (Fr L 3).length H (by omega) g1 g3
    have hlL : EG L = [Oc (Fr L 3) (Fr L 3).length] := by unfold EG; rw [htq]; simp [hn, h33]
    simp only [h33, GMb, GMc, OK e3, hgr, Dx, EH, hlf, build_S, DG, KW, Option.map_some]
    rw [hlL]
   ·have hk := key true htq.symm (by unfold EG; rw [htq]; simp [h33])
    simp only [h33, GMb, GMc]
    exact hk
def NR (s0 : List UInt8) (l : List (List UInt8)) : List UInt8 := l.foldl (fun s t => s ++ t ++ [10]) s0
def GA (rule : List UInt8) : List UInt8 := [91, 77, 50, 93, 32, 40, 103, 108, 105, 100, 101, 114, 41, 10, 35, 82, 32] ++ rule ++ [10]
def treeTx (rule : List UInt8) (L : List Nd) : List UInt8 := NR (GA rule) (EG L)
theorem OZ (s0 : List UInt8) (l : List (List UInt8)) {i : Nat} (hi : i < l.length) : NR s0 (l.take (i + 1)) = NR s0 (l.take i) ++ l[i] ++ [10] := by
 unfold NR
 rw [List.take_succ_eq_append_getElem hi, List.foldl_append]; rfl
theorem QW (s0 : List UInt8) (l : List (List UInt8)) (h : ∀ t ∈ l, t.length ≤ 30000) : ∀ i, i ≤ l.length → (NR s0 (l.take i)).length ≤ s0.length + i * 30001
 | 0, _ => by simp [NR]
 | i + 1, hi => by
  have ih := QW s0 l h i (by omega)
  have h2 := h l[i] (List.getElem_mem hi)
  rw [OZ s0 l hi]
  simp only [List.length_append, List.length_singleton]
  omega
theorem q14_text (rule : List UInt8) (L : List Nd) (H : Ab) (hr : rule.length < 35184372088832) (hL : L.length < 274877900000) :
  Sh.fl (pat rule L) H = some (.ret (if Iu rule && CU L then .tup [.str (treeTx rule L), .int .i64 0] else .tup [.str [], .int .i64 1]), H) := by
 unfold Sh.fl
 have e3 : (H ++ [Blk.cel 0 (QA rule L)])[H.length]? = some (.cel 0 (QA rule L)) := A9
 have hck := fun H => q11_right rule L H (by omega) (by omega)
 simp only [GMb, GMc, boxPat, load_patP e3, hck]
 cases hrb : Iu rule && CU L with
 | false =>
  simp only [GMb, GMc]
  exact rP_plain (v := .tup [.str [], .int .i64 1]) rfl
 | true =>
  have hl : Ar L = true := by
   rw [Bool.and_eq_true] at hrb
   exact qright_loose hrb.2
  have hli := fun H => q14_lines L H hL hl
  simp only [GMb, GMc, Ah, Nat.zero_add, Nat.add_zero, PI e3]
  rw [AV (by simp; omega)]
  simp only [GMb, GMc]
  rw [AV (by simp; omega)]
  simp only [GMb, GMc, PJ e3, hli]
  obtain ⟨k1, k2⟩ := linesL_ok (by omega) hl
  unfold treeTx
  have hhl : (GA rule).length ≤ 35184372088932 := by unfold GA; simp; omega
  generalize EG L = l at *
  refine BQ (G := fun rec1 vs H1 => Sh.f3v H rec1 (ag vs 0) (ag vs 1) (ag vs 2) H1) l.length (fun i => [.str (NR (GA rule) (l.take i)), .sl (enL cS l) .no, .int .i64 (i : Int)]) (fun _ => H ++ [Blk.cel 0 (QA rule L)]) _ (by omega) (fun rec i hi => ?_) (fun rec => ?_)
  ·have hi' : (i : Int) < (l.length : Int) := by omega
   have hws := Av (show i < 9223372036854775807 by omega)
   have hb := QW (GA rule) l k2 i (by omega)
   have h2 := k2 l[i] (List.getElem_mem hi)
   rw [OZ _ l hi]
   unfold Sh.f3v
   simp only [GMb, GMc, A2, hi', Aw hi, Au, List.getElem?_cons_zero]
   rw [AV (by omega)]
   simp only [GMb, GMc]
   rw [AV (by simp; omega)]
   simp only [GMb, GMc, hws]
  ·unfold Sh.f3v
   rw [List.take_of_length_le (Nat.le_refl _)]
   simp only [GMb, GMc, A2, Int.lt_irrefl]
   exact rP_plain (v := .tup [.str (NR (GA rule) l), .int .i64 0]) rfl
end Go.Gm
namespace Go.Gm
set_option maxRecDepth 100000
def tA : List UInt8 := [91, 77, 50, 93, 10, 50, 32, 49]
def tB : List UInt8 := [91, 77, 50, 93, 32, 120, 13, 10, 35, 82, 32, 97, 98, 99, 10, 35, 67, 32, 121, 10, 35, 71, 32, 55, 10, 36, 36, 36, 36, 46, 46, 46, 46, 42, 36, 10, 52, 32, 49, 32, 48, 32, 48, 32, 48, 10, 53, 32, 48, 32, 48, 32, 48, 32, 50]
def tC : List UInt8 := [91, 77, 50, 93, 10, 49, 32, 48, 32, 48, 32, 48, 32, 50, 53, 53, 10, 50, 32, 49, 32, 48, 32, 49, 32, 48, 10]
def tD : List UInt8 := [91, 77, 50, 93, 10, 49, 32, 48, 32, 48, 32, 48, 32, 50, 53, 53, 10, 50, 32, 49]
def tE : List UInt8 := [91, 77, 50, 93, 10, 10]
def tF : List UInt8 := [91, 77, 50, 93, 10, 49, 32, 48, 32, 48, 32, 48, 32, 49, 10, 50, 32, 49, 32, 49, 32, 48, 32, 48]
def lB : List Nd := [⟨1, 1, 0, 0, 0⟩, ⟨2, 1, 0, 0, 0⟩, ⟨3, 0, 0, 0, 2⟩, ⟨4, 0, 0, 0, 3⟩]
def lC : List Nd := [⟨1, 0, 0, 0, 255⟩, ⟨2, 1, 0, 1, 0⟩]
def hD : List UInt8 := [32, 48, 32, 48, 32, 48]
def sB : List UInt8 := [91, 77, 50, 93, 32, 40, 103, 108, 105, 100, 101, 114, 41, 10, 35, 82, 32, 97, 98, 99, 10, 36, 36, 36, 36, 46, 46, 46, 46, 42, 36, 10, 52, 32, 48, 32, 48, 32, 48, 32, 49, 10]
def sC : List UInt8 := [91, 77, 50, 93, 32, 40, 103, 108, 105, 100, 101, 114, 41, 10, 35, 82, 32, 66, 51, 47, 83, 50, 51, 10, 49, 32, 48, 32, 48, 32, 48, 32, 50, 53, 53, 10, 50, 32, 49, 32, 48, 32, 49, 32, 48, 10]
theorem xA : JL tA 1000 100000 = (([], []), 7, 2) := by decide +kernel
theorem xB : JL tB 1000 100000 = (([97, 98, 99], lB), 0, 0) := by decide +kernel
theorem xC : JL tC 1000 100000 = ((Da, lC), 0, 0) := by decide +kernel
theorem xD : hintR tD = (hD, true) := by decide +kernel
theorem xD2 : (JL (tD ++ hD) 1000 100000).2.2 = 0 := by decide +kernel
theorem xE : hintR tE = ([], false) := by decide +kernel
theorem xF : JL tF 0 1 = (([], []), 15, 4) := by decide +kernel
theorem rB : (Iu [97, 98, 99] && CU lB) = true := by decide +kernel
theorem rC : (Iu Da && CU lC) = true := by decide +kernel
theorem wB : treeTx [97, 98, 99] lB = sB := by decide +kernel
theorem wC : treeTx Da lC = sC := by decide +kernel
theorem q19_alive (H : Ab) : Sh.fn H = some (.ret (.bool true), H) := by
 have hA := fun K => C8 tA 1000 100000 K (by decide)
 have hB := fun K => C8 tB 1000 100000 K (by decide)
 have hC := fun K => C8 tC 1000 100000 K (by decide)
 have hD1 := fun K => Mk tD K (by decide)
 have hD2 := fun K => C8 (tD ++ hD) 1000 100000 K (by decide)
 have hE := fun K => Mk tE K (by decide)
 have hF := fun K => C8 tF 0 1 K (by decide)
 have hTB := fun K => q14_text [97, 98, 99] lB K (by decide) (by decide)
 have hTC := fun K => q14_text Da lC K (by decide) (by decide)
 have hx2 := xD2
 generalize JL (tD ++ hD) 1000 100000 = R at hD2 hx2
 obtain ⟨⟨r1, r2⟩, r3, r4⟩ := R
 dsimp only at hx2
 subst hx2
 have hadd : Af .none .add (.str tD) (.str hD) = some (.str (tD ++ hD)) := AV (by decide)
 have b1 : A3 (some [(.int .i64 0), (.int .i64 0)]) [(1, 1, (.int .i64 1))] = some (.agg [.int .i64 0, .int .i64 1]) := rfl
 rw [xA] at hA
 rw [xB] at hB
 rw [xC] at hC
 rw [xD] at hD1
 rw [xE] at hE
 rw [xF] at hF
 rw [rB, wB] at hTB
 rw [rC, wC] at hTC
 simp only [Mi, MZ, if_true] at hA hB hC hD2 hF hTB hTC
 dsimp only at hD1 hE
 unfold Sh.fn
 rw [show ([91, 77, 50, 93, 10, 50, 32, 49] : List UInt8) = tA from rfl, show ([91, 77, 50, 93, 32, 120, 13, 10, 35, 82, 32, 97, 98, 99, 10, 35, 67, 32, 121, 10, 35, 71, 32, 55, 10, 36, 36, 36, 36, 46, 46, 46, 46, 42, 36, 10, 52, 32, 49, 32, 48, 32, 48, 32, 48, 10, 53, 32, 48, 32, 48, 32, 48, 32, 50] : List UInt8) = tB from rfl,
  show ([91, 77, 50, 93, 10, 49, 32, 48, 32, 48, 32, 48, 32, 50, 53, 53, 10, 50, 32, 49, 32, 48, 32, 49, 32, 48, 10] : List UInt8) = tC from rfl, show ([91, 77, 50, 93, 10, 49, 32, 48, 32, 48, 32, 48, 32, 50, 53, 53, 10, 50, 32, 49] : List UInt8) = tD from rfl,
  show ([91, 77, 50, 93, 10, 10] : List UInt8) = tE from rfl, show ([91, 77, 50, 93, 10, 49, 32, 48, 32, 48, 32, 48, 32, 49, 10, 50, 32, 49, 32, 49, 32, 48, 32, 48] : List UInt8) = tF from rfl,
  show ([91, 77, 50, 93, 32, 40, 103, 108, 105, 100, 101, 114, 41, 10, 35, 82, 32, 97, 98, 99, 10, 36, 36, 36, 36, 46, 46, 46, 46, 42, 36, 10, 52, 32, 48, 32, 48, 32, 48, 32, 49, 10] : List UInt8) = sB from rfl,
  show ([91, 77, 50, 93, 32, 40, 103, 108, 105, 100, 101, 114, 41, 10, 35, 82, 32, 66, 51, 47, 83, 50, 51, 10, 49, 32, 48, 32, 48, 32, 48, 32, 50, 53, 53, 10, 50, 32, 49, 32, 48, 32, 49, 32, 48, 10] : List UInt8) = sC from rfl]
 simp only [Sl.gliderref11_Wide_eq, Sl.macro_Read_eq, Sl.gliderref14_Text_eq, Sl.macro_Hint_eq, GMb, GMc, HPa, HPc, HPd, HPe, HPz, Nat.reduceAdd, Nat.reduceLT, q11_wide, hA, hB, hC, hD1, hadd, hD2, hE, hF, hTB, hTC, b1, Qx, beq_self_eq_true]
end Go.Gm
namespace Go.Gm
theorem BL {b t : List UInt8} {a : Nat} {c : UInt8} (h : b.drop a = c :: t) : a < b.length ∧ b[a]? = some c ∧ b.drop (a + 1) = t := by
 have hl : a < b.length := by
  rcases Nat.lt_or_ge a b.length with h' | h'
  ·exact h'
  ·rw [List.drop_eq_nil_of_le h'] at h; cases h
 rw [List.drop_eq_getElem_cons hl] at h
 injection h with h1 h2
 exact ⟨hl, by rw [List.getElem?_eq_getElem hl, h1], h2⟩
theorem Bl {b t : List UInt8} {a : Nat} {c : UInt8} (h : b.drop a = c :: t) (s : List UInt8) : A8 b a s = s.contains c := by
 unfold A8; rw [(BL h).2.1]
theorem MF {b t : List UInt8} {a d : Nat} (hd : d < 10) (h : b.drop a = UInt8.ofNat (48 + d) :: t) : A8 b a BM = true ∧ Dy b a = d := by
 have hn : (UInt8.ofNat (48 + d)).toNat = 48 + d := by rw [UInt8.toNat_ofNat']; omega
 refine ⟨?_, ?_⟩
 ·rw [Bl h]
  unfold BM
  rw [digs_mem, decide_eq_true_eq, hn]; omega
 ·unfold Dy
  rw [List.getD_eq_getElem?_getD, (BL h).2.1]
  show (UInt8.ofNat (48 + d)).toNat - 48 = d
  omega
theorem Ch {b s t : List UInt8} {a : Nat} (h : b.drop a = s ++ t) : b.drop (a + s.length) = t := by
 rw [← List.drop_drop, h, List.drop_left]
theorem lev_run (b : List UInt8) (a K : Nat) : ∀ (m : Nat), m ≤ 1329 → ∀ t, b.drop a = AT m ++ t → Ge b (K + (AT m).length) a 0 = Ge b K (a + (AT m).length) m := by
 intro m
 induction m using Nat.strongRecOn generalizing K with
 | _ m ih =>
  intro hm t h
  by_cases h10 : m < 10
  ·rw [Dm h10] at h ⊢
   obtain ⟨s1, s2⟩ := MF h10 h
   show Ge b (K + 1) a 0 = _
   conv => lhs; unfold Ge
   rw [if_pos s1, s2, if_neg (by omega)]
   simp
  ·rw [Dn h10] at h ⊢
   rw [List.append_assoc] at h
   have := ih (m / 10) (by omega) (K + 1) (by omega) _ h
   rw [List.length_append, List.length_singleton, show K + ((AT (m / 10)).length + 1) = K + 1 + (AT (m / 10)).length by omega, this]
   have h2 := Ch h
   obtain ⟨s1, s2⟩ := MF (show m % 10 < 10 by omega) h2
   conv => lhs; unfold Ge
   rw [if_pos s1, s2, if_neg (by omega), show 10 * (m / 10) + m % 10 = m by omega, Nat.add_assoc]
theorem level_ok {b t : List UInt8} {a v : Nat} {c : UInt8} (hv : 1 ≤ v) (hv2 : v ≤ 1329) (h : b.drop a = AT v ++ c :: t) (hc : BM.contains c = false) : Cd b a = (none, a + (AT v).length, v) := by
 have hl : (AT v).length + 1 ≤ b.length - a := by
  have := congrArg List.length h
  rw [List.length_drop, List.length_append, List.length_cons] at this; omega
 obtain ⟨c0, r0, h0, h0'⟩ := RH v (by omega)
 unfold Cd
 rw [if_neg (by
  rw [h0] at h
  rw [Bl (c := c0) (t := r0 ++ c :: t) (by rw [h]; rfl)]
  simpa using fun h => h0' h)]
 obtain ⟨K, hK⟩ : ∃ K, b.length + 1 - a = (K + 1) + (AT v).length := ⟨b.length - a - (AT v).length, by omega⟩
 rw [hK, lev_run b a (K + 1) v hv2 _ h]
 unfold Ge
 rw [Bl (Ch h), hc, if_neg (by decide), if_neg (by omega)]
section
variable {lines : List (Nat × Int)} {lv : Int}
theorem kid_run (b : List UInt8) (a K N0 : Nat) (rest : List UInt8) (hm0 : Df lines lv N0 = true) : ∀ (m : Nat) (s t : List UInt8), AT N0 = AT m ++ s → b.drop a = AT m ++ t → GR b lines lv a rest (K + (AT m).length) a 0 = GR b lines lv a rest K (a + (AT m).length) m := by
 intro m
 induction m using Nat.strongRecOn generalizing K with
 | _ m ih =>
  intro s t hs h
  have hlong : (EU lines lv m).isSome = true := (longS_iff lines lv m).2 ⟨N0, s, hs, hm0⟩
  by_cases h10 : m < 10
  ·rw [Dm h10] at h ⊢
   obtain ⟨s1, s2⟩ := MF h10 h
   show GR b lines lv a rest (K + 1) a 0 = _
   conv => lhs; unfold GR
   rw [if_pos s1, s2, if_neg (by omega), show 10 * 0 + m = m by omega, if_pos hlong]
   rfl
  ·rw [Dn h10] at h ⊢
   rw [Dn h10, List.append_assoc] at hs
   rw [List.append_assoc] at h
   have := ih (m / 10) (by omega) (K + 1) _ _ hs h
   rw [List.length_append, List.length_singleton, show K + ((AT (m / 10)).length + 1) = K + 1 + (AT (m / 10)).length by omega, this]
   have h2 := Ch h
   obtain ⟨s1, s2⟩ := MF (show m % 10 < 10 by omega) h2
   conv => lhs; unfold GR
   rw [if_pos s1, s2, if_neg (by omega), show 10 * (m / 10) + m % 10 = m by omega, if_pos hlong, Nat.add_assoc]
theorem kid_ok {b t : List UInt8} {a n : Nat} {c : UInt8} (rest : List UInt8) (h : b.drop a = AT n ++ c :: t) (hc : BM.contains c = false) (hm : Df lines lv n = true) : Mz b a lines lv rest = (none, a + (AT n).length, Db lines lv n) := by
 have hl : (AT n).length + 1 ≤ b.length - a := by
  have := congrArg List.length h
  rw [List.length_drop, List.length_append, List.length_cons] at this; omega
 obtain ⟨K, hK⟩ : ∃ K, b.length + 1 - a = (K + 1) + (AT n).length := ⟨b.length - a - (AT n).length, by omega⟩
 have hp := Qo n
 unfold Mz
 rw [hK, kid_run b a (K + 1) n rest hm n [] _ (by simp) h]
 unfold GR
 rw [Bl (Ch h), hc, if_neg (by decide), if_neg (by omega), if_pos hm]
theorem must_one {b t : List UInt8} {a : Nat} {c : UInt8} (h : b.drop a = c :: t) (rest : List UInt8) : B3 b a [c] rest = (none, a + 1) := by
 have h1 : cpN (b.drop a) [c] = 1 := by
  rw [h]
  show (if c = c then cpN t [] + 1 else 0) = 1
  rw [if_pos rfl]
  cases t <;> rfl
 unfold B3 G2
 rw [h1]
 rfl
theorem KR {b t : List UInt8} {a n : Nat} {c : UInt8} (d k : Nat) (x : Nd) (rest : List UInt8) (h : b.drop a = 32 :: (AT n ++ c :: t)) (hc : BM.contains c = false) (hm : Df lines lv n = true) :
  Ei b lines lv (d + 1) k a x rest = Ei b lines lv d (k + 1) (a + 1 + (AT n).length) (x.setKid k (Db lines lv n : Int)) (rest.drop 2) := by
 conv => lhs; unfold Ei
 rw [must_one h]
 dsimp only
 rw [kid_ok rest (BL h).2.2 hc hm]

end
def lnT (v n0 n1 n2 n3 : Nat) : List UInt8 := AT v ++ (32 :: AT n0 ++ (32 :: AT n1 ++ (32 :: AT n2 ++ 32 :: AT n3)))
theorem dig32 : BM.contains (32 : UInt8) = false := by decide
theorem node_ok {b t : List UInt8} {a v n0 n1 n2 n3 : Nat} {c : UInt8} (st : MSt) (hv : 1 ≤ v) (hv2 : v ≤ 1329) (h : b.drop a = lnT v n0 n1 n2 n3 ++ c :: t) (hc : BM.contains c = false)
  (h0 : Df st.lines v n0 = true) (h1 : Df st.lines v n1 = true) (h2 : Df st.lines v n2 = true) (h3 : Df st.lines v n3 = true) :
  Mp b a st = ((none, a + (lnT v n0 n1 n2 n3).length), { st with nodes := st.nodes ++ [⟨v, Db st.lines v n0, Db st.lines v n1, Db st.lines v n2, Db st.lines v n3⟩], lines := st.lines ++ [(st.nodes.length + 1, (v : Int))] }) := by
 unfold lnT at h
 simp only [List.append_assoc, List.cons_append] at h
 unfold Mp
 rw [level_ok hv hv2 h dig32]
 dsimp only
 have d0 := Ch h
 have s0 := KR (lines := st.lines) (lv := (v : Int)) 3 0 ⟨v, 0, 0, 0, 0⟩ [32, 48, 32, 48, 32, 48] d0 dig32 h0
 rw [s0]
 have d1 := Ch (BL d0).2.2
 rw [KR (lines := st.lines) (lv := (v : Int)) 2 1 _ _ d1 dig32 h1]
 have d2 := Ch (BL d1).2.2
 rw [KR (lines := st.lines) (lv := (v : Int)) 1 2 _ _ d2 dig32 h2]
 have d3 := Ch (BL d2).2.2
 rw [KR (lines := st.lines) (lv := (v : Int)) 0 3 _ _ d3 hc h3]
 unfold Ei
 dsimp only
 have hlen : a + (AT v).length + 1 + (AT n0).length + 1 + (AT n1).length + 1 + (AT n2).length + 1 + (AT n3).length = a + (lnT v n0 n1 n2 n3).length := by
  unfold lnT; simp only [List.length_append, List.length_cons, List.cons_append]; omega
 rw [hlen]
 rfl
end Go.Gm
namespace Go.Gm
def ndT (x : Nd) : List UInt8 := lnT x.lv.toNat x.k0.toNat x.k1.toNat x.k2.toNat x.k3.toNat
def Cm (l : List Nd) : List UInt8 := l.flatMap fun x => ndT x ++ [10]
def BG (l : List Nd) : List (Nat × Int) := (List.range l.length).map fun i => (i + 1, (l.getD i nd0).lv)
theorem KO (l : List Nd) : (BG l).length = l.length := by simp [BG]
theorem PK (l : List Nd) (x : Nd) : BG (l ++ [x]) = BG l ++ [(l.length + 1, x.lv)] := by
 unfold BG
 rw [List.length_append, List.length_singleton, List.range_succ, List.map_append]
 congr 1
 ·apply List.map_congr_left
  intro i hi
  rw [List.mem_range] at hi
  rw [List.getD_eq_getElem?_getD, List.getD_eq_getElem?_getD, List.getElem?_append_left hi]
 ·simp
theorem Ru {l : List Nd} {i : Nat} (h : i < l.length) : (BG l)[i]? = some (i + 1, l[i].lv) := by
 unfold BG
 rw [List.getElem?_map, List.getElem?_range h]
 simp [List.getElem?_eq_getElem h]
theorem Kq {pre post : List Nd} {x : Nd} (hl : Ar (pre ++ x :: post) = true) {k : Nat} (hk : k < 4) : Df (BG pre) x.lv (x.kid k).toNat = true ∧ (Db (BG pre) x.lv (x.kid k).toNat : Int) = x.kid k := by
 have hi : pre.length < (pre ++ x :: post).length := by simp
 have hx : (pre ++ x :: post)[pre.length] = x := by simp
 obtain ⟨h1, h2, h3⟩ := Ax hl hi
 rw [hx] at h1 h2 h3
 obtain ⟨g1, g2, g3⟩ := h3 k hk
 have hbase : ¬ (1 < x.lv ∧ 0 < (x.kid k).toNat) → (Db (BG pre) x.lv (x.kid k).toNat : Int) = x.kid k := fun h => by
  unfold Db; rw [if_neg h, Int.toNat_of_nonneg g1]
 by_cases hv : x.lv = 1
 ·refine ⟨?_, hbase (by omega)⟩
  unfold Df
  rw [if_pos hv, decide_eq_true_eq]
  have := g2 hv; omega
 ·by_cases h0 : (x.kid k).toNat = 0
  ·refine ⟨?_, hbase (by omega)⟩
   unfold Df
   rw [if_neg hv, if_pos h0]
  ·obtain ⟨q1, q2⟩ := g3 (by omega) (by omega)
   have hlt : (x.kid k).toNat - 1 < pre.length := by omega
   have hg := Ru hlt
   have hq := q2 pre[(x.kid k).toNat - 1] (by
    rw [show (x.kid k - 1).toNat = (x.kid k).toNat - 1 by omega, List.getElem?_append_left hlt, List.getElem?_eq_getElem hlt])
   refine ⟨?_, ?_⟩
   ·unfold Df
    rw [if_neg hv, if_neg h0, hg]
    exact decide_eq_true hq
   ·unfold Db
    rw [if_pos ⟨by omega, by omega⟩, hg]
    simp only [Option.getD_some]
    omega
theorem nd_head {v : Nat} (h : v ≠ 0) (r : List UInt8) : ∃ c t, AT v ++ r = c :: t ∧ ([46, 42, 36] : List UInt8).contains c = false ∧ ([35] : List UInt8).contains c = false ∧ ([46, 42, 36, 49, 50, 51, 52, 53, 54, 55, 56, 57] : List UInt8).contains c = true := by
 obtain ⟨c, t, h1, h2⟩ := RH v h
 have hd := decN_dig v c (by rw [h1]; simp)
 refine ⟨c, t ++ r, by rw [h1]; rfl, ?_⟩
 have key : ∀ n : Fin 256, Fq (UInt8.ofNat n.val) = true → UInt8.ofNat n.val ≠ 48 → (([46, 42, 36] : List UInt8).contains (UInt8.ofNat n.val) = false ∧ ([35] : List UInt8).contains (UInt8.ofNat n.val) = false ∧ ([46, 42, 36, 49, 50, 51, 52, 53, 54, 55, 56, 57] : List UInt8).contains (UInt8.ofNat n.val) = true) := by decide +kernel
 have := key ⟨c.toNat, c.toNat_lt⟩
 simp only [UInt8.ofNat_toNat] at this
 exact this hd h2
theorem end_lf {b t : List UInt8} {a : Nat} (h : b.drop a = 10 :: t) (rest : List UInt8) : G4 b a rest = (none, a + 1) := by
 have hne : a ≠ b.length := by have := (BL h).1; omega
 have h13 : A8 b a [13] = false := by rw [Bl h]; decide
 have h10 : A8 b a [10] = true := by rw [Bl h]; decide
 unfold G4 eolN crN
 simp only [h13, h10, if_neg hne, Bool.false_eq_true, if_false, if_true]
theorem ndT_lv {x : Nd} (h : 1 ≤ x.lv) (r : List UInt8) : ∃ s, ndT x ++ r = AT x.lv.toNat ++ s := ⟨_, by unfold ndT lnT; rw [List.append_assoc]⟩
theorem one_ok {b t : List UInt8} {a : Nat} {law : List UInt8} {pre post : List Nd} {x : Nd} {N : Int} (hl : Ar (pre ++ x :: post) = true) (h : b.drop a = ndT x ++ 10 :: t) (hN : (pre.length : Int) < N) :
  IX b N a ⟨law, pre, BG pre⟩ = ((none, a + (ndT x).length + 1), ⟨law, pre ++ [x], BG (pre ++ [x])⟩) := by
 have hi : pre.length < (pre ++ x :: post).length := by simp
 have hx : (pre ++ x :: post)[pre.length] = x := by simp
 obtain ⟨h1, h2, h3⟩ := Ax hl hi
 rw [hx] at h1 h2 h3
 obtain ⟨s, hs⟩ := ndT_lv h1 (10 :: t)
 obtain ⟨c, u, e1, e2, e3, e4⟩ := nd_head (v := x.lv.toNat) (by omega) s
 have hd : b.drop a = c :: u := by rw [h, hs, e1]
 have m0 := Kq hl (k := 0) (by decide)
 have m1 := Kq hl (k := 1) (by decide)
 have m2 := Kq hl (k := 2) (by decide)
 have m3 := Kq hl (k := 3) (by decide)
 have hlv : (x.lv.toNat : Int) = x.lv := Int.toNat_of_nonneg (by omega)
 have hnode := node_ok (t := t) (c := 10) ⟨law, pre, BG pre⟩ (v := x.lv.toNat) (n0 := x.k0.toNat) (n1 := x.k1.toNat) (n2 := x.k2.toNat) (n3 := x.k3.toNat) (by omega) (by omega) h (by decide)
  (by rw [hlv]; exact m0.1) (by rw [hlv]; exact m1.1) (by rw [hlv]; exact m2.1) (by rw [hlv]; exact m3.1)
 unfold IX rlS
 rw [Bl hd, Bl hd, Bl hd, e2, e3, e4]
 dsimp only
 rw [KO, if_neg (by decide), if_neg (by simp; omega), if_neg (by decide), hnode]
 dsimp only
 rw [show lnT x.lv.toNat x.k0.toNat x.k1.toNat x.k2.toNat x.k3.toNat = ndT x from rfl, end_lf (Ch h)]
 have hxx : (⟨(x.lv.toNat : Int), Db (BG pre) (x.lv.toNat : Int) x.k0.toNat, Db (BG pre) (x.lv.toNat : Int) x.k1.toNat, Db (BG pre) (x.lv.toNat : Int) x.k2.toNat, Db (BG pre) (x.lv.toNat : Int) x.k3.toNat⟩ : Nd) = x := by
  rw [hlv]
  obtain ⟨y0, y1, y2, y3, y4⟩ := x
  have q0 := m0.2; have q1 := m1.2; have q2 := m2.2; have q3 := m3.2
  simp only [Nd.kid] at q0 q1 q2 q3
  simp only [q0, q1, q2, q3]
 rw [PK, hxx, hlv]
theorem Ks (x : Nd) (l : List Nd) : Cm (x :: l) = ndT x ++ 10 :: Cm l := by
 unfold Cm; rw [List.flatMap_cons, List.append_assoc]; rfl
theorem Mr (x : Nd) : 0 < (ndT x).length := by
 unfold ndT lnT; rw [List.length_append]; have := Qo x.lv.toNat; omega
theorem lines_ok (b : List UInt8) (law : List UInt8) (N : Int) : ∀ (mid pre post : List Nd) (a K : Nat) (t : List UInt8), Ar (pre ++ mid ++ post) = true → b.drop a = Cm mid ++ t → ((pre.length + mid.length : Nat) : Int) ≤ N →
  BI b N (K + mid.length) a ⟨law, pre, BG pre⟩ = BI b N K (a + (Cm mid).length) ⟨law, pre ++ mid, BG (pre ++ mid)⟩
 | [], pre, post, a, K, t, _, _, _ => by simp [Cm]
 | x :: mid, pre, post, a, K, t, hl, h, hN => by
  rw [Ks, List.append_assoc, List.cons_append] at h
  simp only [List.append_assoc, List.cons_append] at hl
  simp only [List.length_cons] at hN ⊢
  have ho := one_ok (law := law) (N := N) hl h (by omega)
  have hd := (BL (Ch h)).2.2
  have hne : ¬ a = b.length := by
   intro e
   rw [e, List.drop_length] at h
   have := congrArg List.length h
   have hp := Mr x
   simp only [List.length_append, List.length_nil, List.length_cons] at this; omega
  rw [show K + (mid.length + 1) = (K + mid.length) + 1 by omega]
  conv => lhs; unfold BI
  rw [if_neg hne, ho]
  dsimp only
  have := lines_ok b law N mid (pre ++ [x]) post (a + (ndT x).length + 1) K t (by simpa using hl) hd (by simp only [List.length_append, List.length_singleton]; omega)
  rw [this, Ks]
  simp only [List.append_assoc, List.cons_append, List.nil_append, List.length_append, List.length_cons]
  rw [show a + (ndT x).length + 1 + (Cm mid).length = a + ((ndT x).length + ((Cm mid).length + 1)) by omega]
def CQ (l : List Nd) : List UInt8 := C2 ++ 10 :: Cm l
theorem head_ok (l : List Nd) : hdS (CQ l) = (none, 5) := by
 have h0 : (CQ l).drop 0 = 91 :: 77 :: 50 :: 93 :: 10 :: Cm l := rfl
 have hm : B3 (CQ l) 0 C2 [] = (none, 4) := by
  have : cpN ((CQ l).drop 0) C2 = 4 := by
   rw [h0]
   show (if (91 : UInt8) = 91 then (if (77 : UInt8) = 77 then (if (50 : UInt8) = 50 then (if (93 : UInt8) = 93 then cpN (10 :: Cm l) [] + 1 else 0) + 1 else 0) + 1 else 0) + 1 else 0) = 4
   have : cpN (10 :: Cm l) [] = 0 := rfl
   rw [this]; decide
  unfold B3 G2
  rw [this]; rfl
 have h4 : (CQ l).drop 4 = 10 :: Cm l := rfl
 have ha : Ff (CQ l) 4 = 4 := by
  unfold Ff; rw [h4]; rfl
 unfold hdS
 rw [hm]
 dsimp only
 rw [ha, end_lf h4]
theorem root_lns {l : List Nd} : Ed (BG l) = l.length := by
 unfold Ed
 rw [List.getLast?_eq_getElem?, KO]
 by_cases h : l.length = 0
 ·rw [h, List.getElem?_eq_none (by rw [KO]; omega)]
 ·rw [Ru (by omega)]; dsimp only; omega
theorem linesT_len (l : List Nd) : l.length ≤ (Cm l).length := by
 induction l with
 | nil => simp
 | cons x l ih => rw [Ks, List.length_append, List.length_cons, List.length_cons]; have := Mr x; omega
theorem read_loose {l : List Nd} (hl : Ar l = true) {N : Int} (hN : (l.length : Int) ≤ N) : Gf (CQ l) N GN = ((none, (CQ l).length), ⟨Da, l, BG l⟩) := by
 rw [RT, head_ok]
 dsimp only
 have hlen : (CQ l).length = 5 + (Cm l).length := by unfold CQ C2; simp; omega
 have hd : (CQ l).drop 5 = Cm l ++ [] := by rw [List.append_nil]; rfl
 have hll := linesT_len l
 obtain ⟨K, hK⟩ : ∃ K, (CQ l).length + 1 = (K + 1) + l.length := ⟨(CQ l).length - l.length, by omega⟩
 have := lines_ok (CQ l) Da N l [] [] 5 (K + 1) [] (by simpa using hl) hd (by simpa using hN)
 have h0 : (⟨Da, [], BG []⟩ : MSt) = GN := rfl
 rw [h0] at this
 rw [hK, this]
 unfold BI
 rw [if_pos hlen.symm, hlen]
 rfl
end Go.Gm
namespace Go.Gm
theorem Qs : B7 [] 0 = [] := by
 have := GY (L := []) rfl (v := 0) (n := 0) ⟨Nat.le_refl _, .inl rfl⟩
 rw [this, D8]; rfl
theorem canon_idem {L : List Nd} (hl : Ar L = true) : B7 (B7 L L.length) (B7 L L.length).length = B7 L L.length ∧ Ar (B7 L L.length) = true := by
 have h : Lv L (Ak L (L.length : Int)).lv.toNat L.length := ⟨Nat.le_refl _, .inr rfl⟩
 have hg := JJ hl _ _ h
 rw [GY hl h]
 generalize (Ak L (L.length : Int)).lv.toNat = v at h hg
 generalize sem L v L.length = t at hg
 by_cases hn : t = .nil
 ·have : CR v t = [] := by unfold CR; rw [if_pos hn]
  rw [this]
  exact ⟨Qs, rfl⟩
 ·obtain ⟨c1, c2, c3, c4⟩ := (canonT_right hg).2 hn
  obtain ⟨s1, s2, s3⟩ := shrT_ok v t hg hn
  refine ⟨?_, c1.lo⟩
  rw [GY c1.lo c3, c4]
  have hs : ∀ w u, QG u = false → EC w u = (w, u) := fun w u hu => by
   cases w with
   | zero => rfl
   | succ w => unfold EC; rw [hu]; rfl
  have e1 : CR (EC v t).1 (EC v t).2 = (AA (EC v t).1 (EC v t).2 []).1 := by
   unfold CR; rw [if_neg s2, hs _ _ s3]
  have e2 : CR v t = (AA (EC v t).1 (EC v t).2 []).1 := by unfold CR; rw [if_neg hn]
  rw [e1, e2]
def shK (k : Int) : Int := if 0 < k then k + 1 else k
def shN (x : Nd) : Nd := if 1 < x.lv then ⟨x.lv, shK x.k0, shK x.k1, shK x.k2, shK x.k3⟩ else x
def E4 (z : Int) : Nd := ⟨1, z, 0, 0, 0⟩
def DM (z : Int) (Q : List Nd) : List Nd := E4 z :: Q.map shN
theorem LF (x : Nd) : (shN x).lv = x.lv := by unfold shN; split <;> rfl
theorem shN_kid (x : Nd) {k : Nat} (hk : k < 4) : (shN x).kid k = if 1 < x.lv then shK (x.kid k) else x.kid k := by
 unfold shN
 split
 ·match k, hk with
  | 0, _ => rfl
  | 1, _ => rfl
  | 2, _ => rfl
  | 3, _ => rfl
 ·rfl
theorem EX (z : Int) (Q : List Nd) : (DM z Q).length = Q.length + 1 := by simp [DM]
theorem idlW_at (z : Int) {Q : List Nd} {n : Nat} (h1 : 1 ≤ n) (hn : n ≤ Q.length) : Ak (DM z Q) ((n + 1 : Nat) : Int) = shN (Ak Q (n : Int)) := by
 obtain ⟨m, rfl⟩ : ∃ m, n = m + 1 := ⟨n - 1, by omega⟩
 rw [A6 (by rw [EX]; omega), A6 hn]
 simp [DM]
end Go.Gm
namespace Go.Gm
section
variable {z : Int} {Q : List Nd}
theorem shK_zero {k : Int} (h : 0 ≤ k) : shK k = 0 ↔ k = 0 := by unfold shK; split <;> omega
theorem kid_get (hl : Ar Q = true) {n k : Nat} (h1 : 1 ≤ n) (hn : n ≤ Q.length) (hk : k < 4) : 0 ≤ (Ak Q (n : Int)).kid k ∧ (1 < (Ak Q (n : Int)).lv → 0 < (Ak Q (n : Int)).kid k → (Ak Q (n : Int)).kid k < (n : Int)) := by
 obtain ⟨m, rfl⟩ : ∃ m, n = m + 1 := ⟨n - 1, by omega⟩
 rw [A6 hn]
 obtain ⟨_, _, h3⟩ := Ax hl hn
 obtain ⟨g1, g2, g3⟩ := h3 k hk
 exact ⟨g1, fun a b => by have := (g3 a b).1; omega⟩
theorem emp_shift (hl : Ar Q = true) (hw : Ar (DM z Q) = true) : ∀ n, 1 ≤ n → n ≤ Q.length → (Ap (DM z Q)).getD (n + 1) true = (Ap Q).getD n true := by
 intro n
 induction n using Nat.strongRecOn with
 | _ n ih =>
  intro h1 hn
  rw [KY hw (by omega) (by rw [EX]; omega), KY hl (by omega) hn, idlW_at z h1 hn, LF]
  rw [Bool.eq_iff_iff]
  simp only [List.all_eq_true, List.mem_range]
  have key : ∀ k, k < 4 → (decide ((shN (Ak Q (n : Int))).kid k = 0) || (decide (1 < (Ak Q (n : Int)).lv) && (Ap (DM z Q)).getD ((shN (Ak Q (n : Int))).kid k).toNat true)) = (decide ((Ak Q (n : Int)).kid k = 0) || (decide (1 < (Ak Q (n : Int)).lv) && (Ap Q).getD ((Ak Q (n : Int)).kid k).toNat true)) := by
   intro k hk
   obtain ⟨g1, g2⟩ := kid_get hl h1 hn hk
   rw [shN_kid _ hk]
   by_cases hv : 1 < (Ak Q (n : Int)).lv
   ·rw [if_pos hv]
    by_cases h0 : (Ak Q (n : Int)).kid k = 0
    ·rw [h0]; rfl
    ·have hp : 0 < (Ak Q (n : Int)).kid k := by omega
     have hlt := g2 hv hp
     have e : (shK ((Ak Q (n : Int)).kid k)).toNat = ((Ak Q (n : Int)).kid k).toNat + 1 := by unfold shK; rw [if_pos hp]; omega
     have e0 : ¬ shK ((Ak Q (n : Int)).kid k) = 0 := by rw [shK_zero g1]; exact h0
     rw [e, ih _ (by omega) (by omega) (by omega), decide_eq_false e0, decide_eq_false h0]
   ·rw [if_neg hv, decide_eq_false hv]
    simp
  exact ⟨fun h k hk => by rw [← key k hk]; exact h k hk, fun h k hk => by rw [key k hk]; exact h k hk⟩
theorem sem_shift (hl : Ar Q = true) (hw : Ar (DM z Q) = true) : ∀ v n, 1 ≤ n → n ≤ Q.length → sem (DM z Q) v (n + 1) = sem Q v n := by
 intro v
 induction v with
 | zero => intro n _ _; rfl
 | succ v ih =>
  intro n h1 hn
  have kid : 1 < (Ak Q (n : Int)).lv → ∀ k, k < 4 → sem (DM z Q) v ((shN (Ak Q (n : Int))).kid k).toNat = sem Q v ((Ak Q (n : Int)).kid k).toNat := by
   intro hv k hk
   obtain ⟨g1, g2⟩ := kid_get hl h1 hn hk
   rw [shN_kid _ hk, if_pos hv]
   by_cases h0 : (Ak Q (n : Int)).kid k = 0
   ·rw [h0]
    show sem (DM z Q) v 0 = sem Q v 0
    rw [D8, D8]
   ·have hp : 0 < (Ak Q (n : Int)).kid k := by omega
    have hlt := g2 hv hp
    have e : (shK ((Ak Q (n : Int)).kid k)).toNat = ((Ak Q (n : Int)).kid k).toNat + 1 := by unfold shK; rw [if_pos hp]; omega
    rw [e]
    exact ih _ (by omega) (by omega)
  show GH _ _ (v + 1) (n + 1) = GH _ _ (v + 1) n
  unfold GH
  rw [emp_shift hl hw n h1 hn, idlW_at z h1 hn, LF]
  by_cases he : (Ap Q).getD n true = true
  ·rw [if_pos he, if_pos he]
  ·rw [if_neg he, if_neg he]
   by_cases hv : 1 < (Ak Q (n : Int)).lv
   ·rw [if_pos hv, if_pos hv]
    have k0 := kid hv 0 (by decide); have k1 := kid hv 1 (by decide); have k2 := kid hv 2 (by decide); have k3 := kid hv 3 (by decide)
    simp only [Nd.kid, sem] at k0 k1 k2 k3
    rw [k0, k1, k2, k3]
   ·rw [if_neg hv, if_neg hv]
    have : shN (Ak Q (n : Int)) = Ak Q (n : Int) := by unfold shN; rw [if_neg hv]
    rw [this]
theorem KS (h0 : 0 ≤ z) (h1 : z ≤ 255) (hl : Ar Q = true) : ∀ i, i ≤ Q.length → Ar (DM z (Q.take i)) = true
 | 0, _ => by
  have : Ar ([] ++ [E4 z]) = true := EF (L := []) rfl (OJ (L := []) (x := E4 z) (show (1 : Int) ≤ 1 from by decide) (show (1 : Int) ≤ 1329 from by decide) fun k hk => by
   have e : ∀ k, k < 4 → (E4 z).kid k = z ∨ (E4 z).kid k = 0 := fun k hk => by
    match k, hk with
    | 0, _ => exact .inl rfl
    | 1, _ => exact .inr rfl
    | 2, _ => exact .inr rfl
    | 3, _ => exact .inr rfl
   have hv : (E4 z).lv = 1 := rfl
   refine ⟨by rcases e k hk with h | h <;> omega, fun _ => by rcases e k hk with h | h <;> omega, fun a => by omega⟩)
  exact this
 | i + 1, hi => by
  have ih := KS h0 h1 hl i (by omega)
  have hlt : i < Q.length := hi
  have e : DM z (Q.take (i + 1)) = DM z (Q.take i) ++ [shN Q[i]] := by
   unfold DM
   rw [List.take_succ_eq_append_getElem hlt, List.map_append]; rfl
  rw [e]
  obtain ⟨q1, q2, q3⟩ := Ax hl hlt
  have hlen : (DM z (Q.take i)).length = i + 1 := by rw [EX, List.length_take]; omega
  refine EF ih (OJ (by rw [LF]; exact q1) (by rw [LF]; exact q2) fun k hk => ?_)
  obtain ⟨g1, g2, g3⟩ := q3 k hk
  rw [shN_kid _ hk, LF, hlen]
  by_cases hv : 1 < Q[i].lv
  ·rw [if_pos hv]
   by_cases hp : 0 < Q[i].kid k
   ·obtain ⟨r1, r2⟩ := g3 hv hp
    have es : shK (Q[i].kid k) = Q[i].kid k + 1 := by unfold shK; rw [if_pos hp]
    rw [es]
    refine ⟨by omega, fun a => by omega, fun _ _ => ⟨by omega, fun y hy => ?_⟩⟩
    obtain ⟨m, hm⟩ : ∃ m : Nat, Q[i].kid k = ((m + 1 : Nat) : Int) := ⟨(Q[i].kid k).toNat - 1, by omega⟩
    have hmi : m < i := by omega
    have hmQ : m < Q.length := by omega
    rw [hm, show (((m + 1 : Nat) : Int) + 1 - 1).toNat = m + 1 by omega] at hy
    have e2 : (DM z (Q.take i))[m + 1]? = some (shN Q[m]) := by
     unfold DM
     rw [List.getElem?_cons_succ, List.getElem?_map, List.getElem?_take_of_lt hmi, List.getElem?_eq_getElem hmQ]; rfl
    rw [e2] at hy
    injection hy with hy
    rw [← hy, LF]
    exact r2 Q[m] (by rw [hm, show (((m + 1 : Nat) : Int) - 1).toNat = m by omega, List.getElem?_eq_getElem hmQ])
   ·have es : shK (Q[i].kid k) = Q[i].kid k := by unfold shK; rw [if_neg hp]
    rw [es]
    exact ⟨g1, g2, fun _ b => absurd b hp⟩
  ·rw [if_neg hv]
   exact ⟨g1, g2, fun a => absurd a hv⟩
theorem canon_shift (hl : Ar Q = true) (hw : Ar (DM z Q) = true) (hp : 0 < Q.length) : B7 (DM z Q) (DM z Q).length = B7 Q Q.length := by
 have h : Lv Q (Ak Q (Q.length : Int)).lv.toNat Q.length := ⟨Nat.le_refl _, .inr rfl⟩
 have h' : Lv (DM z Q) (Ak Q (Q.length : Int)).lv.toNat (Q.length + 1) := ⟨by rw [EX]; exact Nat.le_refl _, .inr (by rw [idlW_at z hp (Nat.le_refl _), LF])⟩
 rw [EX, GY hw h', GY hl h, sem_shift hl hw _ _ hp (Nat.le_refl _)]

end
end Go.Gm
namespace Go.Gm
theorem MC {b t : List UInt8} {a : Nat} (h : b.drop a = 13 :: 10 :: t) (rest : List UInt8) : G4 b a rest = (none, a + 2) := by
 have hne : a ≠ b.length := by have := (BL h).1; omega
 have h13 : A8 b a [13] = true := by rw [Bl h]; decide
 have h10 : A8 b (a + 1) [10] = true := by rw [Bl (BL h).2.2]; decide
 unfold G4 eolN crN
 simp only [h13, h10, if_neg hne, if_true]
theorem one_cr {b t : List UInt8} {a : Nat} {law : List UInt8} {pre post : List Nd} {x : Nd} {N : Int} (hl : Ar (pre ++ x :: post) = true) (h : b.drop a = ndT x ++ 13 :: 10 :: t) (hN : (pre.length : Int) < N) :
  IX b N a ⟨law, pre, BG pre⟩ = ((none, a + (ndT x).length + 2), ⟨law, pre ++ [x], BG (pre ++ [x])⟩) := by
 have hi : pre.length < (pre ++ x :: post).length := by simp
 have hx : (pre ++ x :: post)[pre.length] = x := by simp
 obtain ⟨h1, h2, h3⟩ := Ax hl hi
 rw [hx] at h1 h2 h3
 obtain ⟨s, hs⟩ := ndT_lv h1 (13 :: 10 :: t)
 obtain ⟨c, u, e1, e2, e3, e4⟩ := nd_head (v := x.lv.toNat) (by omega) s
 have hd : b.drop a = c :: u := by rw [h, hs, e1]
 have m0 := Kq hl (k := 0) (by decide)
 have m1 := Kq hl (k := 1) (by decide)
 have m2 := Kq hl (k := 2) (by decide)
 have m3 := Kq hl (k := 3) (by decide)
 have hlv : (x.lv.toNat : Int) = x.lv := Int.toNat_of_nonneg (by omega)
 have hnode := node_ok (t := 10 :: t) (c := 13) ⟨law, pre, BG pre⟩ (v := x.lv.toNat) (n0 := x.k0.toNat) (n1 := x.k1.toNat) (n2 := x.k2.toNat) (n3 := x.k3.toNat) (by omega) (by omega) h (by decide)
  (by rw [hlv]; exact m0.1) (by rw [hlv]; exact m1.1) (by rw [hlv]; exact m2.1) (by rw [hlv]; exact m3.1)
 unfold IX rlS
 rw [Bl hd, Bl hd, Bl hd, e2, e3, e4]
 dsimp only
 rw [KO, if_neg (by decide), if_neg (by simp; omega), if_neg (by decide), hnode]
 dsimp only
 rw [show lnT x.lv.toNat x.k0.toNat x.k1.toNat x.k2.toNat x.k3.toNat = ndT x from rfl, MC (Ch h)]
 have hxx : (⟨(x.lv.toNat : Int), Db (BG pre) (x.lv.toNat : Int) x.k0.toNat, Db (BG pre) (x.lv.toNat : Int) x.k1.toNat, Db (BG pre) (x.lv.toNat : Int) x.k2.toNat, Db (BG pre) (x.lv.toNat : Int) x.k3.toNat⟩ : Nd) = x := by
  rw [hlv]
  obtain ⟨y0, y1, y2, y3, y4⟩ := x
  have q0 := m0.2; have q1 := m1.2; have q2 := m2.2; have q3 := m3.2
  simp only [Nd.kid] at q0 q1 q2 q3
  simp only [q0, q1, q2, q3]
 rw [PK, hxx, hlv]
def Oe : List UInt8 := [35, 67, 105, 100, 108, 101]
theorem idle_line {b t : List UInt8} {a : Nat} (h : b.drop a = Oe ++ 13 :: 10 :: t) (N : Int) (st : MSt) : IX b N a st = ((none, a + 8), st) := by
 have hd : b.drop a = 35 :: 67 :: 105 :: 100 :: 108 :: 101 :: 13 :: 10 :: t := h
 have h1 : b.drop (a + 1) = 67 :: 105 :: 100 :: 108 :: 101 :: 13 :: 10 :: t := (BL hd).2.2
 have h2 : b.drop (a + 6) = 13 :: 10 :: t := Ch h
 have hany : Ff b (a + 1) = a + 6 := by
  unfold Ff; rw [h1]; rfl
 unfold IX rlS Mw
 rw [Bl hd, Bl h1, if_pos (by decide), if_pos (by decide), hany]
 dsimp only
 rw [MC h2]
end Go.Gm
namespace Go.Gm
def EV (x : Nd) : Nat → List UInt8
 | 0 => G5 x.lv
 | k + 1 => EV x k ++ [32] ++ G5 (x.kid k)
def fitsN (x : Nd) : Prop := (-9223372036854775808 ≤ x.lv ∧ x.lv ≤ 9223372036854775807) ∧ ∀ k, k < 4 → -9223372036854775808 ≤ x.kid k ∧ x.kid k ≤ 9223372036854775807
theorem Qn {z : Int} (h : -9223372036854775808 ≤ z ∧ z ≤ 9223372036854775807) : (G5 z).length ≤ 500 := by
 have h1 := ND 20 z.natAbs (by omega)
 simp at h1
 unfold G5
 split
 ·simp only [List.length_cons]; omega
 ·omega
theorem KP {x : Nd} (h : fitsN x) : ∀ k, k ≤ 4 → (EV x k).length ≤ 500 + k * 501
 | 0, _ => by have := Qn h.1; show (G5 x.lv).length ≤ _; omega
 | k + 1, hk => by
  have h1 := KP h k (by omega)
  have h2 := Qn (h.2 k (by omega))
  unfold EV
  simp only [List.length_append, List.length_singleton]; omega
theorem Pu {x : Nd} (h : fitsN x) (H : Ab) : Sh.fe (.agg (cNd x)) H = some (.ret (.str (EV x 4)), H) := by
 have hof := fun K => q02_of x.lv K h.1.1 h.1.2
 have htx := fun K => Pw x.lv K (MV (Np h.1.1 h.1.2)).1
 have hcell : (H ++ [Blk.cel 0 (cNd x)])[H.length]? = some (.cel 0 (cNd x)) := A9
 unfold Sh.fe
 rw [Gw (sz := 5) Ci rfl]
 simp only [GMb, GMc, Ah, Nat.zero_add, DC hcell, hof, htx]
 refine BQ (G := fun rec1 vs H1 => Sh.f3z H rec1 (ag vs 0) (ag vs 1) (ag vs 2) H1) 4 (fun k => [.ptr H.length 0 0, .str (EV x k), .int .i64 (k : Int)]) (fun _ => H ++ [.cel 0 (cNd x)]) _ (by decide) (fun rec k hk => ?_) (fun rec => ?_)
 ·have hk' : (k : Int) < 4 := by omega
  have hkl := h.2 k hk
  have hof := fun K => q02_of (x.kid k) K hkl.1 hkl.2
  have htx := fun K => Pw (x.kid k) K (MV (Np hkl.1 hkl.2)).1
  have hl := KP h k (by omega)
  have hl2 := Qn hkl
  have a1 : ∀ s : List UInt8, s.length ≤ 100000 → Af .none .add (.str s) (.str [32]) = some (.str (s ++ [32])) := fun s hs => AV (by simp only [List.length_singleton]; omega)
  have a2 : Af .none .add (.str (EV x k ++ [32])) (.str (G5 (x.kid k))) = some (.str (EV x k ++ [32] ++ G5 (x.kid k))) := AV (by simp only [List.length_append, List.length_singleton]; omega)
  have hw := Av (show k < 9223372036854775807 by omega)
  unfold Sh.f3z
  simp only [GMb, GMc, Ay, hk', a1 _ (show (EV x k).length ≤ 100000 by omega), Ah, Nat.zero_add, CM hk, KN hcell hk, hof, htx, a2, hw]
  rfl
 ·unfold Sh.f3z
  simp only [GMb, GMc, Ay, show ¬ (((4 : Nat) : Int) < 4) from by decide, rP_str]
theorem Rw {x : Nd} (h0 : 0 ≤ x.lv) (hk : ∀ k, k < 4 → 0 ≤ x.kid k) : EV x 4 = ndT x := by
 have hz : ∀ z : Int, 0 ≤ z → G5 z = AT z.toNat := fun z h => by
  unfold G5; rw [if_neg (by omega), show z.natAbs = z.toNat by omega]
 have k0 := hk 0 (by decide); have k1 := hk 1 (by decide); have k2 := hk 2 (by decide); have k3 := hk 3 (by decide)
 simp only [Nd.kid] at k0 k1 k2 k3
 unfold EV EV EV EV EV ndT lnT
 simp only [Nd.kid, hz _ h0, hz _ k0, hz _ k1, hz _ k2, hz _ k3, List.append_assoc, List.cons_append, List.nil_append]
theorem LQ {L : List Nd} (hl : Ar L = true) (hL : L.length < 1000000000) {i : Nat} (hi : i < L.length) : fitsN L[i] ∧ EV L[i] 4 = ndT L[i] := by
 obtain ⟨h1, h2, h3⟩ := Ax hl hi
 refine ⟨⟨by omega, fun k hk => ?_⟩, Rw (by omega) fun k hk => (h3 k hk).1⟩
 obtain ⟨g1, g2, g3⟩ := h3 k hk
 by_cases hv : L[i].lv = 1
 ·have := g2 hv; omega
 ·by_cases h0 : 0 < L[i].kid k
  ·have := (g3 (by omega) h0).1; omega
  ·omega
end Go.Gm
namespace Go.Gm
theorem KL : ∀ (B : Nat) (S : List Nat), S.Nodup → (∀ i ∈ S, 1 ≤ i ∧ i ≤ B) → S.length ≤ B
 | 0, S, _, h => by
  cases S with
  | nil => simp
  | cons a l => have := h a (by simp); omega
 | B + 1, S, hn, h => by
  by_cases hB : B + 1 ∈ S
  ·have := KL B (S.erase (B + 1)) (hn.erase _) fun i hi => by
    rw [hn.mem_erase_iff] at hi
    have := h i hi.2; have := hi.1; omega
   rw [List.length_erase_of_mem hB] at this; omega
  ·have := KL B S hn fun i hi => by
    have h1 := h i hi
    have h2 : i ≠ B + 1 := fun e => hB (by rw [← e]; exact hi)
    omega
   omega
section
variable {M : List Nd} {B : Nat}
def KnownN (M : List Nd) (i : Nat) (out : List Nd) : Prop := ∃ d, AB M (Ap M) (Ak M i).lv.toNat i out = (out, d)
theorem KnownN.grow {i : Nat} {out : List Nd} (h : KnownN M i out) (r : List Nd) : KnownN M i (out ++ r) := by
 obtain ⟨d, h⟩ := h
 have := DK (L := M) (E := Ap M) (Ak M i).lv.toNat i out r
 rw [h] at this
 exact ⟨d, this⟩
structure CntI (M : List Nd) (out : List Nd) (S : List Nat) : Prop where
 nd : S.Nodup
 le : out.length ≤ S.length
 kn : ∀ i ∈ S, 1 ≤ i ∧ KnownN M i out
theorem putN_len (out : List Nd) (x : Nd) : (AS out x).1.length ≤ out.length + 1 := by
 unfold AS
 split
 ·simp
 ·simp
def below (B i n : Nat) : Prop := i = n ∨ i < min n B
theorem cnt_ins (hkid : ∀ n k, 1 ≤ n → n ≤ M.length → k < 4 → 1 < (Ak M n).lv → ((Ak M n).kid k).toNat < min n B ∧ (((Ak M n).kid k).toNat = 0 ∨ (Ak M (((Ak M n).kid k).toNat : Int)).lv = (Ak M n).lv - 1)) :
  ∀ (v n : Nat) (out : List Nd) (S : List Nat), n ≤ M.length → (n = 0 ∨ (Ak M n).lv = (v : Int)) → CntI M out S →
  ∃ S', CntI M (AB M (Ap M) v n out).1 S' ∧ (∀ i ∈ S', i ∈ S ∨ below B i n) := by
 intro v
 induction v with
 | zero => intro n out S _ _ h; exact ⟨S, h, fun i hi => .inl hi⟩
 | succ v ih =>
  intro n out S hn hlv h
  by_cases he : (Ap M).getD n true = true
  ·refine ⟨S, ?_, fun i hi => .inl hi⟩
   unfold AB; rw [if_pos he]; exact h
  ·have hn0 : n ≠ 0 := fun e => he (by rw [e]; exact Cu M)
   have hlv := hlv.resolve_left hn0
   have hvn : (Ak M n).lv.toNat = v + 1 := by rw [hlv]; omega
   by_cases hS : n ∈ S
   ·obtain ⟨d, hd⟩ := (h.kn n hS).2
    rw [hvn] at hd
    exact ⟨S, by rw [hd]; exact h, fun i hi => .inl hi⟩
   ·-- behind the kids
    have fin : ∀ (out1 : List Nd) (S1 : List Nat) (x : Nd), CntI M out1 S1 → (∀ i ∈ S1, i ∈ S ∨ i < min n B) → (AB M (Ap M) (v + 1) n out).1 = (AS out1 x).1 →
      ∃ S', CntI M (AB M (Ap M) (v + 1) n out).1 S' ∧ (∀ i ∈ S', i ∈ S ∨ below B i n) := by
     intro out1 S1 x h1 hs hi
     have hnS : n ∉ S1 := fun hc => by
      rcases hs n hc with h | h
      ·exact hS h
      ·omega
     obtain ⟨r, hr⟩ := Ml out1 x
     refine ⟨n :: S1, ⟨List.nodup_cons.2 ⟨hnS, h1.nd⟩, ?_, fun i hi' => ?_⟩, fun i hi' => ?_⟩
     ·rw [hi]; have := putN_len out1 x; have := h1.le; simp only [List.length_cons]; omega
     ·rcases List.mem_cons.1 hi' with rfl | hi'
      ·refine ⟨by omega, ?_⟩
       have := DK (L := M) (E := Ap M) (v + 1) i out []
       rw [List.append_nil] at this
       exact ⟨_, by rw [hvn]; exact this⟩
      ·obtain ⟨g1, g2⟩ := h1.kn i hi'
       exact ⟨g1, by rw [hi, hr]; exact g2.grow r⟩
     ·rcases List.mem_cons.1 hi' with rfl | hi'
      ·exact .inr (.inl rfl)
      ·rcases hs i hi' with h | h
       ·exact .inl h
       ·exact .inr (.inr h)
    by_cases hl1 : 1 < (Ak M n).lv
    ·have kids : ∀ k, k ≤ 4 → ∃ S1, CntI M (Bk (AB M (Ap M) v) (Ak M n) k out).1 S1 ∧ (∀ i ∈ S1, i ∈ S ∨ i < min n B) := by
      intro k
      induction k with
      | zero => intro _; exact ⟨S, h, fun i hi => .inl hi⟩
      | succ k ihk =>
       intro hk
       obtain ⟨S1, g1, g2⟩ := ihk (by omega)
       obtain ⟨q1, q2⟩ := hkid n k (by omega) hn (by omega) hl1
       obtain ⟨S2, g3, g4⟩ := ih ((Ak M n).kid k).toNat _ S1 (by omega) (by
        rcases q2 with h | h
        ·exact .inl h
        ·exact .inr (by rw [h, hlv]; omega)) g1
       refine ⟨S2, g3, fun i hi => ?_⟩
       rcases g4 i hi with h | h | h
       ·exact g2 i h
       ·exact .inr (by omega)
       ·exact .inr (by omega)
     obtain ⟨S1, g1, g2⟩ := kids 4 (Nat.le_refl _)
     exact fin _ S1 _ g1 g2 (by rw [insF_lv (by simpa using he) hl1])
    ·exact fin out S (Ak M n) h (fun i hi => .inl hi) (by rw [insF_one (by simpa using he) hl1])

end
end Go.Gm
namespace Go.Gm
def KB (B : Nat) (M : List Nd) : Prop := ∀ n k : Nat, 1 ≤ n → n ≤ M.length → k < 4 → 1 < (Ak M (n : Int)).lv → ((Ak M (n : Int)).kid k).toNat < min n B
theorem kid_lv {M : List Nd} (hl : Ar M = true) {n k : Nat} (h1 : 1 ≤ n) (hn : n ≤ M.length) (hk : k < 4) (hv : 1 < (Ak M (n : Int)).lv) :
  ((Ak M (n : Int)).kid k).toNat < n ∧ 0 ≤ (Ak M (n : Int)).kid k ∧ (((Ak M (n : Int)).kid k).toNat = 0 ∨ (Ak M (((Ak M (n : Int)).kid k).toNat : Int)).lv = (Ak M (n : Int)).lv - 1) := by
 obtain ⟨v, hvv⟩ : ∃ v, (Ak M (n : Int)).lv.toNat = v + 1 := ⟨(Ak M (n : Int)).lv.toNat - 1, by omega⟩
 have hL : Lv M (v + 1) n := ⟨hn, .inr hvv⟩
 obtain ⟨g1, g2, g3⟩ := hL.kid hl (by omega) hv hk
 refine ⟨g2, g3, ?_⟩
 by_cases h0 : ((Ak M (n : Int)).kid k).toNat = 0
 ·exact .inl h0
 ·have := (g1.num (by omega) hl).1
  exact .inr (by rw [this]; omega)
theorem Pm {B : Nat} : ∀ (f : Nat) (M : List Nd) (n : Nat), Ar M = true → n ≤ M.length → KB B M → KB B (AU f M n).1
 | 0, M, n, hl, hn, h => h
 | f + 1, M, n, hl, hn, h => by
  unfold AU
  cases hh : Ck M n with
  | false => exact h
  | true =>
   obtain ⟨h0, h2⟩ := GU hh
   obtain ⟨m, rfl⟩ : ∃ m, n = m + 1 := ⟨n - 1, by omega⟩
   have h2' := h2
   rw [A6 hn] at h2
   simp only [if_true]
   refine Pm f (M ++ [Bn M (m + 1)]) (M.length + 1) (GT hl hn h2) (by simp) ?_
   intro n k g1 g2 g3 g4
   by_cases hold : n ≤ M.length
   ·rw [Kn (by omega) hold] at g4 ⊢
    exact h n k g1 hold g3 g4
   ·have hn1 : n = M.length + 1 := by simp at g2; omega
    subst hn1
    have hx : Ak (M ++ [Bn M (m + 1)]) ((M.length + 1 : Nat) : Int) = Bn M (m + 1) := by
     rw [A6 (by simp)]; simp
    rw [hx] at g4 ⊢
    have hlx : (Bn M (m + 1)).lv = (Ak M ((m + 1 : Nat) : Int)).lv - 1 := rfl
    rw [hlx] at g4
    rw [Nn _ _ g3]
    have hb := h (m + 1) k (by omega) hn g3 (by omega)
    obtain ⟨q1, q2, q3⟩ := kid_lv hl (by omega) hn g3 (show 1 < (Ak M ((m + 1 : Nat) : Int)).lv by omega)
    unfold Fy
    by_cases hz : (Ak M ((m + 1 : Nat) : Int)).kid k = 0
    ·rw [if_pos hz]; simp; omega
    ·rw [if_neg hz]
     have hq := q3.resolve_left (by omega)
     have hc : (Ak M ((m + 1 : Nat) : Int)).kid k = ((((Ak M ((m + 1 : Nat) : Int)).kid k).toNat : Nat) : Int) := by omega
     have := h ((Ak M ((m + 1 : Nat) : Int)).kid k).toNat (3 - k) (by omega) (by omega) (by omega) (by rw [hq]; exact g4)
     rw [hc]
     omega
theorem Om {L : List Nd} (hl : Ar L = true) : (B7 L L.length).length ≤ L.length := by
 unfold B7
 cases he : (Ap L).getD L.length true with
 | true =>
  have hs : BT L L.length = (L, 0) := by unfold BT; rw [if_pos he]
  rw [hs]
  dsimp only
  have : ∀ v, (AB L (Ap L) v 0 []).1 = [] := fun v => by
   cases v with
   | zero => rfl
   | succ v => unfold AB; rw [if_pos (Cu L)]
  rw [this]; exact Nat.zero_le _
 | false =>
  have hpos := KX he
  have hs : BT L L.length = AU (Ak L (L.length : Int)).lv.toNat L L.length := by unfold BT; rw [if_neg (by rw [he]; decide)]
  rw [hs]
  obtain ⟨r1, r2, r3⟩ := LE (Ak L (L.length : Int)).lv.toNat L L.length hl (Nat.le_refl _)
  have hk := Pm (B := L.length) (Ak L (L.length : Int)).lv.toNat L L.length hl (Nat.le_refl _) (fun n k g1 g2 g3 g4 => by
   have := (kid_lv hl g1 g2 g3 g4).1; omega)
  generalize AU (Ak L (L.length : Int)).lv.toNat L L.length = s at r1 r2 r3 hk
  obtain ⟨M, r⟩ := s
  dsimp only at r1 r2 r3 hk ⊢
  obtain ⟨S, c1, c2⟩ := cnt_ins (M := M) (B := L.length) (fun n k g1 g2 g3 g4 => ⟨hk n k g1 g2 g3 g4, (kid_lv r1 g1 g2 g3 g4).2.2⟩) (Ak M (r : Int)).lv.toNat r [] [] r2 (by
   by_cases h0 : r = 0
   ·exact .inl h0
   ·right
    have := (Lv.num (L := M) (v := (Ak M (r : Int)).lv.toNat) (n := r) ⟨r2, .inr rfl⟩ (by omega) r1).1
    exact this) ⟨List.nodup_nil, Nat.le_refl _, fun i hi => by cases hi⟩
  have hS : S.length ≤ L.length := by
   by_cases hr : r ∈ S
   ·have := KL (L.length - 1) (S.erase r) (c1.nd.erase _) fun i hi => by
     rw [c1.nd.mem_erase_iff] at hi
     have h1 := (c1.kn i hi.2).1
     rcases c2 i hi.2 with h | h | h
     ·cases h
     ·exact absurd h hi.1
     ·omega
    rw [List.length_erase_of_mem hr] at this; omega
   ·have := KL (L.length - 1) S c1.nd fun i hi => by
     have h1 := (c1.kn i hi).1
     rcases c2 i hi with h | h | h
     ·cases h
     ·exact absurd (h ▸ hi) hr
     ·omega
    omega
  exact Nat.le_trans c1.le hS
end Go.Gm
namespace Go.Gm
theorem linesT_take {l : List Nd} {i : Nat} (h : i < l.length) : Cm (l.take (i + 1)) = Cm (l.take i) ++ ndT l[i] ++ [10] := by
 unfold Cm
 rw [List.take_succ_eq_append_getElem h, List.flatMap_append]
 simp
def upT (l : List Nd) (i : Nat) : List UInt8 := [91, 77, 50, 93, 10] ++ Cm (l.take i)
theorem upT_next {l : List Nd} {i : Nat} (h : i < l.length) : upT l (i + 1) = upT l i ++ ndT l[i] ++ [10] := by
 unfold upT; rw [linesT_take h]; simp
theorem upT_all (l : List Nd) : upT l l.length = CQ l := by
 unfold upT CQ C2; rw [List.take_of_length_le (Nat.le_refl _)]; rfl
theorem ndT_len {l : List Nd} (hl : Ar l = true) (h60 : l.length ≤ 60) {i : Nat} (hi : i < l.length) : (ndT l[i]).length ≤ 2504 := by
 obtain ⟨f1, f2⟩ := LQ hl (by omega) hi
 rw [← f2]
 exact KP f1 4 (Nat.le_refl _)
theorem upT_len {l : List Nd} (hl : Ar l = true) (h60 : l.length ≤ 60) : ∀ i, i ≤ l.length → (upT l i).length ≤ 5 + i * 2505
 | 0, _ => by simp [upT, Cm]
 | i + 1, h => by
  have h1 := upT_len hl h60 i (by omega)
  have h2 := ndT_len hl h60 (show i < l.length by omega)
  rw [upT_next h]
  simp only [List.length_append, List.length_singleton]; omega
theorem ld_off (c d : Aa) (G : Ab) : Ad true 1 (.ptr 0 0 1) (.cel 0 [c, d] :: G) = some (.agg [d]) := by
 simp only [Ad, Ky]; rfl
theorem readR_loose {l : List Nd} (hl : Ar l = true) {bx N : Int} (hf : Qf bx N = true) (hN : (l.length : Int) ≤ N) : JL (CQ l) bx N = ((Da, B7 l l.length), 0, 0) := by
 have hq := Om hl
 have hok : Ls l (l.length : Int) = true := by
  unfold Ls; rw [hl]; simp
 rw [readR_eq, hf, read_loose hl hN]
 unfold finR
 dsimp only
 rw [root_lns, hok, decide_eq_true (show ((B7 l l.length).length : Int) ≤ N by omega)]
 rfl
end Go.Gm
namespace Go.Gm
def crT (l : List Nd) : List UInt8 := l.flatMap fun x => ndT x ++ 13 :: 10 :: (Oe ++ [13, 10])
theorem Qp (x : Nd) (l : List Nd) : crT (x :: l) = ndT x ++ 13 :: 10 :: (Oe ++ 13 :: 10 :: crT l) := by
 unfold crT; rw [List.flatMap_cons]; simp
theorem mids_ok (b : List UInt8) (law : List UInt8) (N : Int) : ∀ (mid pre post : List Nd) (a K : Nat) (t : List UInt8), Ar (pre ++ mid ++ post) = true → b.drop a = crT mid ++ t → ((pre.length + mid.length : Nat) : Int) ≤ N →
  BI b N (K + 2 * mid.length) a ⟨law, pre, BG pre⟩ = BI b N K (a + (crT mid).length) ⟨law, pre ++ mid, BG (pre ++ mid)⟩
 | [], pre, post, a, K, t, _, _, _ => by simp [crT]
 | x :: mid, pre, post, a, K, t, hl, h, hN => by
  rw [Qp, List.append_assoc] at h
  simp only [List.append_assoc, List.cons_append] at hl h
  simp only [List.length_cons] at hN ⊢
  have ho := one_cr (law := law) (N := N) hl h (by omega)
  have h2 : b.drop (a + (ndT x).length + 2) = Oe ++ 13 :: 10 :: (crT mid ++ t) := (BL (BL (Ch h)).2.2).2.2
  have hi := idle_line h2 N ⟨law, pre ++ [x], BG (pre ++ [x])⟩
  have h3 : b.drop (a + (ndT x).length + 2 + 8) = crT mid ++ t := by
   have h2' : b.drop (a + (ndT x).length + 2) = (Oe ++ [13, 10]) ++ (crT mid ++ t) := by rw [h2]; simp
   exact Ch h2'
  have hp := Mr x
  have hne : ¬ a = b.length := by
   intro e
   rw [e, List.drop_length] at h
   have := congrArg List.length h
   simp only [List.length_append, List.length_nil, List.length_cons] at this; omega
  have hne2 : ¬ a + (ndT x).length + 2 = b.length := by
   intro e
   rw [e, List.drop_length] at h2
   have := congrArg List.length h2
   simp only [List.length_append, List.length_nil, List.length_cons] at this; omega
  rw [show K + 2 * (mid.length + 1) = (K + 2 * mid.length + 1) + 1 by omega]
  conv => lhs; unfold BI
  rw [if_neg hne, ho]
  dsimp only
  conv => lhs; unfold BI
  rw [if_neg hne2, hi]
  dsimp only
  have := mids_ok b law N mid (pre ++ [x]) post (a + (ndT x).length + 2 + 8) K t (by simpa using hl) h3 (by simp only [List.length_append, List.length_singleton]; omega)
  rw [this, Qp]
  have hid : Oe.length = 6 := rfl
  simp only [List.append_assoc, List.cons_append, List.nil_append, List.length_append, List.length_cons, hid]
  rw [show a + (ndT x).length + 2 + 8 + (crT mid).length = a + ((ndT x).length + (6 + ((crT mid).length + 1 + 1) + 1 + 1)) by omega]
def BV : List UInt8 := [91, 77, 50, 93, 32, 111, 116, 104, 101, 114, 13, 10, 35, 71, 32, 51, 13, 10]
theorem other_head (t : List UInt8) : hdS (BV ++ t) = (none, 12) := by
 have h0 : (BV ++ t).drop 0 = 91 :: 77 :: 50 :: 93 :: 32 :: (BV.drop 5 ++ t) := rfl
 have hm : B3 (BV ++ t) 0 C2 [] = (none, 4) := by
  have : cpN ((BV ++ t).drop 0) C2 = 4 := by
   rw [h0]
   show (if (91 : UInt8) = 91 then (if (77 : UInt8) = 77 then (if (50 : UInt8) = 50 then (if (93 : UInt8) = 93 then cpN (32 :: (BV.drop 5 ++ t)) [] + 1 else 0) + 1 else 0) + 1 else 0) + 1 else 0) = 4
   have : cpN (32 :: (BV.drop 5 ++ t)) [] = 0 := rfl
   rw [this]; decide
  unfold B3 G2
  rw [this]; rfl
 have h4 : (BV ++ t).drop 4 = 32 :: 111 :: 116 :: 104 :: 101 :: 114 :: 13 :: 10 :: (BV.drop 12 ++ t) := rfl
 have h10 : (BV ++ t).drop 10 = 13 :: 10 :: (BV.drop 12 ++ t) := rfl
 have ha : Ff (BV ++ t) 4 = 10 := by unfold Ff; rw [h4]; rfl
 unfold hdS
 rw [hm]
 dsimp only
 rw [ha, MC h10]
theorem gen_line {b t : List UInt8} {a : Nat} (h : b.drop a = 35 :: 71 :: 32 :: 51 :: 13 :: 10 :: t) (N : Int) (st : MSt) : IX b N a st = ((none, a + 6), st) := by
 have h1 : b.drop (a + 1) = 71 :: 32 :: 51 :: 13 :: 10 :: t := (BL h).2.2
 have h3 : b.drop (a + 3) = 51 :: 13 :: 10 :: t := (BL (BL h1).2.2).2.2
 have h4 : b.drop (a + 4) = 13 :: 10 :: t := (BL h3).2.2
 have hm : B3 b (a + 1) [71, 32] [49] = (none, a + 3) := by
  have : cpN (b.drop (a + 1)) [71, 32] = 2 := by
   rw [h1]
   show (if (71 : UInt8) = 71 then (if (32 : UInt8) = 32 then cpN (51 :: 13 :: 10 :: t) [] + 1 else 0) + 1 else 0) = 2
   have : cpN (51 :: 13 :: 10 :: t) [] = 0 := rfl
   rw [this]; decide
  unfold B3 G2
  rw [this]; rfl
 have hint : FI b (a + 3) false [] = (none, a + 4) := by
  have d3 : A8 b (a + 3) BM = true := by rw [Bl h3]; decide
  have d4 : A8 b (a + 4) BM = false := by rw [Bl h4]; decide
  unfold FI Nl
  simp only [Bool.false_and, Bool.false_eq_true, if_false]
  unfold Km
  rw [if_pos d3, if_neg (by omega), if_neg (by omega)]
  unfold Km
  rw [show a + 3 + 1 = a + 4 from rfl, if_neg (by rw [d4]; decide), if_neg (by omega)]
 unfold IX rlS Mw
 rw [Bl h, Bl h1, Bl h1, if_pos (by decide), if_neg (by decide), if_pos (by decide), hm]
 dsimp only
 rw [hint]
 dsimp only
 rw [MC h4]
end Go.Gm
namespace Go.Gm
def B2 (z : Int) (Q : List Nd) : List UInt8 := if Q = [] then [] else ndT (E4 z) ++ [13, 10]
def Of (z : Int) (Q : List Nd) : List UInt8 := BV ++ (B2 z Q ++ crT (Q.map shN))
theorem PL (b : List UInt8) (N : Int) (K a : Nat) (st : MSt) (h : a = b.length) : BI b N (K + 1) a st = ((none, a), st) := by
 unfold BI; rw [if_pos h]
theorem crT_len (l : List Nd) : 10 * l.length ≤ (crT l).length := by
 induction l with
 | nil => simp
 | cons x l ih =>
  rw [Qp]
  have := Mr x
  have hid : Oe.length = 6 := rfl
  simp only [List.length_append, List.length_cons, hid]; omega
theorem all_idle {z : Int} {Q : List Nd} (h0 : 0 ≤ z) (h1 : z ≤ 255) (hl : Ar Q = true) (h40 : Q.length ≤ 1000) : (Gf (Of z Q) 100000 GN).1.1 = none ∧ (Gf (Of z Q) 100000 GN).2 = ⟨Da, if Q = [] then [] else DM z Q, BG (if Q = [] then [] else DM z Q)⟩ := by
 have hm0 : GN = ⟨Da, [], BG []⟩ := rfl
 rw [RT]
 unfold Of
 rw [other_head]
 dsimp only
 have hg : (BV ++ (B2 z Q ++ crT (Q.map shN))).drop 12 = 35 :: 71 :: 32 :: 51 :: 13 :: 10 :: (B2 z Q ++ crT (Q.map shN)) := rfl
 have hgl := gen_line hg 100000 GN
 have hlen : (BV ++ (B2 z Q ++ crT (Q.map shN))).length = 18 + (B2 z Q ++ crT (Q.map shN)).length := by rw [List.length_append]; rfl
 have h18 : (BV ++ (B2 z Q ++ crT (Q.map shN))).drop 18 = B2 z Q ++ crT (Q.map shN) := rfl
 generalize hb : BV ++ (B2 z Q ++ crT (Q.map shN)) = b at *
 have hcl := crT_len (Q.map shN)
 rw [List.length_map] at hcl
 have hgo : ∀ K, BI b 100000 (K + 1) 12 GN = BI b 100000 K 18 GN := fun K => by
  conv => lhs; unfold BI
  rw [if_neg (by omega), hgl]
 rw [hgo]
 by_cases hQ : Q = []
 ·subst hQ
  have hz : b.length = 18 := by rw [hlen]; rfl
  rw [hz]
  rw [show (18 : Nat) = 17 + 1 from rfl, PL b 100000 17 18 GN hz.symm]
  exact ⟨rfl, rfl⟩
 ·rw [if_neg hQ]
  have hih : B2 z Q = ndT (E4 z) ++ [13, 10] := by unfold B2; rw [if_neg hQ]
  rw [hih, List.append_assoc] at h18
  have hw := KS h0 h1 hl Q.length (Nat.le_refl _)
  rw [List.take_of_length_le (Nat.le_refl _)] at hw
  have ho := one_cr (law := Da) (N := 100000) (pre := []) (post := Q.map shN) (x := E4 z) hw (by rw [h18]; rfl) (by simp)
  have hip := Mr (E4 z)
  have hl2 : b.length = 18 + ((ndT (E4 z)).length + 2 + (crT (Q.map shN)).length) := by
   rw [hlen, hih]; simp only [List.length_append, List.length_cons, List.length_nil]
  have hd : b.drop (18 + (ndT (E4 z)).length + 2) = crT (Q.map shN) ++ [] := by
   have : b.drop 18 = (ndT (E4 z) ++ [13, 10]) ++ crT (Q.map shN) := by rw [h18]; simp
   have := Ch this
   rw [List.length_append, show ([13, 10] : List UInt8).length = 2 from rfl, ← Nat.add_assoc] at this
   rw [List.append_nil]
   exact this
  obtain ⟨K, hK⟩ : ∃ K, b.length = ((K + 1) + 2 * (Q.map shN).length) + 1 := ⟨b.length - 2 - 2 * Q.length, by rw [List.length_map]; omega⟩
  have hmid := mids_ok b Da 100000 (Q.map shN) [E4 z] [] (18 + (ndT (E4 z)).length + 2) (K + 1) [] (by simpa [DM] using hw) hd (by simp only [List.length_singleton, List.length_map]; omega)
  have hstep : BI b 100000 b.length 18 GN = BI b 100000 ((K + 1) + 2 * (Q.map shN).length) (18 + (ndT (E4 z)).length + 2) ⟨Da, [E4 z], BG [E4 z]⟩ := by
   rw [hK]
   conv => lhs; unfold BI
   rw [if_neg (by omega), hm0, ho]
   rfl
  rw [hstep, hmid, PL _ _ _ _ _ (by omega)]
  exact ⟨rfl, rfl⟩
theorem read_idle {z : Int} {Q : List Nd} (h0 : 0 ≤ z) (h1 : z ≤ 255) (hl : Ar Q = true) (hc : B7 Q Q.length = Q) (h40 : Q.length ≤ 1000) : JL (Of z Q) 1000 100000 = ((Da, Q), 0, 0) := by
 obtain ⟨a1, a2⟩ := all_idle h0 h1 hl h40
 rw [readR_eq, show Qf 1000 100000 = true from by decide]
 generalize Gf (Of z Q) 100000 GN = A at a1 a2
 obtain ⟨⟨er, c⟩, st⟩ := A
 dsimp only at a1 a2
 subst a1
 subst a2
 unfold finR
 dsimp only
 rw [root_lns]
 by_cases hQ : Q = []
 ·subst hQ
  have hif : (if ([] : List Nd) = [] then ([] : List Nd) else DM z []) = [] := if_pos rfl
  have e : B7 [] ([] : List Nd).length = [] := Qs
  rw [hif, e]; rfl
 ·rw [if_neg hQ]
  have hw := KS h0 h1 hl Q.length (Nat.le_refl _)
  rw [List.take_of_length_le (Nat.le_refl _)] at hw
  have hp : 0 < Q.length := by cases Q with | nil => exact absurd rfl hQ | cons a l => simp
  have hok : Ls (DM z Q) ((DM z Q).length : Int) = true := by unfold Ls; rw [hw]; simp
  rw [canon_shift hl hw hp, hc, hok, decide_eq_true (show (Q.length : Int) ≤ 100000 by omega)]
  rfl
end Go.Gm
namespace Go.Gm
def shP (x : Nd) : Nat → Nd
 | 0 => x
 | k + 1 => if 1 < x.lv ∧ 0 < x.kid k then (shP x k).setKid k (x.kid k + 1) else shP x k
theorem Pn (x : Nd) : ∀ k, (shP x k).lv = x.lv
 | 0 => rfl
 | k + 1 => by
  unfold shP
  split
  ·rw [Dt]; exact Pn x k
  ·exact Pn x k
theorem shP_kid (x : Nd) : ∀ k j, k ≤ j → j < 4 → (shP x k).kid j = x.kid j
 | 0, _, _, _ => rfl
 | k + 1, j, h, hj => by
  unfold shP
  split
  ·rw [Ds _ _ (by omega) hj (by omega)]; exact shP_kid x k j (by omega) hj
  ·exact shP_kid x k j (by omega) hj
theorem shP_4 (x : Nd) : shP x 4 = shN x := by
 obtain ⟨v, a, b, c, d⟩ := x
 unfold shN shK
 by_cases hv : 1 < v
 ·by_cases ha : 0 < a <;> by_cases hb : 0 < b <;> by_cases hc : 0 < c <;> by_cases hd : 0 < d <;> simp [shP, Nd.kid, Nd.setKid, hv, ha, hb, hc, hd]
 ·simp [shP, hv]
theorem idle_l3 (H G : Ab) (rec2 : LK) (x51 x53 x52 x54 : Aa) (x : Nd) (hf : ∀ k, k < 4 → 0 ≤ x.kid k ∧ x.kid k < 1000000) :
  Ao (fun rec3 vs H1 => Sh.f2u H rec2 rec3 (ag vs 0) (ag vs 1) (ag vs 2) (ag vs 3) (ag vs 4) (ag vs 5) H1) AI [x51, x52, x53, x54, .ptr G.length 0 0, .int .i64 0] (G ++ [.cel 0 (cNd x)]) =
   (bP H (Sh.fe (.agg (cNd (shN x))) (G ++ [.cel 0 (cNd (shN x))])) fun x85 H86 =>
 (Af .none .add x53 x85).bind fun x87 =>
 (Af .none .add x87 (.str [13, 10, 35, 67, 105, 100, 108, 101, 13, 10])).bind fun x88 =>
 (Af .none .add x54 (.int .i64 1)).bind fun x89 =>
 rec2 [x51, x52, x88, x89] H86) := by
 refine BQ (G := fun rec3 vs H1 => Sh.f2u H rec2 rec3 (ag vs 0) (ag vs 1) (ag vs 2) (ag vs 3) (ag vs 4) (ag vs 5) H1) 4 (fun k => [x51, x52, x53, x54, .ptr G.length 0 0, .int .i64 (k : Int)]) (fun k => G ++ [.cel 0 (cNd (shP x k))]) _ (by decide) (fun rec k hk => ?_) (fun rec => ?_)
 ·have hk' : (k : Int) < 4 := by omega
  have hcell : (G ++ [Blk.cel 0 (cNd (shP x k))])[G.length]? = some (.cel 0 (cNd (shP x k))) := A9
  have hw := Av (show k < 9223372036854775807 by omega)
  have hkid := shP_kid x k k (Nat.le_refl _) hk
  obtain ⟨g1, g2⟩ := hf k hk
  unfold Sh.f2u Sh.f53
  have lkid := KN hcell hk
  rw [hkid] at lkid
  cases dv : decide (x.lv > 1) with
  | false =>
   have hs : shP x (k + 1) = shP x k := by
    show (if 1 < x.lv ∧ 0 < x.kid k then _ else _) = _
    rw [if_neg (fun h => by have := of_decide_eq_false dv; exact this h.1)]
   simp only [GMb, GMc, Ay, hk', Ah, Nat.zero_add, DC hcell, Pn, dv, hw, hs]
  | true =>
   cases dk : decide (x.kid k > 0) with
   | false =>
    have hs : shP x (k + 1) = shP x k := by
     show (if 1 < x.lv ∧ 0 < x.kid k then _ else _) = _
     rw [if_neg (fun h => by have := of_decide_eq_false dk; exact this h.2)]
    simp only [GMb, GMc, Ay, hk', Ah, Nat.zero_add, DC hcell, Pn, dv, CM hk, lkid, dk, hw, hs]
   | true =>
    have hs : shP x (k + 1) = (shP x k).setKid k (x.kid k + 1) := by
     show (if 1 < x.lv ∧ 0 < x.kid k then _ else _) = _
     rw [if_pos ⟨of_decide_eq_true dv, of_decide_eq_true dk⟩]
    have hw2 : IntKind.i64.wrap (x.kid k + 1) = x.kid k + 1 := by rw [A0] <;> omega
    have hset : (G ++ [Blk.cel 0 (cNd (shP x k))]).set G.length (.cel 0 (cNd ((shP x k).setKid k (x.kid k + 1)))) = G ++ [.cel 0 (cNd ((shP x k).setKid k (x.kid k + 1)))] := BJ
    simp only [GMb, GMc, Ay, hk', Ah, Nat.zero_add, DC hcell, Pn, dv, CM hk, lkid, dk, hw2, Cw hcell hk, hset, hw, hs]
 ·have hcell : (G ++ [Blk.cel 0 (cNd (shN x))])[G.length]? = some (.cel 0 (cNd (shN x))) := A9
  unfold Sh.f2u
  simp only [Sl.gliderref19_Line_eq, GMb, GMc, Ay, show ¬ (((4 : Nat) : Int) < 4) from by decide, CK hcell, shP_4]
theorem crT_snoc (l : List Nd) (x : Nd) : crT (l ++ [x]) = crT l ++ ndT x ++ [13, 10, 35, 67, 105, 100, 108, 101, 13, 10] := by
 unfold crT; rw [List.flatMap_append]; simp [Oe]
def bUp (z : Int) (Q : List Nd) (i : Nat) : List UInt8 := BV ++ (B2 z Q ++ crT ((Q.take i).map shN))
theorem bUp_next {z : Int} {Q : List Nd} {i : Nat} (h : i < Q.length) : bUp z Q (i + 1) = bUp z Q i ++ ndT (shN Q[i]) ++ [13, 10, 35, 67, 105, 100, 108, 101, 13, 10] := by
 unfold bUp
 rw [List.take_succ_eq_append_getElem h, List.map_append, List.map_singleton, crT_snoc]; simp
theorem bUp_all (z : Int) (Q : List Nd) : bUp z Q Q.length = Of z Q := by unfold bUp Of; rw [List.take_of_length_le (Nat.le_refl _)]
theorem sh_fits {z : Int} {Q : List Nd} (h0 : 0 ≤ z) (h1 : z ≤ 255) (hl : Ar Q = true) (h40 : Q.length ≤ 40) {i : Nat} (hi : i < Q.length) : fitsN (shN Q[i]) ∧ EV (shN Q[i]) 4 = ndT (shN Q[i]) ∧ (ndT (shN Q[i])).length ≤ 2504 := by
 have hw := KS h0 h1 hl Q.length (Nat.le_refl _)
 rw [List.take_of_length_le (Nat.le_refl _)] at hw
 have hi' : i + 1 < (DM z Q).length := by rw [EX]; omega
 have e : (DM z Q)[i + 1] = shN Q[i] := by simp [DM]
 obtain ⟨f1, f2⟩ := LQ hw (by rw [EX]; omega) hi'
 have f3 := ndT_len hw (by rw [EX]; omega) hi'
 rw [e] at f1 f2 f3
 exact ⟨f1, f2, f3⟩
theorem bUp_len {z : Int} {Q : List Nd} (h0 : 0 ≤ z) (h1 : z ≤ 255) (hl : Ar Q = true) (h40 : Q.length ≤ 40) (hh : (B2 z Q).length ≤ 3000) : ∀ i, i ≤ Q.length → (bUp z Q i).length ≤ 4000 + i * 3000
 | 0, _ => by
  unfold bUp
  have : BV.length = 18 := rfl
  simp only [List.take_zero, List.map_nil, crT, List.flatMap_nil, List.length_append, List.length_nil, this]; omega
 | i + 1, h => by
  have g1 := bUp_len h0 h1 hl h40 hh i (by omega)
  have g2 := (sh_fits h0 h1 hl h40 (show i < Q.length by omega)).2.2
  rw [bUp_next h]
  simp only [List.length_append, List.length_cons, List.length_nil]; omega
end Go.Gm
namespace Go.Gm
def No (Q : List Nd) (i : Nat) : Ab := (Q.take i).map fun x => Blk.cel 0 (cNd (shN x))
theorem idlH_next {Q : List Nd} {i : Nat} (h : i < Q.length) : No Q (i + 1) = No Q i ++ [.cel 0 (cNd (shN Q[i]))] := by
 unfold No; rw [List.take_succ_eq_append_getElem h, List.map_append]; rfl
theorem idle_l2 {z : Int} {Q : List Nd} (H : Ab) (c1 : Blk) (h0 : 0 ≤ z) (h1 : z ≤ 255) (hl : Ar Q = true) (hc : B7 Q Q.length = Q) (h40 : Q.length ≤ 40) (hh : (B2 z Q).length ≤ 3000) :
  Ao (fun rec2 vs H1 => Sh.f2v H rec2 (ag vs 0) (ag vs 1) (ag vs 2) (ag vs 3) H1) AI [.ptr H.length 0 0, .str (upT Q 0), .str (bUp z Q 0), .int .i64 0] (H ++ ([.cel 0 [.sl (enL cNd Q) .no], c1] ++ No Q 0)) = some (.ret (.bool true), H) := by
 have hq : ∀ i (G : Ab), (H ++ ([Blk.cel 0 [.sl (enL cNd Q) .no], c1] ++ No Q i) ++ G)[H.length]? = some (.cel 0 [.sl (enL cNd Q) .no]) := fun i G => by
  rw [List.append_assoc, List.getElem?_append_right (Nat.le_refl _), Nat.sub_self]; rfl
 have hq0 : ∀ i, (H ++ ([Blk.cel 0 [.sl (enL cNd Q) .no], c1] ++ No Q i))[H.length]? = some (.cel 0 [.sl (enL cNd Q) .no]) := fun i => by
  have := hq i []; rwa [List.append_nil] at this
 refine BQ (G := fun rec2 vs H1 => Sh.f2v H rec2 (ag vs 0) (ag vs 1) (ag vs 2) (ag vs 3) H1) Q.length (fun i => [.ptr H.length 0 0, .str (upT Q i), .str (bUp z Q i), .int .i64 (i : Int)])
  (fun i => H ++ ([.cel 0 [.sl (enL cNd Q) .no], c1] ++ No Q i)) _ (by omega) (fun rec i hi => ?_) (fun rec => ?_)
 ·have hlt : (i : Int) < (Q.length : Int) := by omega
  have hld := Bw (o := 0) (sz := 1) (hq0 i)
  obtain ⟨f1, f2⟩ := LQ hl (by omega) hi
  obtain ⟨f3, f4, f5⟩ := sh_fits h0 h1 hl h40 hi
  have hln := fun K => Pu f1 K
  rw [f2] at hln
  have hln2 := fun K => Pu f3 K
  rw [f4] at hln2
  have u1 := upT_len hl (by omega) i (by omega)
  have u2 := ndT_len hl (by omega) hi
  have u3 := bUp_len h0 h1 hl h40 hh i (by omega)
  have a1 : Af .none .add (.str (upT Q i)) (.str (ndT Q[i])) = some (.str (upT Q i ++ ndT Q[i])) := AV (by omega)
  have a2 : Af .none .add (.str (upT Q i ++ ndT Q[i])) (.str [10]) = some (.str (upT Q i ++ ndT Q[i] ++ [10])) := AV (by simp only [List.length_append, List.length_singleton]; omega)
  have a3 : Af .none .add (.str (bUp z Q i)) (.str (ndT (shN Q[i]))) = some (.str (bUp z Q i ++ ndT (shN Q[i]))) := AV (by omega)
  have a4 : Af .none .add (.str (bUp z Q i ++ ndT (shN Q[i]))) (.str [13, 10, 35, 67, 105, 100, 108, 101, 13, 10]) = some (.str (bUp z Q i ++ ndT (shN Q[i]) ++ [13, 10, 35, 67, 105, 100, 108, 101, 13, 10])) := AV (by simp only [List.length_append, List.length_cons, List.length_nil]; omega)
  have hw := Av (show i < 9223372036854775807 by omega)
  have hkf : ∀ k, k < 4 → 0 ≤ Q[i].kid k ∧ Q[i].kid k < 1000000 := fun k hk => by
   obtain ⟨g1, g2, g3⟩ := (Ax hl hi).2.2 k hk
   refine ⟨g1, ?_⟩
   by_cases hv : Q[i].lv = 1
   ·have := g2 hv; omega
   ·by_cases hp : 0 < Q[i].kid k
    ·have := (g3 (by have := (Ax hl hi).1; omega) hp).1; omega
    ·omega
  unfold Sh.f2v
  rw [idlH_next hi, upT_next hi, bUp_next hi]
  have hG : H ++ ([Blk.cel 0 [.sl (enL cNd Q) .no], c1] ++ (No Q i ++ [.cel 0 (cNd (shN Q[i]))])) = (H ++ ([Blk.cel 0 [.sl (enL cNd Q) .no], c1] ++ No Q i)) ++ [.cel 0 (cNd (shN Q[i]))] := by simp
  rw [hG]
  generalize H ++ ([Blk.cel 0 [.sl (enL cNd Q) .no], c1] ++ No Q i) = G at hld
  have h3 := idle_l3 H G rec (.ptr H.length 0 0) (.str (bUp z Q i)) (.str (upT Q i ++ ndT Q[i] ++ [10])) (.int .i64 (i : Int)) Q[i] hkf
  simp only [Sl.gliderref19_Line_eq, GMb, GMc, Ay, Ah, Nat.zero_add, hld, Ca, A2, hlt, Aw hi, Fw, Fg, DT (A9 (B := G) (cs := cNd nd0)) rfl, BJ, CK (A9 (B := G) (cs := cNd Q[i])), hln, a1, a2]
  rw [h3]
  simp only [GMb, GMc, hln2, a3, a4, hw]
 ·have hld := Bw (o := 0) (sz := 1) (hq0 Q.length)
  have hlt : ¬ (Q.length : Int) < (Q.length : Int) := by omega
  have ulen := upT_len hl (by omega) Q.length (Nat.le_refl _)
  have blen := bUp_len h0 h1 hl h40 hh Q.length (Nat.le_refl _)
  rw [upT_all] at ulen ⊢
  rw [bUp_all] at blen ⊢
  have r1 := fun K => C8 (CQ Q) 1000 100000 K (by omega)
  have r2 := fun K => C8 (Of z Q) 1000 100000 K (by omega)
  rw [readR_loose hl (by decide) (by omega), hc] at r1
  rw [read_idle h0 h1 hl hc (by omega)] at r2
  have hsame := fun K => q05_same Q Q K (by omega)
  simp only [Mi, MZ] at r1 r2
  have hqq := hq Q.length
  have htk : ∀ G, (H ++ ([Blk.cel 0 [.sl (enL cNd Q) .no], c1] ++ No Q Q.length) ++ G).take H.length = H := fun G => by rw [List.append_assoc]; simp
  generalize H ++ ([Blk.cel 0 [.sl (enL cNd Q) .no], c1] ++ No Q Q.length) = G at hld hqq htk
  have l29 := fun G' => PT (sz := 1) (hqq G') rfl
  unfold Sh.f2v
  have hrp := fun G' => ED (H0 := H) (v := .bool true) rfl (htk G')
  simp only [Sl.gliderref11_Wide_eq, Sl.macro_Read_eq, Sl.gliderref05_Same_eq, GMb, GMc, HPa, HPc, HPd, HPe, HPz, Nat.reduceAdd, Nat.reduceLT, Ay, hld, A2, hlt, q11_wide, r1, r2, ld_off, l29, hsame, hrp]
end Go.Gm
namespace Go.Gm
theorem idle_ok {l : List Nd} {n : Nat} (hn : n < 256) (H : Ab) : Sh.f40 (.sl (enL cNd l) .no) (.int .u8 (n : Int)) H = some (.ret (.bool true), H) := by
 have hrp : rP H (.bool true) H = some (.ret (.bool true), H) := ED rfl (by simp)
 unfold Sh.f40
 simp only [Sl.gliderlaw19_alive_eq, Sl.gliderref06_Of_eq, GMb, GMc, HPa, HPc, HPd, HPe, HPz, Nat.reduceAdd, Nat.reduceLT, q19_alive, A2]
 by_cases h40 : 40 < l.length
 ·have hd : decide ((l.length : Int) > 40) = true := decide_eq_true (by omega)
  simp only [GMb, GMc, HPa, HPc, HPd, HPe, HPz, Nat.reduceAdd, Nat.reduceLT, hd, hrp]
 ·have hd : decide ((l.length : Int) > 40) = false := decide_eq_false (by omega)
  have hof := fun K => q06_of l .no (l.length : Int) K (by omega)
  rw [Int.toNat_natCast] at hof
  cases hl : Ar l with
  | false =>
   have hok : Ls l (l.length : Int) = false := by unfold Ls; rw [hl]; rfl
   rw [hok] at hof
   simp only [OI, Bool.false_eq_true, if_false] at hof
   simp only [GMb, GMc, HPa, HPc, HPd, HPe, HPz, Nat.reduceAdd, Nat.reduceLT, hd, hof, show decide ((1 : Int) = 0) = false from by decide]
  | true =>
   have hok : Ls l (l.length : Int) = true := by unfold Ls; rw [hl]; simp
   rw [hok] at hof
   simp only [OI, if_true] at hof
   obtain ⟨i1, i2⟩ := canon_idem hl
   have hq := Om hl
   generalize B7 l l.length = Q at hof i1 i2 hq
   have hz0 : (0 : Int) ≤ (n : Int) := by omega
   have hz1 : (n : Int) ≤ 255 := by omega
   have hcv : AP .i64 (.int .u8 (n : Int)) = some (.int .i64 (n : Int)) := by
    rw [BN, Cz (by omega)]
   have b1 : A3 (some [(.int .i64 0), (.int .i64 0), (.int .i64 0), (.int .i64 0)]) [(0, 1, .int .i64 (n : Int)), (1, 1, (.int .i64 0)), (2, 1, (.int .i64 0)), (3, 1, (.int .i64 0))] = some (.agg [.int .i64 (n : Int), .int .i64 0, .int .i64 0, .int .i64 0]) := rfl
   have b2 : A3 (some [(.int .i64 0), (.int .i64 0), (.int .i64 0), (.int .i64 0), (.int .i64 0)]) [(0, 1, (.int .i64 1)), (1, 4, .agg [.int .i64 (n : Int), .int .i64 0, .int .i64 0, .int .i64 0])] = some (.agg (cNd (E4 (n : Int)))) := rfl
   have hfit : fitsN (E4 (n : Int)) := by
    refine ⟨⟨by show _ ≤ (1 : Int); decide, by show (1 : Int) ≤ _; decide⟩, fun k hk => ?_⟩
    match k, hk with
    | 0, _ => exact ⟨by show _ ≤ (n : Int); omega, by show (n : Int) ≤ _; omega⟩
    | 1, _ => exact ⟨show (-9223372036854775808 : Int) ≤ 0 from by decide, show (0 : Int) ≤ 9223372036854775807 from by decide⟩
    | 2, _ => exact ⟨show (-9223372036854775808 : Int) ≤ 0 from by decide, show (0 : Int) ≤ 9223372036854775807 from by decide⟩
    | 3, _ => exact ⟨show (-9223372036854775808 : Int) ≤ 0 from by decide, show (0 : Int) ≤ 9223372036854775807 from by decide⟩
   have hnat : EV (E4 (n : Int)) 4 = ndT (E4 (n : Int)) := Rw (by show (0 : Int) ≤ 1; decide) fun k hk => by
    match k, hk with
    | 0, _ => exact hz0
    | 1, _ => exact Int.le_refl _
    | 2, _ => exact Int.le_refl _
    | 3, _ => exact Int.le_refl _
   have hln := fun K => Pu hfit K
   have hlen := KP hfit 4 (Nat.le_refl _)
   rw [hnat] at hln hlen
   have hhead : (B2 (n : Int) Q).length ≤ 3000 := by
    unfold B2
    split
    ·simp
    ·simp only [List.length_append, List.length_cons, List.length_nil]; omega
   have key := idle_l2 (z := (n : Int)) (Q := Q) H (.cel 0 (cNd (E4 (n : Int)))) hz0 hz1 i2 i1 (by omega) hhead
   have hu0 : upT Q 0 = [91, 77, 50, 93, 10] := by simp [upT, Cm]
   have hh0 : No Q 0 = [] := rfl
   have hb0 : bUp (n : Int) Q 0 = BV ++ B2 (n : Int) Q := by simp [bUp, crT]
   rw [hu0, hh0, hb0, List.append_nil] at key
   unfold Sh.f54
   by_cases hp : 0 < Q.length
   ·have hpd : decide ((Q.length : Int) > 0) = true := decide_eq_true (by omega)
    have hne : Q ≠ [] := fun e => by rw [e] at hp; simp at hp
    have hhe : B2 (n : Int) Q = ndT (E4 (n : Int)) ++ [13, 10] := by unfold B2; rw [if_neg hne]
    have a1 : Af .none .add (.str [91, 77, 50, 93, 32, 111, 116, 104, 101, 114, 13, 10, 35, 71, 32, 51, 13, 10]) (.str (ndT (E4 (n : Int)))) = some (.str (BV ++ ndT (E4 (n : Int)))) := AV (by simp only [List.length_cons, List.length_nil]; omega)
    have a2 : Af .none .add (.str (BV ++ ndT (E4 (n : Int)))) (.str [13, 10]) = some (.str (BV ++ (ndT (E4 (n : Int)) ++ [13, 10]))) := by
     rw [AV (by have : BV.length = 18 := rfl; simp only [List.length_append, List.length_cons, List.length_nil, this]; omega), List.append_assoc]
    rw [hhe] at key
    simp only [Sl.gliderref19_Line_eq, GMb, GMc, HPa, HPc, HPd, HPe, HPz, Nat.reduceAdd, Nat.reduceLT, Bd, CN, Ci, CL, hd, hof, hcv, b1, b2, A2, hpd, hln, a1, a2]
    exact key
   ·have hpd : decide ((Q.length : Int) > 0) = false := decide_eq_false (by omega)
    have hne : Q = [] := by cases Q with | nil => rfl | cons a l => simp at hp
    have hhe : B2 (n : Int) Q = [] := by unfold B2; rw [if_pos hne]
    rw [hhe, List.append_nil] at key
    simp only [GMb, GMc, HPa, HPc, HPd, HPe, HPz, Nat.reduceAdd, Nat.reduceLT, Bd, CN, Ci, CL, hd, hof, hcv, b1, b2, A2, hpd]
    exact key
end Go.Gm
