/- Texts of this proof, joined. -/
import Derived.Test.YtenmplcmmdaibaaGreatDoorJ3
import Derived.Test.YtenmplcmmdaibaaGreatDoorJ4
import Derived.Lib.Bytealg
import Derived.Lib.ItoaNum
import Derived.Lib.Repeat
import Derived.Lib.Join
import Derived.Lib.TrimByte
import Derived.Laws.RangeAny
import Derived.Laws.RangeString
set_option linter.unusedVariables false
set_option linter.unusedSimpArgs false
namespace Go.Gm
def QT.q : QT → Nat → QT
 | .node a b c d, k => match k with | 0 => a | 1 => b | 2 => c | _ => d
 | _, _ => .nil
def QT.s : QT → Nat → Int
 | .leaf a b c d, k => match k with | 0 => a | 1 => b | 2 => c | _ => d
 | _, _ => 0
theorem RJ.q {v : Nat} {t : QT} (h : RJ v t) (k : Nat) : RJ (v - 1) (t.q k) := by
 cases t with
 | nil => trivial
 | leaf a b c d => trivial
 | node a b c d =>
  obtain ⟨h1, h2, ⟨ga, gb, gc, gd⟩, _⟩ := h
  unfold QT.q
  dsimp only
  split <;> assumption
theorem RJ.st {v : Nat} {t : QT} (h : RJ v t) (k : Nat) : St (t.s k) := by
 cases t with
 | nil => exact ⟨Int.le_refl _, by show (0 : Int) ≤ 255; decide⟩
 | node a b c d => exact ⟨Int.le_refl _, by show (0 : Int) ≤ 255; decide⟩
 | leaf a b c d =>
  obtain ⟨h1, ⟨ga, gb, gc, gd⟩, _⟩ := h
  unfold QT.s
  dsimp only
  split <;> assumption
theorem RJ.some {v : Nat} {t : QT} (h : RJ v t) (hn : t ≠ .nil) : ∃ j, j < 4 ∧ ((v = 1 ∧ t.s j ≠ 0) ∨ (1 < v ∧ t.q j ≠ .nil)) := by
 cases t with
 | nil => exact absurd rfl hn
 | leaf a b c d =>
  obtain ⟨h1, _, h2⟩ := h
  by_cases h0 : a = 0
  ·by_cases h3 : b = 0
   ·by_cases h4 : c = 0
    ·exact ⟨3, by omega, .inl ⟨h1, fun h5 => h2 ⟨h0, h3, h4, h5⟩⟩⟩
    ·exact ⟨2, by omega, .inl ⟨h1, h4⟩⟩
   ·exact ⟨1, by omega, .inl ⟨h1, h3⟩⟩
  ·exact ⟨0, by omega, .inl ⟨h1, h0⟩⟩
 | node a b c d =>
  obtain ⟨h1, _, _, h2⟩ := h
  by_cases h0 : a = .nil
  ·by_cases h3 : b = .nil
   ·by_cases h4 : c = .nil
    ·exact ⟨3, by omega, .inr ⟨by omega, fun h5 => h2 ⟨h0, h3, h4, h5⟩⟩⟩
    ·exact ⟨2, by omega, .inr ⟨by omega, h4⟩⟩
   ·exact ⟨1, by omega, .inr ⟨by omega, h3⟩⟩
  ·exact ⟨0, by omega, .inr ⟨by omega, h0⟩⟩
section
variable {L : List Nd}
end
end Go.Gm
namespace Go.Gm
theorem Lv.num {L : List Nd} {v n : Nat} (h : Lv L v n) (h0 : 0 < n) (hl : AD L = true) : (A4 L (n : Int)).lv = (v : Int) ∧ 1 ≤ v := by
 have hv : (A4 L (n : Int)).lv.toNat = v := by rcases h.2 with h | h <;> omega
 obtain ⟨m, rfl⟩ : ∃ m, n = m + 1 := ⟨n - 1, by omega⟩
 rw [Bb h.1] at hv ⊢
 have := (A8 hl h.1).1
 omega
end Go.Gm
namespace Go.Gm
end Go.Gm
namespace Go.Gm
end Go.Gm
namespace Go.Gm
def maxK (m : Int) (x : Nd) : Nat → Int
 | 0 => m
 | k + 1 => max (maxK m x k) (x.kid k)
def Ls (L : List Nd) : Int := L.foldl (fun m x => if x.lv = 1 then maxK m x 4 else m) 0
theorem N5 (L : List Nd) : My L = .agg [.sl (enL cNd L) .no] := rfl
theorem boxQ (L : List Nd) (H : Aa) : BP true 1 (My L) H = some (.ptr H.length 0 0, H ++ [.cel 0 (Di L)]) := DK rfl rfl
section
variable {H : Aa} {p : Nat} {L : List Nd}
theorem Em (hg : H[p]? = some (.cel 0 (Di L))) : Ad false 1 (.ptr p 0 0) H = some (.sl (enL cNd L) .no) := by
 simp only [Ad, Bc hg, Option.bind_some]; rfl
theorem PL (hg : H[p]? = some (.cel 0 (Di L))) : Ad true 1 (.ptr p 0 0) H = some (My L) := by
 simp only [Ad, Bc hg, Option.bind_some]; rfl

end
theorem q08_most (L : List Nd) (H : Aa) (hL : L.length < 1152921504606846976) : Sh.f1m (My L) H = some (.ret (.int .u8 (IntKind.u8.wrap (Ls L))), H) := by
 unfold Sh.f1m
 have e1 : (H ++ [Blk.cel 0 (Di L)])[H.length]? = some (.cel 0 (Di L)) := AG
 simp only [GMb, GMc, boxQ]
 refine Ct (G := fun rec1 vs H1 => Sh.f4h H rec1 (ag vs 0) (ag vs 1) (ag vs 2) H1) L.length (fun i => [.ptr H.length 0 0, .int .i64 (Ls (L.take i)), .int .i64 (i : Int)]) (fun _ => H ++ [.cel 0 (Di L)]) _ hL (fun rec i hi => ?_) (fun rec => ?_)
 ·have hi' : (i : Int) < (L.length : Int) := by omega
  have hws := Ar (show i < 9223372036854775807 by omega)
  have hm : Ls (L.take (i + 1)) = if L[i].lv = 1 then maxK (Ls (L.take i)) L[i] 4 else Ls (L.take i) := by
   unfold Ls
   rw [List.take_succ_eq_append_getElem hi, List.foldl_append]; rfl
  rw [hm]
  generalize Ls (L.take i) = m
  unfold Sh.f4h
  simp only [GMb, GMc, Ai, Nat.zero_add, Em e1, A5, hi']
  by_cases hlv : L[i].lv = 1
  ·rw [if_pos hlv]
   refine Ct (G := fun rec2 vs H1 => Sh.f3f H rec rec2 (ag vs 0) (ag vs 1) (ag vs 2) (ag vs 3) H1) 4 (fun k => [.ptr H.length 0 0, .int .i64 (maxK m L[i] k), .int .i64 (i : Int), .int .i64 (k : Int)]) (fun _ => H ++ [.cel 0 (Di L)]) _ (by decide) (fun rec2 k hk => ?_) (fun rec2 => ?_)
   ·have hk' : (k : Int) < 4 := by omega
    unfold Sh.f3f
    simp only [GMb, GMc, Am, Ai, Aw, Nat.zero_add, Nat.add_zero, Nat.mul_one, Ba, hk', Em e1, A2 hi, hlv, CY hk, CI hk, max_int, Ar (show k < 9223372036854775807 by omega), maxK]
   ·have hf : ¬ (((4 : Nat) : Int) < 4) := by decide
    unfold Sh.f3f
    simp only [GMb, GMc, hf, hws]
  ·rw [if_neg hlv, Hp L5]
   have hf : ((0 : Int) < 4) := by decide
   unfold Sh.f3f
   simp only [GMb, GMc, Am, Ai, Aw, Nat.zero_add, Nat.add_zero, Nat.mul_one, Ba, hf, Em e1, A2 hi, hlv, hws]
 ·unfold Sh.f4h
  rw [List.take_of_length_le (Nat.le_refl _)]
  simp only [GMb, GMc, Ai, Nat.zero_add, Em e1, A5, Int.lt_irrefl, Bj, Qx]
theorem maxK_st {m : Int} {x : Nd} (hm : St m) (hx : ∀ k, k < 4 → St (x.kid k)) : ∀ k, k ≤ 4 → St (maxK m x k)
 | 0, _ => hm
 | k + 1, h => by
  have h1 := maxK_st hm hx k (by omega)
  have h2 := hx k (by omega)
  obtain ⟨a1, a2⟩ := h1
  obtain ⟨b1, b2⟩ := h2
  exact ⟨show (0 : Int) ≤ max (maxK m x k) (x.kid k) by omega, show max (maxK m x k) (x.kid k) ≤ (255 : Int) by omega⟩
theorem mostZ_st {L : List Nd} (hl : AD L = true) : St (Ls L) := by
 have key : ∀ (l : List Nd) (m : Int), St m → (∀ x ∈ l, x.lv = 1 → ∀ k, k < 4 → St (x.kid k)) → St (l.foldl (fun m x => if x.lv = 1 then maxK m x 4 else m) m) := by
  intro l
  induction l with
  | nil => intro m hm _; exact hm
  | cons a l ih =>
   intro m hm hx
   refine ih _ ?_ fun x h => hx x (by simp [h])
   dsimp only
   split
   ·rename_i h; exact maxK_st hm (hx a (by simp) h) 4 (Nat.le_refl _)
   ·exact hm
 refine key L 0 ⟨Int.le_refl _, by decide⟩ fun x hx hlv k hk => ?_
 obtain ⟨i, hi, rfl⟩ := List.getElem_of_mem hx
 have := (A8 hl hi).2.2 k hk
 exact ⟨this.1, this.2.1 hlv⟩
theorem q08_mostZ {L : List Nd} (H : Aa) (hL : L.length < 1152921504606846976) (hl : AD L = true) : Sh.f1m (My L) H = some (.ret (.int .u8 (Ls L)), H) := by
 have := mostZ_st hl
 rw [q08_most L H hL, PK this.1 (by have := this.2; omega)]
end Go.Gm
namespace Go.Gm
theorem q05_nodes (A B : List Nd) (t t' : Tok) (H : Aa) (hA : A.length < 1000000000000) : Sh.f37 (.sl (enL cNd A) t) (.sl (enL cNd B) t') H = some (.ret (.bool (decide (A = B))), H) := by
 unfold Sh.f37
 simp only [GMb, GMc, A5]
 by_cases hl : A.length = B.length
 ·have hd : decide ((A.length : Int) = (B.length : Int)) = true := decide_eq_true (by omega)
  simp only [GMb, GMc, hd]
  have key := AM (G := fun rec1 vs H1 => Sh.f63 H rec1 (ag vs 0) (ag vs 1) (ag vs 2) H1) (σ := Nat) (fun i => i ≤ A.length)
   (fun i => [.sl (enL cNd A) t, .sl (enL cNd B) t', .int .i64 (i : Int)]) (fun _ => H) (fun i => A.length - i) (fun i => some (.ret (.bool (decide (A.drop i = B.drop i))), H)) (fun i rec hi hrec => ?_) 0 (Nat.zero_le _) (by omega)
  ·simpa using key
  ·unfold Sh.f63
   by_cases h : i < A.length
   ·have h' : i < B.length := by omega
    have hlt : (i : Int) < (A.length : Int) := by omega
    have hw := Ar (show i < 9223372036854775807 by omega)
    have := hrec (i + 1) h (by omega)
    rw [List.drop_eq_getElem_cons h, List.drop_eq_getElem_cons h']
    simp only [GMb, GMc, Al, A5, hlt, A2 h, A2 h', G8, neq_nd, hw]
    by_cases he : A[i] = B[i]
    ·simp only [he, GMb, GMc, List.cons.injEq, true_and]
     exact this
    ·simp only [he, GMb, GMc, List.cons.injEq, false_and]
   ·have hlt : ¬ (i : Int) < (A.length : Int) := by omega
    rw [List.drop_eq_nil_of_le (by omega), List.drop_eq_nil_of_le (by omega)]
    simp only [GMb, GMc, Al, A5, hlt]
 ·have hd : decide ((A.length : Int) = (B.length : Int)) = false := decide_eq_false (by omega)
  have hne : decide (A = B) = false := decide_eq_false fun h => hl (by rw [h])
  simp only [GMb, GMc, hd, hne]
theorem q05_same (A B : List Nd) (H : Aa) (hA : A.length < 1000000000000) : Sh.f1g (.agg [.sl (enL cNd A) .no]) (.agg [.sl (enL cNd B) .no]) H = some (.ret (.bool (decide (A = B))), H) := by
 unfold Sh.f1g
 simp only [GMb, GMc, HPa, HPc, HPd, HPe, HPz, Nat.reduceAdd, Nat.reduceLT, q05_nodes A B .no .no _ hA]
theorem q11_same (r r' : List UInt8) (A B : List Nd) (H : Aa) (hA : A.length < 1000000000000) : Sh.fy (pat r A) (pat r' B) H = some (.ret (.bool (decide (r = r') && decide (A = B))), H) := by
 unfold Sh.fy pat Q7
 have hq : Di A = [.sl (enL cNd A) .no] := rfl
 have hq2 : Di B = [.sl (enL cNd B) .no] := rfl
 have hl : ∀ (c d : Ab) (G : Aa), Ad true 1 (.ptr 0 0 1) (.cel 0 [c, d] :: G) = some (.agg [d]) := fun c d G => by
  simp only [Ad, L4]; rfl
 by_cases hr : r = r'
 ·have hd : (r == r') = true := by simp [hr]
  have hd2 : decide (r = r') = true := decide_eq_true hr
  simp only [GMb, GMc, HPa, HPc, HPd, HPe, HPz, Nat.reduceAdd, Nat.reduceLT, HL, hd, hd2, hl, q05_same A B _ hA]
 ·have hd : (r == r') = false := by simp [hr]
  have hd2 : decide (r = r') = false := decide_eq_false hr
  simp only [GMb, GMc, HPa, HPc, HPd, HPe, HPz, Nat.reduceAdd, Nat.reduceLT, HL, hd, hd2]
end Go.Gm
namespace Go.Gm
def Lx (H : Aa) (p : Nat) (b : List UInt8) (a : Nat) (r : List Ab) : Prop := H[p]? = some (.cel 0 (.str b :: .int .i64 (a : Int) :: r))
theorem RV {H : Aa} {p a : Nat} {b : List UInt8} {r : List Ab} (h : Lx H p b a r) : Ad false 1 (.ptr p 0 0) H = some (.str b) := by
 simp only [Ad, Bc h, Option.bind]; rfl
theorem DE {H : Aa} {p a : Nat} {b : List UInt8} {r : List Ab} (h : Lx H p b a r) : Ad false 1 (.ptr p 0 1) H = some (.int .i64 (a : Int)) := by
 simp only [Ad, Bc h, Option.bind]; rfl
theorem Ho {H : Aa} {p a : Nat} {b : List UInt8} {r : List Ab} (h : Lx H p b a r) : Sh.f4 (.ptr p 0 0) H = some (.ret (.bool (decide (a = b.length))), H) := by
 unfold Sh.f4
 simp only [GMb, GMc, Ag, Ai, Nat.zero_add, RV h, DE h]
 by_cases e : a = b.length
 ·have e' : (a : Int) = (b.length : Int) := by omega
  simp [e, e']
 ·have e' : ¬ (a : Int) = (b.length : Int) := by omega
  simp [e, e']
def Rn (e : Int) (s : List UInt8) : Ab := .iface Fo (.agg [.int .i64 e, .str s])
theorem Mc {H : Aa} {p a : Nat} {b : List UInt8} {r : List Ab} (h : Lx H p b a r) (s : List UInt8) : Sh.f1 (.ptr p 0 0) (.str s) H = some (.pan (if a = b.length then Rn 3 s else Rn 2 []), H) := by
 unfold Sh.f1
 simp only [GMb, GMc, Ho h]
 by_cases e : a = b.length
 ·simp only [e, GMb, GMc]
  rfl
 ·simp only [e, GMb, GMc]
  rfl
theorem lx_limit {H : Aa} (x : Ab) : Sh.fb x H = some (.pan (Rn 4 []), H) := rfl
theorem SI (l : List UInt8) (c : UInt8) : (0 ≤ Lib.indexByte l c) ↔ c ∈ l := by
 induction l with
 | nil => simp [Lib.indexByte]
 | cons b l ih =>
  have hge := Lib.indexByte_ge l c
  unfold Lib.indexByte
  by_cases h : b = c
  ·simp [h]
  ·have h' : ¬ c = b := fun e => h e.symm
   by_cases h2 : Lib.indexByte l c = -1
   ·have : ¬ c ∈ l := fun hm => by have := ih.2 hm; omega
    simp [h, h', h2, this]
   ·have h3 : 0 ≤ Lib.indexByte l c := by omega
    have h4 := ih.1 h3
    simp [h, h2, h4]
    omega
def Aq (b : List UInt8) (a : Nat) (some : List UInt8) : Bool := match b[a]? with
 | none => false
 | Option.some c => some.contains c
theorem Cs {H : Aa} {p a : Nat} {b : List UInt8} {r : List Ab} (h : Lx H p b a r) (ha : a ≤ b.length) (s : List UInt8) : Sh.f0 (.ptr p 0 0) (.str s) H = some (.ret (.bool (Aq b a s)), H) := by
 unfold Sh.f0 Aq
 simp only [GMb, GMc, Ho h]
 by_cases e : a = b.length
 ·simp only [e, GMb, GMc]
  rw [List.getElem?_eq_none (Nat.le_refl _)]
 ·have hlt : a < b.length := by omega
  rw [List.getElem?_eq_getElem hlt]
  have hi : Sh.f1r (.str s) (.int .u8 (b[a].toNat : Int)) H = some (.ret (.int .i64 (Lib.indexByte s b[a])), H) := by
   unfold Sh.f1r; simp
  simp only [e, GMb, GMc, Ag, Ai, Nat.zero_add, RV h, DE h, AK hlt, hi]
  by_cases hm : b[a] ∈ s
  ·have := (SI s b[a]).2 hm
   simp [hm, this]
  ·have : ¬ 0 ≤ Lib.indexByte s b[a] := fun hc => hm ((SI s b[a]).1 hc)
   simp [hm, this]
theorem lx_step {H : Aa} {p a : Nat} {b : List UInt8} {r : List Ab} (h : Lx H p b a r) (n : Int) : Af 1 (.ptr p 0 1) (.int .i64 n) H = some (H.set p (.cel 0 (.str b :: .int .i64 n :: r))) := by
 simp only [Af, Bc h, Option.bind, Ab.acells]
 simp [Dg h, DR]
theorem lx_set {H : Aa} {p a a' : Nat} {b : List UInt8} {r : List Ab} (h : Lx H p b a r) : Lx (H.set p (.cel 0 (.str b :: .int .i64 (a' : Int) :: r))) p b a' r := by
 have : p < H.length := by
  rcases Nat.lt_or_ge p H.length with h' | h'
  ·exact h'
  ·unfold Lx at h; rw [List.getElem?_eq_none h'] at h; cases h
 unfold Lx; simp [this]
end Go.Gm
namespace Go.Gm
def AO (H : Aa) (p : Nat) (b : List UInt8) (r : List Ab) (a : Nat) : Aa := H.set p (.cel 0 (.str b :: .int .i64 (a : Int) :: r))
theorem BV {H : Aa} {p a : Nat} {b : List UInt8} {r : List Ab} (h : Lx H p b a r) : AO H p b r a = H := by
 unfold AO
 apply List.ext_getElem?
 intro i
 by_cases e : p = i
 ·subst e
  have : p < H.length := by
   rcases Nat.lt_or_ge p H.length with h' | h'
   ·exact h'
   ·unfold Lx at h; rw [List.getElem?_eq_none h'] at h; cases h
  rw [List.getElem?_set_self this]; exact h.symm
 ·rw [List.getElem?_set_ne e]
theorem CV {H : Aa} {p a a' : Nat} {b : List UInt8} {r : List Ab} (h : Lx H p b a r) : Lx (AO H p b r a') p b a' r := lx_set h
theorem LU (H : Aa) (p a a' : Nat) (b : List UInt8) (r r' : List Ab) : AO (AO H p b r a) p b r' a' = AO H p b r' a' := by unfold AO; rw [List.set_set]
theorem Ge (H : Aa) (p a : Nat) (b : List UInt8) (r : List Ab) : (AO H p b r a).length = H.length := by unfold AO; simp
theorem Fp {H : Aa} {p a a' : Nat} {b : List UInt8} {r : List Ab} (h : Lx H p b a r) (n : Nat) : Af 1 (.ptr p 0 1) (.int .i64 (n : Int)) (AO H p b r a') = some (AO H p b r n) := by
 rw [lx_step (CV h)]
 exact congrArg some (LU H p a' n b r r)
def F6 (b : List UInt8) (a : Nat) : Nat := a + ((b.drop a).takeWhile fun c => !([13, 10] : List UInt8).contains c).length
theorem Tk {b : List UInt8} {a : Nat} (h : a < b.length) : F6 b a = if Aq b a [13, 10] then a else F6 b (a + 1) := by
 unfold F6 Aq
 rw [List.getElem?_eq_getElem h, List.drop_eq_getElem_cons h, List.takeWhile_cons]
 cases hc : ([13, 10] : List UInt8).contains b[a] with
 | true => simp only [hc, Bool.not_true, if_true, if_false, Bool.false_eq_true, List.length_nil, Nat.add_zero]
 | false => simp only [hc, Bool.not_false, if_true, if_false, Bool.false_eq_true, List.length_cons]; omega
theorem anyN_end {b : List UInt8} : F6 b b.length = b.length := by simp [F6]
theorem lx_any {H : Aa} {p a : Nat} {b : List UInt8} {r : List Ab} (h : Lx H p b a r) (ha : a ≤ b.length) (hb : b.length < 1152921504606846976) :
  Sh.fz (.ptr p 0 0) H = some (.ret (.tup []), AO H p b r (F6 b a)) := by
 unfold Sh.fz
 have key := AM (G := fun rec1 vs H1 => Sh.f50 H rec1 (ag vs 0) H1) (σ := Nat) (fun i => i ≤ b.length) (fun _ => [.ptr p 0 0]) (fun i => AO H p b r i) (fun i => b.length - i)
  (fun i => some (.ret (.tup []), AO H p b r (F6 b i))) (fun i rec hi hrec => ?_) a ha (by omega)
 ·rw [BV h] at key; exact key
 ·unfold Sh.f50
  have hx := CV (a' := i) h
  simp only [GMb, GMc, Ho hx]
  by_cases e : i = b.length
  ·simp only [e, GMb, GMc, anyN_end]
  ·have hlt : i < b.length := by omega
   simp only [e, GMb, GMc, Cs hx hi]
   rw [Tk hlt]
   cases hc : Aq b i [13, 10] with
   | true => simp only [GMb, GMc, Bool.not_true]
   | false =>
    simp only [GMb, GMc, Bool.not_false, Ag, Ai, Nat.zero_add, DE hx, Ar (show i < 9223372036854775807 by omega), Fp h]
    exact hrec (i + 1) (by omega) (by omega)
def Pf (b : List UInt8) (a : Nat) (s : List UInt8) : Ab := if a = b.length then Rn 3 s else Rn 2 []
def crN (b : List UInt8) (a : Nat) : Nat := if Aq b a [13] then a + 1 else a
theorem BU {b s : List UInt8} {a : Nat} (h : Aq b a s = true) : a < b.length := by
 rcases Nat.lt_or_ge a b.length with h' | h'
 ·exact h'
 ·unfold Aq at h; rw [List.getElem?_eq_none h'] at h; cases h
theorem crN_le {b : List UInt8} {a : Nat} (ha : a ≤ b.length) : crN b a ≤ b.length := by
 unfold crN
 cases hs : Aq b a [13] with
 | true => exact BU hs
 | false => exact ha
def endO (H : Aa) (p : Nat) (b : List UInt8) (r : List Ab) (a : Nat) (rest : List UInt8) : Out :=
 if a = b.length then some (.ret (.tup []), H)
 else if Aq b (crN b a) [10] then some (.ret (.tup []), AO H p b r (crN b a + 1))
 else some (.pan (Pf b (crN b a) (10 :: rest)), AO H p b r (crN b a))
theorem lx_end {H : Aa} {p a : Nat} {b : List UInt8} {r : List Ab} (h : Lx H p b a r) (ha : a ≤ b.length) (hb : b.length < 1152921504606846976) (rest : List UInt8) (hr : rest.length ≤ 1000000) :
  Sh.fn (.ptr p 0 0) (.str rest) H = endO H p b r a rest := by
 unfold Sh.fn endO
 simp only [GMb, GMc, Ho h]
 by_cases e : a = b.length
 ·simp only [e, GMb, GMc]
 ·have key : ∀ c, c ≤ b.length → Sh.f51 H (.ptr p 0 0) (.str rest) (AO H p b r c) = if Aq b c [10] then some (.ret (.tup []), AO H p b r (c + 1)) else some (.pan (Pf b c (10 :: rest)), AO H p b r c) := by
   intro c hc
   have hx := CV (a' := c) h
   unfold Sh.f51
   simp only [GMb, GMc, Cs hx hc]
   cases hs : Aq b c [10] with
   | true =>
    unfold Sh.f65
    simp only [GMb, GMc, Bool.not_true, Ag, Ai, Nat.zero_add, DE hx, Ar (show c < 9223372036854775807 by omega), Fp h]
   | false =>
    have hcat : Ae .none .add (.str [10]) (.str rest) = some (.str (10 :: rest)) := BJ (by simp only [List.length_cons, List.length_nil]; omega)
    simp only [GMb, GMc, Bool.not_false, hcat, Mc hx]
    rfl
  simp only [e, GMb, GMc, Cs h ha, AJ]
  unfold crN
  cases hs : Aq b a [13] with
  | true =>
   have hlt : a < b.length := by omega
   have hm := Fp (a' := a) h (a + 1)
   rw [BV h] at hm
   simp only [GMb, GMc, Ag, Ai, Nat.zero_add, DE h, Ar (show a < 9223372036854775807 by omega), hm]
   exact key (a + 1) (by omega)
  | false =>
   have := key a ha
   rw [BV h] at this
   simp only [GMb, GMc]
   rw [BV h]
   exact this
end Go.Gm
namespace Go.Gm
def cpN : List UInt8 → List UInt8 → Nat
 | a :: l, b :: m => if a = b then cpN l m + 1 else 0
 | _, _ => 0
theorem R4 : ∀ a b : List UInt8, cpN a b ≤ a.length ∧ cpN a b ≤ b.length
 | [], _ => ⟨Nat.zero_le _, Nat.zero_le _⟩
 | _ :: _, [] => ⟨Nat.zero_le _, Nat.zero_le _⟩
 | a :: l, b :: m => by
  have := R4 l m
  unfold cpN
  by_cases h : a = b
  ·rw [if_pos h]; simp only [List.length_cons]; omega
  ·rw [if_neg h]; exact ⟨Nat.zero_le _, Nat.zero_le _⟩
theorem cpN_get : ∀ (a b : List UInt8) (i : Nat), i < cpN a b → a[i]? = b[i]?
 | [], _, i, h => by simp [cpN] at h
 | _ :: _, [], i, h => by simp [cpN] at h
 | a :: l, b :: m, i, h => by
  unfold cpN at h
  by_cases e : a = b
  ·rw [if_pos e] at h
   cases i with
   | zero => simp [e]
   | succ i => simpa using cpN_get l m i (by omega)
  ·rw [if_neg e] at h; omega
theorem R3 : ∀ (a b : List UInt8), cpN a b < a.length → cpN a b < b.length → a[cpN a b]? ≠ b[cpN a b]?
 | [], _, h, _ => by simp [cpN] at h
 | _ :: _, [], _, h => by simp [cpN] at h
 | a :: l, b :: m, h, h2 => by
  by_cases e : a = b
  ·have ec : cpN (a :: l) (b :: m) = cpN l m + 1 := by rw [cpN, if_pos e]
   rw [ec] at h h2 ⊢
   simpa using R3 l m (by simpa using h) (by simpa using h2)
  ·have ec : cpN (a :: l) (b :: m) = 0 := by rw [cpN, if_neg e]
   rw [ec]; simpa using e
theorem q_common (a b : List UInt8) (H : Aa) (ha : a.length < 1152921504606846976) : Sh.f1w (.str a) (.str b) H = some (.ret (.int .i64 (cpN a b : Int)), H) := by
 unfold Sh.f1w
 have hm : (min (a.length : Int) (b.length : Int)) = ((min a.length b.length : Nat) : Int) := by omega
 have hle := R4 a b
 have l1 : Be (.str a) = some (.int .i64 (a.length : Int)) := rfl
 have l2 : Be (.str b) = some (.int .i64 (b.length : Int)) := rfl
 simp only [GMb, GMc, l1, l2, min_int, hm]
 have key := AM (G := fun rec1 vs H1 => Sh.f4z H rec1 (ag vs 0) (ag vs 1) (ag vs 2) (ag vs 3) (ag vs 4) H1) (σ := Nat) (fun i => i ≤ cpN a b)
  (fun i => [.str a, .str b, .int .i64 ((min a.length b.length : Nat) : Int), .int .i64 ((min a.length b.length : Nat) : Int), .int .i64 (i : Int)]) (fun _ => H) (fun i => cpN a b - i)
  (fun _ => some (.ret (.int .i64 (cpN a b : Int)), H)) (fun i rec hi hrec => ?_) 0 (Nat.zero_le _) (by omega)
 ·exact key
 ·unfold Sh.f4z
  by_cases hlt : i < min a.length b.length
  ·have hlt' : (i : Int) < ((min a.length b.length : Nat) : Int) := by omega
   have h1 : i < a.length := by omega
   have h2 : i < b.length := by omega
   simp only [GMb, GMc, Al, hlt', AK h1, AK h2]
   by_cases e : i = cpN a b
   ·have hne := R3 a b (by omega) (by omega)
    rw [← e, List.getElem?_eq_getElem h1, List.getElem?_eq_getElem h2] at hne
    have hn : ¬ ((a[i].toNat : Int) = (b[i].toNat : Int)) := fun hc => hne (congrArg some (UInt8.toNat_inj.1 (by omega)))
    simp only [hn, GMb, GMc, not_false_eq_true]
    rw [e]
   ·have hg := cpN_get a b i (by omega)
    rw [List.getElem?_eq_getElem h1, List.getElem?_eq_getElem h2] at hg
    have hg' := Option.some.inj hg
    simp only [hg', GMb, GMc, not_true_eq_false, Ar (show i < 9223372036854775807 by omega)]
    exact hrec (i + 1) (by omega) (by omega)
  ·have hlt' : ¬ (i : Int) < ((min a.length b.length : Nat) : Int) := by omega
   simp only [GMb, GMc, Al, hlt']
   have : min a.length b.length = cpN a b := by omega
   rw [this]
def mustO (H : Aa) (p : Nat) (b : List UInt8) (r : List Ab) (a : Nat) (s rest : List UInt8) : Out :=
 if cpN (b.drop a) s < s.length then some (.pan (Pf b (a + cpN (b.drop a) s) (s.drop (cpN (b.drop a) s) ++ rest)), AO H p b r (a + cpN (b.drop a) s))
 else some (.ret (.tup []), AO H p b r (a + cpN (b.drop a) s))
theorem lx_must {H : Aa} {p a : Nat} {b : List UInt8} {r : List Ab} (h : Lx H p b a r) (ha : a ≤ b.length) (hb : b.length < 1152921504606846976) (s rest : List UInt8) (hs : s.length ≤ 1000000) (hr : rest.length ≤ 1000000) :
  Sh.f7 (.ptr p 0 0) (.str s) (.str rest) H = mustO H p b r a s rest := by
 unfold Sh.f7 mustO
 have hle := R4 (b.drop a) s
 have hd : (b.drop a).length = b.length - a := List.length_drop
 have hq := q_common (b.drop a) s H (by omega)
 have l2 : Be (.str s) = some (.int .i64 (s.length : Int)) := rfl
 generalize cpN (b.drop a) s = n at hq hle ⊢
 have hw : IntKind.i64.wrap ((a : Int) + (n : Int)) = ((a + n : Nat) : Int) := by rw [A1] <;> omega
 have hm := Fp (a' := a) h (a + n)
 rw [BV h] at hm
 have hx := CV (a' := a + n) h
 simp only [GMb, GMc, Ag, Ai, Nat.zero_add, RV h, DE h, Cz ha, hq, hw, hm, l2]
 by_cases hc : n < s.length
 ·have hc' : (n : Int) < (s.length : Int) := by omega
  have hcat : Ae .none .add (.str (s.drop n)) (.str rest) = some (.str (s.drop n ++ rest)) := BJ (by rw [List.length_drop]; omega)
  simp only [hc', GMb, GMc, Cz hle.2, hcat, Mc hx, if_pos hc]
  rfl
 ·have hc' : ¬ (n : Int) < (s.length : Int) := by omega
  simp only [hc', GMb, GMc, if_neg hc]
end Go.Gm
namespace Go.Gm
theorem q_sign (c : UInt8) (H : Aa) : Sh.f23 (.int .u8 (c.toNat : Int)) H = some (.ret (.bool (MI c)), H) := by
 unfold Sh.f23 MI
 by_cases h : (c.toNat : Int) > 32
 ·have : 33 ≤ c.toNat := by omega
  simp [h, this]; omega
 ·have : ¬ 33 ≤ c.toNat := by omega
  simp [h, this]
def onB (b : List UInt8) (f a : Nat) : Bool := match b[a]? with
 | none => false
 | some c => decide (a - f < 40) && MI c
def CF (b : List UInt8) (f : Nat) : Nat → Nat → Nat
 | 0, a => a
 | n + 1, a => if onB b f a then CF b f n (a + 1) else a
def ruleO (H : Aa) (p : Nat) (b : List UInt8) (r : List Ab) (f e : Nat) (rest : List UInt8) : Out :=
 if e = f then some (.pan (Pf b e (97 :: rest)), AO H p b r e) else some (.ret (.str ((b.take e).drop f)), AO H p b r e)
theorem lx_rule_end {H : Aa} {p a f : Nat} {b : List UInt8} {r : List Ab} (h : Lx H p b f r) (hf : f ≤ a) (ha : a ≤ b.length) (rest : List UInt8) (hr : rest.length ≤ 1000000) :
  (AJ (fun j2 =>
 (Ag (.ptr p 0 0)).bind fun x51 =>
 (Ac 1 x51).bind fun x52 =>
 (Ad false 1 x52 (AO H p b r a)).bind fun x53 =>
 (Ae .none .eql x53 (.int .i64 (f : Int))).bind fun x54 =>
 Aj x54 (
 (Ae .none .add (.str [97]) (.str rest)).bind fun x55 =>
 bK H (Sh.f1 (.ptr p 0 0) x55 (AO H p b r a)) fun x56 H57 =>
 j2 [.ptr p 0 0, .int .i64 (f : Int)] H57) (
 j2 [.ptr p 0 0, .int .i64 (f : Int)] (AO H p b r a))) (fun vs H1 => Sh.f54 H (ag vs 0) (ag vs 1) H1)) = ruleO H p b r f a rest := by
 have hx := CV (a' := a) h
 unfold ruleO
 have hcat : Ae .none .add (.str [97]) (.str rest) = some (.str (97 :: rest)) := BJ (by simp only [List.length_cons, List.length_nil]; omega)
 simp only [GMb, GMc, Ag, Ai, Nat.zero_add, DE hx]
 by_cases e : a = f
 ·simp only [e, GMb, GMc, hcat, if_pos]
  subst e
  simp only [Mc hx]
  rfl
 ·have e' : ¬ (a : Int) = (f : Int) := by omega
  simp only [e', GMb, GMc, if_neg e]
  unfold Sh.f54
  simp only [GMb, GMc, Ag, Ai, Nat.zero_add, DE hx, RV hx, Dn hf ha]
theorem LV {b : List UInt8} {f a : Nat} (h : onB b f a = false) : ∀ n, CF b f n a = a
 | 0 => rfl
 | n + 1 => by rw [CF, h]; rfl
theorem ruleN_on {b : List UInt8} {f a : Nat} (h : onB b f a = true) (hf : f ≤ a) : CF b f (40 - (a - f)) a = CF b f (40 - (a + 1 - f)) (a + 1) := by
 have : a - f < 40 := by
  unfold onB at h
  split at h
  ·cases h
  ·simp at h; exact h.1
 have e : 40 - (a - f) = (40 - (a + 1 - f)) + 1 := by omega
 rw [e, CF, h, if_pos rfl]
theorem onB_lt {b : List UInt8} {f a : Nat} (h : onB b f a = true) : a < b.length := by
 rcases Nat.lt_or_ge a b.length with h' | h'
 ·exact h'
 ·unfold onB at h; rw [List.getElem?_eq_none h'] at h; cases h
theorem lx_rule {H : Aa} {p f : Nat} {b : List UInt8} {r : List Ab} (h : Lx H p b f r) (hf : f ≤ b.length) (hb : b.length < 1152921504606846976) (rest : List UInt8) (hr : rest.length ≤ 1000000) :
  Sh.f1h (.ptr p 0 0) (.str rest) H = ruleO H p b r f (CF b f 40 f) rest := by
 unfold Sh.f1h
 simp only [GMb, GMc, Ag, Ai, Nat.zero_add, DE h]
 have key := AM (G := fun rec1 vs H1 => Sh.f55 H rec1 (ag vs 0) (ag vs 1) (ag vs 2) H1) (σ := Nat) (fun i => f ≤ i ∧ i ≤ b.length) (fun _ => [.ptr p 0 0, .str rest, .int .i64 (f : Int)]) (fun i => AO H p b r i) (fun i => b.length - i)
  (fun i => ruleO H p b r f (CF b f (40 - (i - f)) i) rest) (fun i rec hi hrec => ?_) f ⟨Nat.le_refl _, hf⟩ (by omega)
 ·rw [BV h, Nat.sub_self, Nat.sub_zero] at key; exact key
 ·unfold Sh.f55
  obtain ⟨h1, h2⟩ := hi
  have hx := CV (a' := i) h
  have hend := lx_rule_end h h1 h2 rest hr
  simp only [GMb, GMc, Ho hx]
  by_cases e : i = b.length
  ·have ho : onB b f i = false := by unfold onB; rw [e, List.getElem?_eq_none (Nat.le_refl _)]
   rw [LV ho]
   simp only [e, GMb, GMc] at hend ⊢
   exact hend
  ·have hlt : i < b.length := by omega
   have hw : IntKind.i64.wrap ((i : Int) - (f : Int)) = ((i - f : Nat) : Int) := by rw [A1] <;> omega
   simp only [e, GMb, GMc, Ag, Ai, Nat.zero_add, DE hx, RV hx, hw]
   by_cases h40 : i - f < 40
   ·have h40' : ((i - f : Nat) : Int) < 40 := by omega
    simp only [h40', GMb, GMc, Ai, Nat.zero_add, DE hx, RV hx, AK hlt, q_sign]
    cases hs : MI b[i] with
    | true =>
     have ho : onB b f i = true := by unfold onB; rw [List.getElem?_eq_getElem hlt]; simp [h40, hs]
     rw [ruleN_on ho h1]
     simp only [GMb, GMc, DE hx, Ar (show i < 9223372036854775807 by omega), Fp h]
     exact hrec (i + 1) ⟨by omega, by omega⟩ (by omega)
    | false =>
     have ho : onB b f i = false := by unfold onB; rw [List.getElem?_eq_getElem hlt]; simp [hs]
     rw [LV ho]
     simpa only [GMb, GMc, Ag, Ai, Nat.zero_add, DE hx] using hend
   ·have h40' : ¬ ((i - f : Nat) : Int) < 40 := by omega
    have ho : onB b f i = false := by unfold onB; rw [List.getElem?_eq_getElem hlt]; simp [h40]
    rw [LV ho]
    simpa only [h40', GMb, GMc, Ag, Ai, Nat.zero_add, DE hx] using hend
end Go.Gm
namespace Go.Gm
structure P0 (p : Nat) (H H' : Aa) : Prop where
 len : H.length ≤ H'.length
 old : ∀ i, i < H.length → i ≠ p → H'[i]? = H[i]?
theorem P0.refl (p : Nat) (H : Aa) : P0 p H H := ⟨Nat.le_refl _, fun _ _ _ => rfl⟩
theorem P0.trans {p : Nat} {H H1 H2 : Aa} (h : P0 p H H1) (k : P0 p H1 H2) : P0 p H H2 :=
 ⟨Nat.le_trans h.len k.len, fun i hi hp => (k.old i (Nat.lt_of_lt_of_le hi h.len) hp).trans (h.old i hi hp)⟩
theorem P0.push (p : Nat) (H G : Aa) : P0 p H (H ++ G) :=
 ⟨by simp, fun i hi hp => List.getElem?_append_left hi⟩
theorem Lx.push {H G : Aa} {p a : Nat} {b : List UInt8} {r : List Ab} (h : Lx H p b a r) : Lx (H ++ G) p b a r := by
 have : p < H.length := by
  rcases Nat.lt_or_ge p H.length with h' | h'
  ·exact h'
  ·unfold Lx at h; rw [List.getElem?_eq_none h'] at h; cases h
 unfold Lx
 rw [List.getElem?_append_left this]; exact h
theorem digs_mem (c : UInt8) : ([48, 49, 50, 51, 52, 53, 54, 55, 56, 57] : List UInt8).contains c = decide (48 ≤ c.toNat ∧ c.toNat ≤ 57) := by
 simp only [List.contains_eq_mem, List.mem_cons, List.not_mem_nil, or_false, decide_eq_decide, ← UInt8.toNat_inj]
 simp only [UInt8.reduceToNat]
 omega
end Go.Gm
namespace Go.Gm
def BL (b : List UInt8) (a : Nat) (e : Int) : List Ab := [.str b, .int .i64 (a : Int), .int .i64 e]
abbrev AT (b : List UInt8) (a : Nat) (e : Int) : Ab := .agg (BL b a e)
theorem Do (b : List UInt8) (a : Nat) (e : Int) (H : Aa) : Sh.f3 (AT b a e) H = some (.ret (.bool (decide (b.length ≤ a))), H) := by
 unfold Sh.f3 AT BL
 simp only [GMb, GMc, HPa, HPc, HPd, HPe, HPz, Nat.reduceAdd, Nat.reduceLT]
 have : decide ((a : Int) ≥ (b.length : Int)) = decide (b.length ≤ a) := by rw [Bool.eq_iff_iff]; simp
 rw [this]
def P7 (b : List UInt8) (a : Nat) : Int := if b.length ≤ a then 3 else 2
theorem E6 (b : List UInt8) (a : Nat) (e : Int) (H : Aa) : Sh.f2 (AT b a e) H = some (.ret (AT b a (P7 b a)), H) := by
 unfold Sh.f2 AT BL P7
 have he := fun e H => Do b a e H
 unfold AT BL at he
 simp only [GMb, GMc, HPa, HPc, HPd, HPe, HPz, Nat.reduceAdd, Nat.reduceLT, he]
 by_cases h : b.length ≤ a
 ·simp only [h, GMb, GMc, HPa, HPc, HPd, HPe, HPz, Nat.reduceAdd, Nat.reduceLT]
 ·simp only [h, GMb, GMc, HPa, HPc, HPd, HPe, HPz, Nat.reduceAdd, Nat.reduceLT]
def isB (b : List UInt8) (a : Nat) (c : UInt8) : Bool := decide (b[a]? = some c)
theorem u8_eq (c d : UInt8) : decide ((c.toNat : Int) = (d.toNat : Int)) = decide (c = d) := by
 rw [Bool.eq_iff_iff]; simp only [decide_eq_true_eq]
 constructor
 ·intro h; exact UInt8.toNat.inj (by omega)
 ·intro h; rw [h]
theorem r15_sees (b : List UInt8) (a : Nat) (e : Int) (c : UInt8) (H : Aa) : Sh.f5 (AT b a e) (.int .u8 (c.toNat : Int)) H = some (.ret (.bool (decide (e = 0) && isB b a c)), H) := by
 unfold Sh.f5 AT BL isB
 have he := fun e H => Do b a e H
 unfold AT BL at he
 simp only [GMb, GMc, HPa, HPc, HPd, HPe, HPz, Nat.reduceAdd, Nat.reduceLT]
 by_cases h0 : e = 0
 ·simp only [h0, GMb, GMc, HPa, HPc, HPd, HPe, HPz, Nat.reduceAdd, Nat.reduceLT, he]
  by_cases h : b.length ≤ a
  ·simp only [h, GMb, GMc, HPa, HPc, HPd, HPe, HPz, Nat.reduceAdd, Nat.reduceLT, List.getElem?_eq_none h, reduceCtorEq]
  ·have hlt : a < b.length := by omega
   simp only [h, GMb, GMc, HPa, HPc, HPd, HPe, HPz, Nat.reduceAdd, Nat.reduceLT, AK hlt, List.getElem?_eq_getElem hlt, u8_eq, Option.some.injEq]
 ·simp only [h0, GMb, GMc, HPa, HPc, HPd, HPe, HPz, Nat.reduceAdd, Nat.reduceLT]
theorem Qz (a b : List UInt8) (H : Aa) (ha : a.length < 1152921504606846976) : Sh.fv (.str a) (.str b) H = some (.ret (.int .i64 (cpN a b : Int)), H) := by
 unfold Sh.fv
 have hle := R4 a b
 refine AM (σ := Nat) (fun i => i ≤ cpN a b) (fun i => [.str a, .str b, .int .i64 (i : Int)]) (fun _ => H) (fun i => cpN a b - i) (fun _ => some (.ret (.int .i64 (cpN a b : Int)), H)) (fun i rec hi hrec => ?_) 0 (Nat.zero_le _) (by omega)
 unfold Sh.f6c
 have stop : i = cpN a b → (some (Res.ret (.int .i64 (i : Int)), H) : Out) = some (.ret (.int .i64 (cpN a b : Int)), H) := fun h => by rw [h]
 simp only [GMb, GMc, HPa, HPc, HPd, HPe, HPz, Nat.reduceAdd, Nat.reduceLT]
 by_cases h1 : i < a.length
 ·have h1' : (i : Int) < (a.length : Int) := by omega
  simp only [h1', GMb, GMc, HPa, HPc, HPd, HPe, HPz, Nat.reduceAdd, Nat.reduceLT]
  by_cases h2 : i < b.length
  ·have h2' : (i : Int) < (b.length : Int) := by omega
   simp only [h2', GMb, GMc, HPa, HPc, HPd, HPe, HPz, Nat.reduceAdd, Nat.reduceLT, AK h1, AK h2, u8_eq]
   by_cases e : i = cpN a b
   ·have hne := R3 a b (by omega) (by omega)
    rw [← e, List.getElem?_eq_getElem h1, List.getElem?_eq_getElem h2] at hne
    have hn : ¬ a[i] = b[i] := fun hc => hne (by rw [hc])
    simp only [hn, GMb, GMc, HPa, HPc, HPd, HPe, HPz, Nat.reduceAdd, Nat.reduceLT]
    exact stop e
   ·have hg := cpN_get a b i (by omega)
    rw [List.getElem?_eq_getElem h1, List.getElem?_eq_getElem h2] at hg
    have hg' := Option.some.inj hg
    simp only [hg', GMb, GMc, HPa, HPc, HPd, HPe, HPz, Nat.reduceAdd, Nat.reduceLT, Ar (show i < 9223372036854775807 by omega)]
    exact hrec (i + 1) (by omega) (by omega)
  ·have h2' : ¬ (i : Int) < (b.length : Int) := by omega
   simp only [h2', GMb, GMc, HPa, HPc, HPd, HPe, HPz, Nat.reduceAdd, Nat.reduceLT]
   exact stop (by omega)
 ·have h1' : ¬ (i : Int) < (a.length : Int) := by omega
  simp only [h1', GMb, GMc, HPa, HPc, HPd, HPe, HPz, Nat.reduceAdd, Nat.reduceLT]
  exact stop (by omega)
theorem Ei {a n : Nat} (h : a + n < 9223372036854775807) : IntKind.i64.wrap ((a : Int) + (n : Int)) = ((a + n : Nat) : Int) := by rw [A1] <;> omega
def Fv (b : List UInt8) (a : Nat) (s : List UInt8) : Nat := a + cpN (b.drop a) s
def litE (b : List UInt8) (a : Nat) (s : List UInt8) : Int := if cpN (b.drop a) s < s.length then P7 b (Fv b a s) else 0
theorem FK {b : List UInt8} {a : Nat} (ha : a ≤ b.length) (s : List UInt8) : Fv b a s ≤ b.length := by
 have := (R4 (b.drop a) s).1
 rw [List.length_drop] at this
 unfold Fv; omega
theorem r15_lit {b : List UInt8} {a : Nat} (ha : a ≤ b.length) (hb : b.length < 1152921504606846976) (s : List UInt8) (H : Aa) : Sh.f6 (AT b a 0) (.str s) H = some (.ret (AT b (Fv b a s) (litE b a s)), H) := by
 unfold Sh.f6 AT BL litE
 have hn := FK ha s
 have hc := fun H => Qz (b.drop a) s H (by rw [List.length_drop]; omega)
 have hst := fun e H => E6 b (Fv b a s) e H
 unfold AT BL at hst
 have hw : IntKind.i64.wrap ((a : Int) + (cpN (b.drop a) s : Int)) = ((Fv b a s : Nat) : Int) := by unfold Fv at hn ⊢; exact Ei (by omega)
 simp only [GMb, GMc, HPa, HPc, HPd, HPe, HPz, Nat.reduceAdd, Nat.reduceLT, Cz ha, hc, hw, not_true_eq_false]
 by_cases h : cpN (b.drop a) s < s.length
 ·have h' : (cpN (b.drop a) s : Int) < (s.length : Int) := by omega
  simp only [h', h, GMb, GMc, HPa, HPc, HPd, HPe, HPz, Nat.reduceAdd, Nat.reduceLT, hst]
 ·have h' : ¬ (cpN (b.drop a) s : Int) < (s.length : Int) := by omega
  simp only [h', h, GMb, GMc, HPa, HPc, HPd, HPe, HPz, Nat.reduceAdd, Nat.reduceLT]
theorem r15_litX (b : List UInt8) (a : Nat) {e : Int} (he : e ≠ 0) (s : List UInt8) (H : Aa) : Sh.f6 (AT b a e) (.str s) H = some (.ret (AT b a e), H) := by
 unfold Sh.f6 AT BL
 simp only [GMb, GMc, HPa, HPc, HPd, HPe, HPz, Nat.reduceAdd, Nat.reduceLT, he, not_false_eq_true]
end Go.Gm
namespace Go.Gm
theorem sees_two {b : List UInt8} {i : Nat} (h : i < b.length) (c d : UInt8) : Aq b i [c, d] = (decide (b[i] = c) || decide (b[i] = d)) := by
 unfold Aq; rw [List.getElem?_eq_getElem h]; simp
theorem Dh {b : List UInt8} {i : Nat} (h : i < b.length) (c : UInt8) : Aq b i [c] = decide (b[i] = c) := by
 unfold Aq; rw [List.getElem?_eq_getElem h]; simp
theorem HO (c : UInt8) (n : Nat) (h : n < 256) : decide ((c.toNat : Int) = (n : Int)) = decide (c = UInt8.ofNat n) := by
 have : (UInt8.ofNat n).toNat = n := by simp [UInt8.toNat_ofNat, Nat.mod_eq_of_lt h]
 rw [← u8_eq, this]
theorem u8_10 (c : UInt8) : decide ((c.toNat : Int) = 10) = decide (c = 10) := HO c 10 (by decide)
theorem u8_13 (c : UInt8) : decide ((c.toNat : Int) = 13) = decide (c = 13) := HO c 13 (by decide)
theorem r15_any {b : List UInt8} {a : Nat} (ha : a ≤ b.length) (hb : b.length < 1152921504606846976) (H : Aa) : Sh.fe (AT b a 0) H = some (.ret (AT b (F6 b a) 0), H) := by
 unfold Sh.fe AT BL
 simp only [GMb, GMc, HPa, HPc, HPd, HPe, HPz, Nat.reduceAdd, Nat.reduceLT]
 have key := AM (G := fun rec1 vs H1 => Sh.f4o H rec1 (ag vs 0) (ag vs 1) H1) (σ := Nat) (fun i => i ≤ b.length) (fun _ => [.ptr H.length 0 0, .ptr (H.length + 1) 0 0]) (fun i => H ++ [.cel 0 [.str b, .int .i64 (i : Int), .int .i64 0], .cel 0 [.str [], .int .i64 0, .int .i64 0]]) (fun i => b.length - i)
  (fun i => some (.ret (.agg [.str b, .int .i64 (F6 b i : Int), .int .i64 0]), H)) (fun i rec hi hrec => ?_) a ha (by omega)
 ·exact key
 ·have he := fun e H => Do b i e H
  unfold AT BL at he
  unfold Sh.f4o
  simp only [GMb, GMc, HPa, HPc, HPd, HPe, HPz, Nat.reduceAdd, Nat.reduceLT, he]
  by_cases h : b.length ≤ i
  ·have : i = b.length := by omega
   subst this
   simp only [h, GMb, GMc, HPa, HPc, HPd, HPe, HPz, Nat.reduceAdd, Nat.reduceLT, anyN_end]
  ·have hlt : i < b.length := by omega
   rw [Tk hlt, sees_two hlt]
   simp only [h, GMb, GMc, HPa, HPc, HPd, HPe, HPz, Nat.reduceAdd, Nat.reduceLT, AK hlt, u8_10, u8_13]
   by_cases h1 : b[i] = 10
   ·simp only [h1, GMb, GMc, HPa, HPc, HPd, HPe, HPz, Nat.reduceAdd, Nat.reduceLT, if_true, show (decide ((10 : UInt8) = 13)) = false from rfl]
   ·by_cases h2 : b[i] = 13
    ·simp only [h1, h2, GMb, GMc, HPa, HPc, HPd, HPe, HPz, Nat.reduceAdd, Nat.reduceLT, AK hlt, u8_13, if_true, show decide ((13 : UInt8) = 10) = false from rfl]
    ·simp only [h1, h2, GMb, GMc, HPa, HPc, HPd, HPe, HPz, Nat.reduceAdd, Nat.reduceLT, AK hlt, u8_13, Ar (show i < 9223372036854775807 by omega), Bool.false_eq_true]
     exact hrec (i + 1) (by omega) (by omega)
theorem r15_anyX (b : List UInt8) (a : Nat) {e : Int} (he : e ≠ 0) (H : Aa) : Sh.fe (AT b a e) H = some (.ret (AT b a e), H) := by
 unfold Sh.fe AT BL
 simp only [GMb, GMc, HPa, HPc, HPd, HPe, HPz, Nat.reduceAdd, Nat.reduceLT]
 rw [Hp L5]
 unfold Sh.f4o
 simp only [GMb, GMc, HPa, HPc, HPd, HPe, HPz, Nat.reduceAdd, Nat.reduceLT, he]
def MD (b : List UInt8) (a : Nat) : Nat := if a = b.length then a else if Aq b (crN b a) [10] then crN b a + 1 else crN b a
def Ry (b : List UInt8) (a : Nat) : Int := if a = b.length then 0 else if Aq b (crN b a) [10] then 0 else P7 b (crN b a)
theorem eolN_le {b : List UInt8} {a : Nat} (ha : a ≤ b.length) : MD b a ≤ b.length := by
 unfold MD
 split
 ·exact ha
 ·split
  ·rename_i h; exact BU h
  ·exact crN_le ha
theorem r15_eol {b : List UInt8} {a : Nat} (ha : a ≤ b.length) (hb : b.length < 1152921504606846976) (H : Aa) : Sh.fi (AT b a 0) H = some (.ret (AT b (MD b a) (Ry b a)), H) := by
 unfold Sh.fi AT BL
 have he := fun i e H => Do b i e H
 have hst := fun i e H => E6 b i e H
 unfold AT BL at he hst
 simp only [GMb, GMc, HPa, HPc, HPd, HPe, HPz, Nat.reduceAdd, Nat.reduceLT, he]
 by_cases h : b.length ≤ a
 ·have : a = b.length := by omega
  subst this
  have e1 : MD b b.length = b.length := by simp [MD]
  have e2 : Ry b b.length = 0 := by simp [Ry]
  rw [e1, e2]
  simp only [h, GMb, GMc, HPa, HPc, HPd, HPe, HPz, Nat.reduceAdd, Nat.reduceLT]
 ·have hlt : a < b.length := by omega
  have hne : ¬ a = b.length := by omega
  have tail : ∀ (i : Nat), i < b.length → crN b a = i → Sh.f5q H (.ptr H.length 0 0) (.ptr (H.length + 1) 0 0) (H ++ [.cel 0 [.str b, .int .i64 (i : Int), .int .i64 0], .cel 0 [.str [], .int .i64 0, .int .i64 0]]) = some (.ret (.agg [.str b, .int .i64 (MD b a : Int), .int .i64 (Ry b a)]), H) := by
   intro i hi hc
   unfold Sh.f5q MD Ry
   rw [if_neg hne, if_neg hne, hc, Dh hi]
   simp only [GMb, GMc, HPa, HPc, HPd, HPe, HPz, Nat.reduceAdd, Nat.reduceLT, AK hi, u8_10]
   by_cases h1 : b[i] = 10
   ·simp only [h1, GMb, GMc, HPa, HPc, HPd, HPe, HPz, Nat.reduceAdd, Nat.reduceLT, if_true, Ar (show i < 9223372036854775807 by omega)]
   ·simp only [h1, GMb, GMc, HPa, HPc, HPd, HPe, HPz, Nat.reduceAdd, Nat.reduceLT, hst, Bool.false_eq_true]
  have hcr : crN b a = if b[a] = 13 then a + 1 else a := by
   unfold crN; rw [Dh hlt]; simp
  simp only [h, GMb, GMc, HPa, HPc, HPd, HPe, HPz, Nat.reduceAdd, Nat.reduceLT, AK hlt, u8_13]
  by_cases h1 : b[a] = 13
  ·rw [if_pos h1] at hcr
   simp only [h1, GMb, GMc, HPa, HPc, HPd, HPe, HPz, Nat.reduceAdd, Nat.reduceLT, Ar (show a < 9223372036854775807 by omega), he]
   by_cases h2 : b.length ≤ a + 1
   ·have hs : Aq b (a + 1) [10] = false := by unfold Aq; rw [List.getElem?_eq_none h2]
    have e1 : MD b a = a + 1 := by simp [MD, hne, hcr, hs]
    have e2 : Ry b a = P7 b (a + 1) := by simp [Ry, hne, hcr, hs]
    simp only [h2, GMb, GMc, HPa, HPc, HPd, HPe, HPz, Nat.reduceAdd, Nat.reduceLT, hst, e1, e2]
   ·have hlt2 : a + 1 < b.length := by omega
    have := tail (a + 1) hlt2 hcr
    simp only [h2, GMb, GMc, HPa, HPc, HPd, HPe, HPz, Nat.reduceAdd, Nat.reduceLT, AK hlt2, u8_10]
    by_cases h3 : b[a + 1] = 10
    ·simp only [h3, GMb, GMc, HPa, HPc, HPd, HPe, HPz, Nat.reduceAdd, Nat.reduceLT]
     exact this
    ·have hs : Aq b (a + 1) [10] = false := by rw [Dh hlt2]; simp [h3]
     have e1 : MD b a = a + 1 := by simp [MD, hne, hcr, hs]
     have e2 : Ry b a = P7 b (a + 1) := by simp [Ry, hne, hcr, hs]
     simp only [h3, GMb, GMc, HPa, HPc, HPd, HPe, HPz, Nat.reduceAdd, Nat.reduceLT, hst, e1, e2]
  ·rw [if_neg h1] at hcr
   simp only [h1, GMb, GMc, HPa, HPc, HPd, HPe, HPz, Nat.reduceAdd, Nat.reduceLT]
   exact tail a hlt hcr
theorem r15_eolX (b : List UInt8) (a : Nat) {e : Int} (he : e ≠ 0) (H : Aa) : Sh.fi (AT b a e) H = some (.ret (AT b a e), H) := by
 unfold Sh.fi AT BL
 simp only [GMb, GMc, HPa, HPc, HPd, HPe, HPz, Nat.reduceAdd, Nat.reduceLT, he]
theorem ruleN_le {b : List UInt8} {f : Nat} : ∀ (n a : Nat), a ≤ b.length → a ≤ CF b f n a ∧ CF b f n a ≤ b.length
 | 0, a, h => ⟨Nat.le_refl _, h⟩
 | n + 1, a, h => by
  rw [CF]
  cases ho : onB b f a with
  | true => have := ruleN_le (b := b) (f := f) n (a + 1) (onB_lt ho); simp only [if_true]; omega
  | false => simp only [Bool.false_eq_true, if_false]; omega
def ruleS (b : List UInt8) (f : Nat) : List UInt8 := (b.take (CF b f 40 f)).drop f
def ruleE (b : List UInt8) (f : Nat) : Int := if CF b f 40 f = f then P7 b f else 0
theorem r15_rule {b : List UInt8} {f : Nat} (hf : f ≤ b.length) (hb : b.length < 1152921504606846976) (H : Aa) : Sh.f1a (AT b f 0) H = some (.ret (.tup [AT b (CF b f 40 f) (ruleE b f), .str (if CF b f 40 f = f then [] else ruleS b f)]), H) := by
 unfold Sh.f1a AT BL
 simp only [GMb, GMc, HPa, HPc, HPd, HPe, HPz, Nat.reduceAdd, Nat.reduceLT]
 have key := AM (G := fun rec1 vs H1 => Sh.f5t H rec1 (ag vs 0) (ag vs 1) (ag vs 2) H1) (σ := Nat) (fun i => f ≤ i ∧ i ≤ b.length) (fun _ => [.ptr H.length 0 0, .ptr (H.length + 1) 0 0, .int .i64 (f : Int)]) (fun i => H ++ [.cel 0 [.str b, .int .i64 (i : Int), .int .i64 0], .cel 0 [.str [], .int .i64 0, .int .i64 0]]) (fun i => b.length - i)
  (fun i => some (.ret (.tup [.agg [.str b, .int .i64 (CF b f (40 - (i - f)) i : Int), .int .i64 (if CF b f (40 - (i - f)) i = f then P7 b f else 0)], .str (if CF b f (40 - (i - f)) i = f then [] else (b.take (CF b f (40 - (i - f)) i)).drop f)]), H)) (fun i rec hi hrec => ?_) f ⟨Nat.le_refl _, hf⟩ (by omega)
 ·rw [Nat.sub_self, Nat.sub_zero] at key; exact key
 ·obtain ⟨h1, h2⟩ := hi
  have he := fun e H => Do b i e H
  have hst := fun e H => E6 b f e H
  unfold AT BL at he hst
  have hw : IntKind.i64.wrap ((i : Int) - (f : Int)) = ((i - f : Nat) : Int) := by rw [A1] <;> omega
  have stop : onB b f i = false → ((Ad false 1 (.ptr H.length 0 (0 + 1)) (H ++ [.cel 0 [.str b, .int .i64 (i : Int), .int .i64 0], .cel 0 [.str [], .int .i64 0, .int .i64 0]])).bind fun x44 =>
 (Ae .none .eql x44 (.int .i64 (f : Int))).bind fun x45 =>
 Aj x45 (
 (Ad true 3 (.ptr H.length 0 0) (H ++ [.cel 0 [.str b, .int .i64 (i : Int), .int .i64 0], .cel 0 [.str [], .int .i64 0, .int .i64 0]])).bind fun x46 =>
 bP H (Sh.f2 x46 (H ++ [.cel 0 [.str b, .int .i64 (i : Int), .int .i64 0], .cel 0 [.str [], .int .i64 0, .int .i64 0]])) fun x47 H48 =>
 bP H (Au (Af 3 (.ptr (H.length + 1) 0 0) x47 H48)) fun _ H50 =>
 (BM [Ad true 3 (.ptr (H.length + 1) 0 0) H50, some (.str [])]).bind fun x51 => rP H x51 H50) (
 bC (Ad true 3 (.ptr H.length 0 0) (H ++ [.cel 0 [.str b, .int .i64 (i : Int), .int .i64 0], .cel 0 [.str [], .int .i64 0, .int .i64 0]])) (fun _ => True) fun x52 =>
 AQ (Au (Af 3 (.ptr (H.length + 1) 0 0) x52 (H ++ [.cel 0 [.str b, .int .i64 (i : Int), .int .i64 0], .cel 0 [.str [], .int .i64 0, .int .i64 0]]))) fun _ H54 =>
 (Ac 0 (.ptr H.length 0 0)).bind fun x55 =>
 bC (Ad false 1 x55 H54) (fun x56 => Ad false 1 x55 (H ++ [.cel 0 [.str b, .int .i64 (i : Int), .int .i64 0], .cel 0 [.str [], .int .i64 0, .int .i64 0]]) = some x56 ∧ True) fun x56 =>
 (Ac 1 (.ptr H.length 0 0)).bind fun x57 =>
 bC (Ad false 1 x57 H54) (fun x58 => Ad false 1 x57 (H ++ [.cel 0 [.str b, .int .i64 (i : Int), .int .i64 0], .cel 0 [.str [], .int .i64 0, .int .i64 0]]) = some x58 ∧ True) fun x58 =>
 (AS x56 (some (.int .i64 (f : Int))) (some x58)).bind fun x59 =>
 (BM [Ad true 3 (.ptr (H.length + 1) 0 0) H54, some x59]).bind fun x60 => rP H x60 H54)) = some (.ret (.tup [.agg [.str b, .int .i64 (CF b f (40 - (i - f)) i : Int), .int .i64 (if CF b f (40 - (i - f)) i = f then P7 b f else 0)], .str (if CF b f (40 - (i - f)) i = f then [] else (b.take (CF b f (40 - (i - f)) i)).drop f)]), H) := by
   intro ho
   rw [LV ho]
   by_cases hif : i = f
   ·subst hif
    simp only [GMb, GMc, HPa, HPc, HPd, HPe, HPz, Nat.reduceAdd, Nat.reduceLT, hst, if_true]
   ·have hif' : ¬ (i : Int) = (f : Int) := by omega
    simp only [GMb, GMc, HPa, HPc, HPd, HPe, HPz, Nat.reduceAdd, Nat.reduceLT, hif', hif, Dn h1 h2]
  unfold Sh.f5t
  by_cases h : b.length ≤ i
  ·have ho : onB b f i = false := by unfold onB; rw [List.getElem?_eq_none h]
   have := stop ho
   simp only [GMb, GMc, HPa, HPc, HPd, HPe, HPz, Nat.reduceAdd, Nat.reduceLT, he, h] at this ⊢
   exact this
  ·have hlt : i < b.length := by omega
   by_cases h40 : i - f < 40
   ·have h40' : ((i - f : Nat) : Int) < 40 := by omega
    cases hs : MI b[i] with
    | true =>
     have ho : onB b f i = true := by unfold onB; rw [List.getElem?_eq_getElem hlt]; simp [h40, hs]
     rw [ruleN_on ho h1]
     simp only [GMb, GMc, HPa, HPc, HPd, HPe, HPz, Nat.reduceAdd, Nat.reduceLT, he, h, hw, h40', AK hlt, Q1, hs, Ar (show i < 9223372036854775807 by omega)]
     exact hrec (i + 1) ⟨by omega, by omega⟩ (by omega)
    | false =>
     have ho : onB b f i = false := by unfold onB; rw [List.getElem?_eq_getElem hlt]; simp [hs]
     have := stop ho
     simp only [GMb, GMc, HPa, HPc, HPd, HPe, HPz, Nat.reduceAdd, Nat.reduceLT, he, h, hw, h40', AK hlt, Q1, hs] at this ⊢
     exact this
   ·have h40' : ¬ ((i - f : Nat) : Int) < 40 := by omega
    have ho : onB b f i = false := by unfold onB; rw [List.getElem?_eq_getElem hlt]; simp [h40]
    have := stop ho
    simp only [GMb, GMc, HPa, HPc, HPd, HPe, HPz, Nat.reduceAdd, Nat.reduceLT, he, h, hw, h40'] at this ⊢
    exact this
theorem r15_ruleX (b : List UInt8) (a : Nat) {e : Int} (he : e ≠ 0) (H : Aa) : Sh.f1a (AT b a e) H = some (.ret (.tup [AT b a e, .str []]), H) := by
 unfold Sh.f1a AT BL
 simp only [GMb, GMc, HPa, HPc, HPd, HPe, HPz, Nat.reduceAdd, Nat.reduceLT, he]
end Go.Gm
namespace Go.Gm
def Row1 (v : Ab) (H : Aa) (l : List Nat) : Prop := AH v = some (.int .i64 (l.length : Int)) ∧ ∀ (i : Nat) (h : i < l.length), ∃ p, A6 1 v (.int .i64 (i : Int)) = some p ∧ ∀ G, Ad false 1 p (H ++ G) = some (.int .u32 (l[i] : Int))
theorem row_ms {l : List Nat} {H : Aa} {id : Nat} (hg : H[id]? = some (.cel 0 (flat cU l))) : Row1 (.ms id 0 0 l.length l.length 1 true) H l := by
 refine ⟨rfl, fun i h => ?_⟩
 have hidx := ED (sz := 1) (id := id) (n := l.length) (K := .i64) (g := 0) (off := 0) (cap := l.length) (ex := true) (i := i) h
 simp only [Nat.zero_add, Nat.mul_one] at hidx
 exact ⟨_, hidx, fun G => load_left (G9 (f := cU) (Bc hg) h)⟩
theorem q01_bitsR {v : Ab} {H : Aa} {l : List Nat} (hv : Row1 v H l) (hl : l.length ≤ 2199023255552) (hx : Lim l) : Sh.f16 v H = some (.ret (.sl (enL cB (FQ (Bu l))) .no), H) := by
 unfold Sh.f16
 refine Ct l.length (fun i => [v, Fs cB H (Bu (l.take i)), .int .i64 (i : Int)]) (fun i => Ev cB Ex 1 H (Bu (l.take i))) _ (by omega) (fun rec i hi => ?_) (fun rec => ?_)
 ·have hi' : (i : Int) < (l.length : Int) := by omega
  have hxi : l[i] < 4294967296 := hx _ (List.getElem_mem hi)
  have htk : Bu (l.take (i + 1)) = Bu (l.take i) ++ C6 32 l[i] := by
   rw [List.take_succ_eq_append_getElem hi, Bu, List.flatMap_append]; simp [Bu]
  have hlen : (Bu (l.take i)).length ≤ 32 * 2199023255552 := by rw [CP]; simp; omega
  obtain ⟨p, hp1, hp2⟩ := hv.2 i hi
  obtain ⟨G, hG⟩ := LY (f := cB) (ty := Ex) (sz := 1) H (Bu (l.take i))
  have hld : Ad false 1 p (Ev cB Ex 1 H (Bu (l.take i))) = some (.int .u32 (l[i] : Int)) := by rw [hG]; exact hp2 G
  unfold Sh.f3h
  simp only [AF, Df, Du, hv.1, Bw, Bd, hi', decide_true, AU, hp1, hld, htk]
  generalize Bu (l.take i) = o at hlen
  generalize l[i] = x at hxi
  refine AM (σ := Nat × Nat × List Bool) (fun s => s.1 ≤ 32 ∧ s.2.1 < 4294967296 ∧ s.2.2.length ≤ o.length + s.1) (fun s => [v, Fs cB H s.2.2, .int .i64 (i : Int), .int .u32 (s.2.1 : Int), .int .i64 (s.1 : Int)]) (fun s => Ev cB Ex 1 H s.2.2) (fun s => 32 - s.1)
   (fun s => rec [v, Fs cB H (s.2.2 ++ C6 (32 - s.1) s.2.1), .int .i64 ((i + 1 : Nat) : Int)] (Ev cB Ex 1 H (s.2.2 ++ C6 (32 - s.1) s.2.1))) (fun s rec2 hs hrec => ?_) (0, x, o) ⟨by dsimp only; omega, hxi, by dsimp only; omega⟩ (by dsimp only; omega)
  obtain ⟨k, y, p⟩ := s
  obtain ⟨hk, hy, hp⟩ := hs
  simp only at hk hy hp hrec ⊢
  unfold Sh.f5j
  by_cases h : k < 32
  ·have h' : (k : Int) < 32 := by omega
   have e1 : (y : Int).tmod 2 = ((y % 2 : Nat) : Int) := rfl
   have e2 : IntKind.u32.wrap ((y : Int).tdiv 2) = ((y / 2 : Nat) : Int) := by rw [show (y : Int).tdiv 2 = ((y / 2 : Nat) : Int) from rfl, C9] <;> omega
   have e3 : decide (((y % 2 : Nat) : Int) = 1) = (y % 2 == 1) := by rw [Bool.eq_iff_iff]; simp only [beq_iff_eq, decide_eq_true_eq]; omega
   have e4 : IntKind.i64.wrap ((k : Int) + 1) = ((k + 1 : Nat) : Int) := by rw [A1] <;> omega
   have := hrec (k + 1, y / 2, p ++ [y % 2 == 1]) ⟨h, by dsimp only; omega, by simp; omega⟩ (by dsimp only; omega)
   simp only [AF, Df, Du, Gv, GV, Bd, h', decide_true, Bw, AU, FT (show (2 : Int) ≠ 0 by decide), GM (show (2 : Int) ≠ 0 by decide), e1, e2, DM, EO, e3, build_B]
   rw [Fl (by simp) (by simp; omega) (by simp; omega)]
   simp only [CW, DP, BQ, Bw, e4, this]
   rw [show 32 - k = (32 - (k + 1)) + 1 from by omega, C6]; simp
  ·have : k = 32 := by omega
   subst this
   have e4 : IntKind.i64.wrap ((i : Int) + 1) = ((i + 1 : Nat) : Int) := by rw [A1] <;> omega
   simp [C6, e4]
 ·unfold Sh.f3h
  obtain ⟨G, hG⟩ := LY (f := cB) (ty := Ex) (sz := 1) H (Bu l)
  rw [List.take_of_length_le (Nat.le_refl _)]
  simp only [AF, Df, Du, G6, hG, hv.1, Bw, Bd, Int.lt_irrefl, decide_false, AL, q01_cut (Bu l) _ _ (by rw [CP]; omega), DP, DB, I3, Option.map_some]
theorem q01_normR {v : Ab} {H : Aa} {l : List Nat} (hv : Row1 v H l) (hl : l.length ≤ 1099511627776) (hx : Lim l) : Sh.fa v H = some (.ret (.sl (enL cU (Ch (val l))) .no), H) := by
 have hc := cutL_le (Bu l)
 rw [CP] at hc
 unfold Sh.fa
 rw [q01_bitsR hv (by omega) hx]
 simp only [FC]
 rw [q01_of _ _ _ (by omega)]
 simp only [FC, KI, SP, QL, val_bits l hx]
end Go.Gm
namespace Go.Gm
theorem Qc (a : Nat) (l : List Nat) : val (a :: l) = a + 4294967296 * val l := rfl
theorem div_step {m a v : Nat} (hm : 0 < m) : (a + 4294967296 * v) / m = (v % m * 4294967296 + a) / m + 4294967296 * (v / m) ∧ (a + 4294967296 * v) % m = (v % m * 4294967296 + a) % m := by
 have h := Nat.div_add_mod v m
 have e : a + 4294967296 * v = (v % m * 4294967296 + a) + m * (4294967296 * (v / m)) := by
  conv => lhs; rw [← h]
  rw [Nat.mul_add, Nat.mul_left_comm]
  omega
 rw [e, Nat.add_mul_div_left _ _ hm, Nat.add_mul_mod_self_left]
 exact ⟨rfl, rfl⟩
theorem quo_lt {m a r : Nat} (hr : r < m) (ha : a < 4294967296) : (r * 4294967296 + a) / m < 4294967296 := by
 rw [Nat.div_lt_iff_lt_mul (by omega)]
 have : (r + 1) * 4294967296 ≤ m * 4294967296 := Nat.mul_le_mul_right _ hr
 omega
theorem q01_div (l : List Nat) (tk : Tok) (m : Nat) (H : Aa) (hl : l.length ≤ 1099511627776) (hx : Lim l) (hm0 : 0 < m) (hm : m < 4294967296) :
  Sh.f2q (.sl (enL cU l) tk) (.int .u32 (m : Int)) H = some (.ret (.tup [.sl (enL cU (Ch (val l / m))) .no, .int .u32 ((val l % m : Nat) : Int)]), H) := by
 unfold Sh.f2q
 have hm0' : ¬ (m : Int) = 0 := by omega
 have hmk := FX (f := cU) (a := 0) (n := l.length) (bytes := 4) (H := H) (by omega) (by omega)
 simp only [show cU 0 = [Ab.int .u32 0] from rfl] at hmk
 have hcm : ∀ n : Int, AI .u64 (.int .u32 (m : Int)) = some (.int .u64 (m : Int)) := fun _ => by rw [Bj, BB (by omega) (by omega)]
 simp only [GMb, GMc, hm0', A5, hmk]
 have hw0 : IntKind.i64.wrap ((l.length : Int) - 1) = (l.length : Int) - 1 := A1 (by omega) (by omega)
 rw [hw0]
 have key := AM (G := fun rec1 vs H1 => Sh.f5n H rec1 (ag vs 0) (ag vs 1) (ag vs 2) (ag vs 3) (ag vs 4) H1) (σ := Nat × List Nat) (fun s => s.1 ≤ l.length ∧ s.2.length = l.length ∧ Lim s.2 ∧ val (s.2.drop s.1) = val (l.drop s.1) / m)
  (fun s => [.sl (enL cU l) tk, .int .u32 (m : Int), .ms H.length 0 0 l.length l.length 1 true, .int .u64 ((val (l.drop s.1) % m : Nat) : Int), .int .i64 ((s.1 : Int) - 1)]) (fun s => H ++ [.cel 0 (flat cU s.2)]) (fun s => s.1)
  (fun _ => some (.ret (.tup [.sl (enL cU (Ch (val l / m))) .no, .int .u32 ((val l % m : Nat) : Int)]), H)) (fun s rec hs hrec => ?_) (l.length, List.replicate l.length 0) ⟨Nat.le_refl _, by simp, fun x hx => by have := (List.mem_replicate.1 hx).2; omega, by simp [val]⟩ (by dsimp only; omega)
 ·simp only [List.drop_length, show val [] = 0 from rfl, Nat.zero_mod] at key
  exact key
 ·obtain ⟨k, O⟩ := s
  obtain ⟨h1, h2, h3, h4⟩ := hs
  simp only at h1 h2 h3 h4 hrec ⊢
  unfold Sh.f5n
  cases k with
  | zero =>
   have hrow := row_ms (l := O) (H := H ++ [Blk.cel 0 (flat cU O)]) (id := H.length) AG
   rw [h2] at hrow
   have hn := q01_normR hrow (by omega) h3
   have hv : val O = val l / m := by simpa using h4
   have hlt : val l % m < m := Nat.mod_lt _ hm0
   have hcv : AI .u32 (.int .u64 ((val l % m : Nat) : Int)) = some (.int .u32 ((val l % m : Nat) : Int)) := by rw [Bj, C9 (by omega) (by omega)]
   simp only [GMb, GMc, Al, show ¬ (((0 : Nat) : Int) - 1 ≥ 0) from by decide, hn, List.drop_zero, hcv, hv, DB, Fy, CS, D5, L6, Eo, Option.map_some]
  | succ j =>
   have hj : j < l.length := h1
   have hi : ((j + 1 : Nat) : Int) - 1 = (j : Int) := by omega
   have ha := hx _ (List.getElem_mem hj)
   have hd : l.drop j = l[j] :: l.drop (j + 1) := List.drop_eq_getElem_cons hj
   have hr : val (l.drop (j + 1)) % m < m := Nat.mod_lt _ hm0
   obtain ⟨s1, s2⟩ := div_step (m := m) (a := l[j]) (v := val (l.drop (j + 1))) hm0
   have hq := quo_lt (m := m) (a := l[j]) (r := val (l.drop (j + 1)) % m) hr ha
   have hmul : val (l.drop (j + 1)) % m * 4294967296 ≤ 4294967295 * 4294967296 := Nat.mul_le_mul_right _ (by omega)
   generalize hrr : val (l.drop (j + 1)) % m = r at *
   have w1 : IntKind.u64.wrap ((r : Int) * 4294967296) = ((r * 4294967296 : Nat) : Int) := by rw [BB] <;> omega
   have w2 : AI .u64 (.int .u32 (l[j] : Int)) = some (.int .u64 (l[j] : Int)) := by rw [Bj, BB (by omega) (by omega)]
   have w3 : IntKind.u64.wrap (((r * 4294967296 : Nat) : Int) + (l[j] : Int)) = ((r * 4294967296 + l[j] : Nat) : Int) := by rw [BB] <;> omega
   have w4 : IntKind.u64.wrap (((r * 4294967296 + l[j] : Nat) : Int).tdiv (m : Int)) = (((r * 4294967296 + l[j]) / m : Nat) : Int) := by
    rw [show (((r * 4294967296 + l[j] : Nat) : Int).tdiv (m : Int)) = (((r * 4294967296 + l[j]) / m : Nat) : Int) from rfl, BB (Int.natCast_nonneg _) (Int.lt_of_lt_of_le (Int.ofNat_lt.2 hq) (by decide))]
   have w5 : AI .u32 (.int .u64 (((r * 4294967296 + l[j]) / m : Nat) : Int)) = some (.int .u32 (((r * 4294967296 + l[j]) / m : Nat) : Int)) := by rw [Bj, C9 (Int.natCast_nonneg _) (Int.ofNat_lt.2 hq)]
   have w6 : (((r * 4294967296 + l[j] : Nat) : Int).tmod (m : Int)) = (((r * 4294967296 + l[j]) % m : Nat) : Int) := rfl
   have w7 : IntKind.i64.wrap ((j : Int) - 1) = (j : Int) - 1 := A1 (by omega) (by omega)
   have hidx := ED (sz := 1) (id := H.length) (n := l.length) (K := .i64) (g := 0) (off := 0) (cap := l.length) (ex := true) (i := j) hj
   simp only [Nat.zero_add, Nat.mul_one] at hidx
   have hst := Gc (f := cU) (sz := 1) (l := O) (i := j) (a := (r * 4294967296 + l[j]) / m) (v := .int .u32 (((r * 4294967296 + l[j]) / m : Nat) : Int)) (H := H ++ [Blk.cel 0 (flat cU O)]) (id := H.length) (Bc AG) (by omega) rfl
   rw [Nat.mul_one, Dg AG, Cd] at hst
   have hge : ((j : Int) ≥ 0) := by omega
   have hmz : (m : Int) ≠ 0 := hm0'
   have := hrec (j, O.set j ((r * 4294967296 + l[j]) / m)) ⟨by omega, by simp [h2], fun x hxx => by
     rcases List.mem_or_eq_of_mem_set hxx with h | h
     ·exact h3 x h
     ·rw [h]; exact hq, by
     dsimp only
     rw [hd, Qc, s1, List.drop_set, if_neg (by omega), Nat.sub_self, List.drop_eq_getElem_cons (by omega : j < O.length), List.set_cons_zero, Qc, h4]⟩ (by dsimp only; omega)
   dsimp only at this
   rw [hd, Qc, s2] at this
   rw [hi]
   simp only [GMb, GMc, Al, hge, w1, A2 hj, Aw, List.getElem?_cons_zero, w2, w3, hcm 0, GM hmz, w4, w5, hidx, hst, and_true, eq_self, FT hmz, w6, w7]
   exact this
end Go.Gm
namespace Go.Gm
def Bm (n : Nat) : List UInt8 := if h : n < 10 then [UInt8.ofNat (48 + n)] else Bm (n / 10) ++ [UInt8.ofNat (48 + n % 10)]
termination_by n
decreasing_by omega
def FB (z : Int) : List UInt8 := if z < 0 then 45 :: Bm z.natAbs else Bm z.natAbs
theorem decN_len : ∀ n, (Bm n).length ≤ n + 1 := by
 intro n
 induction n using Nat.strongRecOn with
 | ind n ih =>
  unfold Bm
  split
  ·simp
  ·have := ih (n / 10) (by omega)
   simp; omega
theorem decN_log : ∀ (k n : Nat), n < 10 ^ (k + 1) → (Bm n).length ≤ k + 1 := by
 intro k
 induction k with
 | zero => intro n h; unfold Bm; rw [dif_pos (by omega)]; simp
 | succ k ih =>
  intro n h
  unfold Bm
  split
  ·simp
  ·have h2 : n / 10 < 10 ^ (k + 1) := by
    rw [Nat.div_lt_iff_lt_mul (by omega), ← Nat.pow_succ]; exact h
   have := ih (n / 10) h2
   simp; omega
theorem OP (k n : Nat) (h : n < 10 ^ k) : (Bm n).length ≤ k + (if k = 0 then 1 else 0) := by
 cases k with
 | zero => have := decN_log 0 n (by omega); simpa using this
 | succ k => have := decN_log k n h; simpa using this
theorem digit_u8 {d : Nat} (h : d < 10) : AI .u8 (.int .u32 (IntKind.u32.wrap (48 + (d : Int)))) = some (.int .u8 ((UInt8.ofNat (48 + d)).toNat : Int)) := by
 rw [Bj, C9 (by omega) (by omega), PK (by omega) (by omega), UInt8.toNat_ofNat_of_lt' (show 48 + d < 256 by omega)]
 rfl
theorem pow10_32 (k : Nat) : 10 ^ k ≤ 4294967296 ^ k := Nat.pow_le_pow_left (by omega) k
theorem Rc {n : Nat} (h : n < 10 ^ 4096) : (Ch n).length ≤ 4096 := lims_len (Nat.lt_of_lt_of_le h (pow10_32 4096))
theorem q03_text (z : Int) (H : Aa) (hz : z.natAbs < 10 ^ 4096) : Sh.fr (big z) H = some (.ret (.str (FB z)), H) := by
 unfold Sh.fr
 have g0 : Ad false 1 (.ptr H.length 0 0) (H ++ [Blk.cel 0 (Ef z)]) = some (.bool (decide (z < 0))) := by simp only [Ad, Bc AG, Option.bind_some]; rfl
 have g1 : Ad false 1 (.ptr H.length 0 1) (H ++ [Blk.cel 0 (Ef z)]) = some (.sl (enL cU (Ch z.natAbs)) .no) := by simp only [Ad, Bc AG, Option.bind_some]; rfl
 simp only [GMb, GMc, boxBig, Ai, Nat.zero_add, g1]
 have hmeas : ∀ n : Nat, n < 10 ^ 4096 → (Bm n).length ≤ 4096 := fun n h => OP 4096 n h
 have key := AM (G := fun rec1 vs H1 => Sh.f5o H rec1 (ag vs 0) (ag vs 1) (ag vs 2) H1) (σ := Nat × List UInt8) (fun s => s.1 < 10 ^ 4096 ∧ s.2.length + (Bm s.1).length ≤ 5000)
  (fun s => [.ptr H.length 0 0, .str s.2, .sl (enL cU (Ch s.1)) .no]) (fun _ => H ++ [.cel 0 (Ef z)]) (fun s => (Bm s.1).length)
  (fun s => some (.ret (.str ((if z < 0 then [45] else []) ++ Bm s.1 ++ s.2)), H)) (fun s rec hs hrec => ?_) (z.natAbs, []) ⟨hz, by have := hmeas _ hz; simp; omega⟩ (by have := hmeas _ hz; dsimp only; omega)
 ·refine key.trans ?_
  unfold FB
  dsimp only
  split <;> simp
 ·obtain ⟨n, s⟩ := s
  obtain ⟨h1, h2⟩ := hs
  simp only at h1 h2 hrec ⊢
  have hdiv := fun H => q01_div (Ch n) .no 10 H (by have := Rc h1; omega) (Lz n) (by omega) (by omega)
  simp only [Ew, show ((10 : Nat) : Int) = 10 from rfl] at hdiv
  have hd : n % 10 < 10 := Nat.mod_lt _ (by omega)
  have hdig := digit_u8 hd
  unfold Sh.f5o
  simp only [GMb, GMc, Al, hdiv, DI, Ff, hdig, build_Y, toStr_enL]
  rw [BJ (by simp; omega)]
  simp only [GMb, GMc, A5]
  by_cases hn : n < 10
  ·have h0 : n / 10 = 0 := by omega
   have hm : n % 10 = n := by omega
   have hdn : Bm n = [UInt8.ofNat (48 + n)] := by unfold Bm; rw [dif_pos hn]
   rw [hdn, h0, Hs, hm]
   simp only [GMb, GMc, List.length_nil, show ((0 : Nat) : Int) = 0 from rfl, Ai, Nat.add_zero, g0]
   by_cases hz0 : z < 0
   ·simp only [hz0, GMb, GMc]
    rw [BJ (by simp; omega)]
    simp only [GMb, GMc, rP_str]
    simp
   ·simp only [hz0, GMb, GMc, rP_str]
    simp
  ·have h0 : n / 10 ≠ 0 := by omega
   have hne : ¬ ((Ch (n / 10)).length : Int) = 0 := by
    have := List.length_pos_iff.2 (lims_ne h0); omega
   have hdn : Bm n = Bm (n / 10) ++ [UInt8.ofNat (48 + n % 10)] := by
    conv => lhs; unfold Bm
    rw [dif_neg hn]
   have hlen : (Bm n).length = (Bm (n / 10)).length + 1 := by rw [hdn]; simp
   have := hrec (n / 10, [UInt8.ofNat (48 + n % 10)] ++ s) ⟨Nat.lt_of_le_of_lt (Nat.div_le_self _ _) h1, by simp; omega⟩ (by dsimp only; omega)
   simp only [hne, GMb, GMc]
   rw [this, hdn]
   simp
end Go.Gm
namespace Go.Gm
abbrev Er := Option (Int × List UInt8)
def Eq : Er → Int
 | none => 0
 | some e => e.1
@[simp] theorem BF : Eq none = 0 := rfl
@[simp] theorem AZ (e : Int × List UInt8) : Eq (some e) = e.1 := rfl
def CJ (b : List UInt8) (a : Nat) (s : List UInt8) : Int × List UInt8 := if a = b.length then (3, s) else (2, [])
theorem DA {b : List UInt8} {a : Nat} (ha : a ≤ b.length) (s : List UInt8) : (CJ b a s).1 = P7 b a := by
 unfold CJ P7
 by_cases h : a = b.length
 ·rw [if_pos h, if_pos (by omega)]
 ·rw [if_neg h, if_neg (by omega)]
theorem stpR_ne (b : List UInt8) (a : Nat) (s : List UInt8) : (CJ b a s).1 ≠ 0 := by unfold CJ; split <;> simp
def B7 (b : List UInt8) (a : Nat) (s rest : List UInt8) : Er × Nat := (if cpN (b.drop a) s < s.length then some (CJ b (Fv b a s) (s.drop (cpN (b.drop a) s) ++ rest)) else none, Fv b a s)
def FO (b : List UInt8) (a : Nat) (rest : List UInt8) : Er × Nat := (if a = b.length then none else if Aq b (crN b a) [10] then none else some (CJ b (crN b a) (10 :: rest)), MD b a)
def Ic (b : List UInt8) (f : Nat) (rest : List UInt8) : Er × Nat := (if CF b f 40 f = f then some (CJ b f (97 :: rest)) else none, CF b f 40 f)
def BI : List UInt8 := [48, 49, 50, 51, 52, 53, 54, 55, 56, 57]
def E8 (b : List UInt8) (f : Nat) (rest : List UInt8) : Nat → Nat → Er × Nat
 | 0, a => (none, a)
 | n + 1, a =>
  if Aq b a BI then
   if f < a ∧ b[f]? = some 48 then (some (CJ b a []), a)
   else if a - f = 400 then (some (4, []), a)
   else E8 b f rest n (a + 1)
  else if a = f then (some (CJ b a (49 :: rest)), a) else (none, a)
def Nk (b : List UInt8) (a : Nat) (neg : Bool) : Nat := if neg && Aq b a [45] then a + 1 else a
def EB (b : List UInt8) (a : Nat) (neg : Bool) (rest : List UInt8) : Er × Nat :=
 if neg && Aq b a [45] && Aq b (a + 1) [48] then (some (CJ b (a + 1) []), a + 1) else E8 b (Nk b a neg) rest 402 (Nk b a neg)
structure MSt where
 law : List UInt8
 nodes : List Nd
 lines : List (Nat × Int)
def NF (b : List UInt8) (a : Nat) (st : MSt) : (Er × Nat) × MSt :=
 if Aq b (a + 1) [67] then ((none, F6 b (a + 1)), st)
 else if Aq b (a + 1) [71] then
  match B7 b (a + 1) [71, 32] [49] with
  | (some e, c) => ((some e, c), st)
  | (none, c) => (EB b c false [], st)
 else if Aq b (a + 1) [82] then
  match B7 b (a + 1) [82, 32] [97] with
  | (some e, c) => ((some e, c), st)
  | (none, c) => match Ic b c [] with
   | (some e, d) => ((some e, d), st)
   | (none, d) => ((none, d), { st with law := (b.take d).drop c })
 else ((some (CJ b (a + 1) [67]), a + 1), st)
def sqK (on : Nat → Nat → Bool) (rec : Nat → Nat → List Nd → List Nd) (level x y half : Nat) : Nat → List Nd → List Nd × Nd
 | 0, l => (l, ⟨level, 0, 0, 0, 0⟩)
 | k + 1, l =>
  let r := sqK on rec level x y half k l
  if level ≤ 1 then (r.1, r.2.setKid k (if on (x + k % 2 * half) (y + k / 2 * half) then 1 else 0))
  else let m := rec (x + k % 2 * half) (y + k / 2 * half) r.1
   (m, r.2.setKid k (m.length : Int))
def sqF (on : Nat → Nat → Bool) : Nat → Nat → Nat → List Nd → List Nd
 | 0, _, _, l => l
 | v + 1, x, y, l =>
  let r := sqK on (sqF on v) (v + 1) x y (2 ^ v) 4 l
  r.1 ++ [r.2]
def onQ (on : List Bool) (x y : Nat) : Bool := on.getD (y * 8 + x) false
def CR (b : List UInt8) : Nat → Nat → Nat → Nat → List Bool → Er × Nat × List Bool
 | 0, a, _, _, on => (none, a, on)
 | n + 1, a, x, y, on =>
  if Aq b a [46, 42, 36] then
   if y = 8 ∨ (x = 8 ∧ ¬ Aq b a [36] = true) then (some (CJ b a []), a, on)
   else if Aq b a [36] then CR b n (a + 1) 0 (y + 1) on
   else CR b n (a + 1) (x + 1) y (on.set (y * 8 + x) (Aq b a [42]))
  else (none, a, on)
def NJ (b : List UInt8) (a : Nat) (st : MSt) : (Er × Nat) × MSt :=
 match CR b (b.length + 1 - a) a 0 0 (List.replicate 64 false) with
 | (some e, c, _) => ((some e, c), st)
 | (none, c, on) => ((none, c), { st with nodes := sqF (onQ on) 3 0 0 st.nodes, lines := st.lines ++ [((sqF (onQ on) 3 0 0 st.nodes).length, 3)] })
def Co (b : List UInt8) (a : Nat) : Nat := (b.getD a 48).toNat - 48
def Ht (b : List UInt8) : Nat → Nat → Nat → Er × Nat × Nat
 | 0, a, n => (none, a, n)
 | k + 1, a, n =>
  if Aq b a BI then
   if 1329 < 10 * n + Co b a then (some (4, []), a, n) else Ht b k (a + 1) (10 * n + Co b a)
  else if n = 0 then (some (CJ b a []), a, n) else (none, a, n)
def BK (b : List UInt8) (a : Nat) : Er × Nat × Nat := if Aq b a [48] then (some (CJ b a []), a, 0) else Ht b (b.length + 1 - a) a 0
def CK (lines : List (Nat × Int)) (level : Int) (n : Nat) : Bool :=
 if level = 1 then decide (n ≤ 255) else if n = 0 then true else match lines[n - 1]? with
  | some q => decide (q.2 = level - 1)
  | none => false
def Gi (lines : List (Nat × Int)) (level : Int) : Nat → Nat → Nat → Option Nat
 | 0, _, _ => none
 | f + 1, low, high =>
  if low ≤ lines.length then
   match (List.range (min high lines.length + 1 - low)).find? (fun i => CK lines level (low + i)) with
   | some i => some (low + i)
   | none => Gi lines level f (low * 10) (high * 10 + 9)
  else none
def DV (lines : List (Nat × Int)) (level : Int) (n : Nat) : Option Nat := if CK lines level n then some n else if n = 0 then none else Gi lines level (lines.length + 1) (n * 10) (n * 10 + 9)
def JF (b : List UInt8) (lines : List (Nat × Int)) (level : Int) (f : Nat) (rest : List UInt8) : Nat → Nat → Nat → Er × Nat × Nat
 | 0, a, n => (none, a, n)
 | k + 1, a, n =>
  if Aq b a BI then
   if f < a ∧ n = 0 then (some (CJ b a []), a, n)
   else if (DV lines level (10 * n + Co b a)).isSome then JF b lines level f rest k (a + 1) (10 * n + Co b a)
   else (some (CJ b a []), a, n)
  else if a = f then (some (CJ b a (48 :: rest)), a, n)
  else if CK lines level n then (none, a, n)
  else (some (CJ b a ((Bm ((DV lines level n).getD 0)).drop (a - f) ++ rest)), a, n)
def Pe (lines : List (Nat × Int)) (level : Int) (n : Nat) : Nat := if 1 < level ∧ 0 < n then ((lines[n - 1]?).getD (0, 0)).1 else n
def L2 (b : List UInt8) (a : Nat) (lines : List (Nat × Int)) (level : Int) (rest : List UInt8) : Er × Nat × Nat :=
 match JF b lines level a rest (b.length + 1 - a) a 0 with
 | (e, c, n) => (e, c, Pe lines level n)
def EV (b : List UInt8) (lines : List (Nat × Int)) (level : Int) : Nat → Nat → Nat → Nd → List UInt8 → Er × Nat × Nd
 | 0, _, a, x, _ => (none, a, x)
 | d + 1, k, a, x, rest => match B7 b a [32] (48 :: rest) with
  | (some e, c) => (some e, c, x)
  | (none, c) => match L2 b c lines level rest with
   | (some e, c', _) => (some e, c', x)
   | (none, c', n) => EV b lines level d (k + 1) c' (x.setKid k (n : Int)) (rest.drop 2)
def NA (b : List UInt8) (a : Nat) (st : MSt) : (Er × Nat) × MSt :=
 match BK b a with
 | (some e, c, _) => ((some e, c), st)
 | (none, c, v) => match EV b st.lines v 4 0 c ⟨v, 0, 0, 0, 0⟩ [32, 48, 32, 48, 32, 48] with
  | (some e, c', _) => ((some e, c'), st)
  | (none, c', x) => ((none, c'), { st with nodes := st.nodes ++ [x], lines := st.lines ++ [(st.nodes.length + 1, (v : Int))] })
def rlS (b : List UInt8) (N : Int) (a : Nat) (st : MSt) : (Er × Nat) × MSt :=
 if Aq b a [35] then NF b a st
 else if Aq b a [46, 42, 36, 49, 50, 51, 52, 53, 54, 55, 56, 57] && decide ((st.lines.length : Int) ≥ N) then ((some (4, []), a), st)
 else if Aq b a [46, 42, 36] then NJ b a st
 else NA b a st
def QJ (b : List UInt8) (N : Int) (a : Nat) (st : MSt) : (Er × Nat) × MSt :=
 match rlS b N a st with
 | ((some e, c), st') => ((some e, c), st')
 | ((none, c), st') => (FO b c [], st')
def Dq (b : List UInt8) (N : Int) : Nat → Nat → MSt → (Er × Nat) × MSt
 | 0, a, st => ((none, a), st)
 | k + 1, a, st =>
  if a = b.length then ((none, a), st)
  else match QJ b N a st with
   | ((some e, c), st') => ((some e, c), st')
   | ((none, c), st') => Dq b N k c st'
def CG : List UInt8 := [91, 77, 50, 93]
def GO : List UInt8 := [66, 51, 47, 83, 50, 51]
def Kb (b : List UInt8) (N : Int) (st : MSt) : (Er × Nat) × MSt :=
 match B7 b 0 CG [] with
 | (some e, c) => ((some e, c), st)
 | (none, c) => match FO b (F6 b c) [] with
  | (some e, d) => ((some e, d), st)
  | (none, d) => Dq b N (b.length + 1) d st
end Go.Gm
namespace Go.Gm

def Ng (b : List UInt8) (f : Nat) (rest : List UInt8) : Nat → Nat → Option Ab × Nat
 | 0, a => (none, a)
 | n + 1, a =>
  if Aq b a BI then
   if f < a ∧ b[f]? = some 48 then (some (Pf b a []), a)
   else if a - f = 400 then (some (Rn 4 []), a)
   else Ng b f rest n (a + 1)
  else if a = f then (some (Pf b a (49 :: rest)), a) else (none, a)
theorem numR_le (b : List UInt8) (f : Nat) (rest : List UInt8) : ∀ n a, a ≤ b.length → a ≤ (Ng b f rest n a).2 ∧ (Ng b f rest n a).2 ≤ b.length
 | 0, a, h => ⟨Nat.le_refl _, h⟩
 | n + 1, a, h => by
  unfold Ng
  by_cases hs : Aq b a BI = true
  ·rw [if_pos hs]
   by_cases h1 : f < a ∧ b[f]? = some 48
   ·rw [if_pos h1]; exact ⟨Nat.le_refl _, h⟩
   ·rw [if_neg h1]
    by_cases h2 : a - f = 400
    ·rw [if_pos h2]; exact ⟨Nat.le_refl _, h⟩
    ·rw [if_neg h2]
     have := numR_le b f rest n (a + 1) (BU hs)
     exact ⟨by omega, this.2⟩
  ·rw [if_neg hs]
   by_cases h1 : a = f
   ·rw [if_pos h1]; exact ⟨Nat.le_refl _, h⟩
   ·rw [if_neg h1]; exact ⟨Nat.le_refl _, h⟩
theorem numR_on {b : List UInt8} {f a : Nat} {rest : List UInt8} {n : Nat} (hs : Aq b a BI = true) (h1 : ¬ (f < a ∧ b[f]? = some 48)) (h2 : ¬ a - f = 400) : Ng b f rest (n + 1) a = Ng b f rest n (a + 1) := by
 rw [Ng, if_pos hs, if_neg h1, if_neg h2]
noncomputable def numO (H0 K : Aa) (p : Nat) (b : List UInt8) (r : List Ab) (q from_ : Ab) : Option Ab × Nat → Out
 | (some v, e) => some (.pan v, AO K p b r e)
 | (none, e) => Sh.f39 H0 (.ptr p 0 0) q from_ (AO K p b r e)
theorem lx_num_loop {H0 K : Aa} {p f : Nat} {b : List UInt8} {r : List Ab} (h : Lx K p b f r) (hf : f ≤ b.length) (hb : b.length < 1152921504606846976) (rest : List UInt8) (hr : rest.length ≤ 1000000) (q from_ : Ab) :
  Ao (fun rec2 vs H => Sh.f3r H0 rec2 (ag vs 0) (ag vs 1) (ag vs 2) (ag vs 3) (ag vs 4) H) AC [.ptr p 0 0, .str rest, q, from_, .int .i64 (f : Int)] K = numO H0 K p b r q from_ (Ng b f rest 402 f) := by
 have key := AM (G := fun rec2 vs H => Sh.f3r H0 rec2 (ag vs 0) (ag vs 1) (ag vs 2) (ag vs 3) (ag vs 4) H) (σ := Nat) (fun i => f ≤ i ∧ i ≤ b.length ∧ i - f ≤ 400) (fun _ => [.ptr p 0 0, .str rest, q, from_, .int .i64 (f : Int)]) (fun i => AO K p b r i) (fun i => b.length - i)
  (fun i => numO H0 K p b r q from_ (Ng b f rest (402 - (i - f)) i)) (fun i rec hi hrec => ?_) f ⟨Nat.le_refl _, hf, by omega⟩ (by omega)
 ·rw [BV h, Nat.sub_self, Nat.sub_zero] at key; exact key
 ·obtain ⟨h1, h2, h3⟩ := hi
  have hx := CV (a' := i) h
  have e : 402 - (i - f) = (401 - (i - f)) + 1 := by omega
  have hcat : Ae .none .add (.str [49]) (.str rest) = some (.str (49 :: rest)) := BJ (by simp only [List.length_cons, List.length_nil]; omega)
  unfold Sh.f3r
  have hsee := Cs hx h2 BI
  unfold BI at hsee
  rw [e]
  have hseesd : Aq b i [48, 49, 50, 51, 52, 53, 54, 55, 56, 57] = Aq b i BI := rfl
  simp only [GMb, GMc, hsee, hseesd]
  cases hs : Aq b i BI with
  | true =>
   have hlt := BU hs
   have hfl : f < b.length := by omega
   have hw : IntKind.i64.wrap ((i : Int) - (f : Int)) = ((i - f : Nat) : Int) := by rw [A1] <;> omega
   have tail : ¬ (f < i ∧ b[f]? = some 48) → ((Ae .none .sub (.int .i64 (i : Int)) (.int .i64 (f : Int))).bind fun x56 =>
     (Ae .none .eql x56 (.int .i64 400)).bind fun x57 =>
     Aj x57 (bK H0 (Sh.fb (.ptr p 0 0) (AO K p b r i)) fun x58 H59 => Sh.f3q H0 rec (.ptr p 0 0) (.str rest) q from_ (.int .i64 (f : Int)) H59)
      (Sh.f3q H0 rec (.ptr p 0 0) (.str rest) q from_ (.int .i64 (f : Int)) (AO K p b r i))) = numO H0 K p b r q from_ (Ng b f rest (401 - (i - f) + 1) i) := by
    intro hn
    simp only [GMb, GMc, hw]
    by_cases h4 : i - f = 400
    ·have h4' : ((i - f : Nat) : Int) = 400 := by omega
     rw [Ng, if_pos hs, if_neg hn, if_pos h4]
     simp only [h4', GMb, GMc, lx_limit]
     rfl
    ·have h4' : ¬ ((i - f : Nat) : Int) = 400 := by omega
     rw [numR_on hs hn h4]
     unfold Sh.f3q
     simp only [h4', GMb, GMc, Ag, Ai, Nat.zero_add, DE hx, Ar (show i < 9223372036854775807 by omega), Fp h]
     have := hrec (i + 1) ⟨by omega, by omega, by omega⟩ (by omega)
     rw [show 402 - (i + 1 - f) = 401 - (i - f) by omega] at this
     exact this
   by_cases hfi : f < i
   ·have hfi' : (i : Int) > (f : Int) := by omega
    simp only [GMb, GMc, Ag, Ai, Nat.zero_add, DE hx, RV hx, hfi', AK hfl, Al]
    by_cases h0 : b[f] = 48
    ·rw [Ng, if_pos hs, if_pos ⟨hfi, by rw [List.getElem?_eq_getElem hfl, h0]⟩]
     simp only [h0, GMb, GMc, Mc hx]
     rfl
    ·have h0' : ¬ ((b[f].toNat : Int) = 48) := fun hc => h0 (UInt8.toNat_inj.1 (by show b[f].toNat = 48; omega))
     simp only [h0', GMb, GMc]
     exact tail (fun hc => h0 (by have := hc.2; rw [List.getElem?_eq_getElem hfl] at this; exact Option.some.inj this))
   ·have hfi' : ¬ (i : Int) > (f : Int) := by omega
    simp only [GMb, GMc, Ag, Ai, Nat.zero_add, DE hx, hfi', Al]
    exact tail (fun hc => hfi hc.1)
  | false =>
   rw [Ng, if_neg (by rw [hs]; exact Bool.false_ne_true)]
   simp only [GMb, GMc, Ag, Ai, Nat.zero_add, DE hx, Al]
   by_cases he : i = f
   ·have he' : (i : Int) = (f : Int) := by omega
    rw [if_pos he]
    simp only [he', GMb, GMc, hcat, Mc hx]
    rfl
   ·have he' : ¬ (i : Int) = (f : Int) := by omega
    rw [if_neg he]
    simp only [he', GMb, GMc]
    rfl
end Go.Gm
namespace Go.Gm
def Kd (l : List Nat) : Nat → Nat
 | 0 => 0
 | k + 1 => if l[k]?.getD 0 = 0 then Kd l k else k + 1
theorem topK_le (l : List Nat) : ∀ k, Kd l k ≤ k
 | 0 => Nat.le_refl _
 | k + 1 => by
  have := topK_le l k
  unfold Kd
  split <;> omega
theorem So {l : List Nat} (hx : Lim l) : ∀ k, k ≤ l.length → l.take (Kd l k) = Ch (val (l.take k))
 | 0, _ => by
  have : Ch (val ([] : List Nat)) = [] := (Rb (l := []) ⟨fun x h => (by cases h), fun x h => (by cases h)⟩).symm
  simpa [Kd] using this.symm
 | k + 1, hk => by
  have hg : l[k]? = some l[k] := List.getElem?_eq_getElem (by omega)
  have ht : l.take (k + 1) = l.take k ++ [l[k]] := List.take_succ_eq_append_getElem (by omega)
  unfold Kd
  split
  ·rename_i h
   rw [So hx k (by omega), ht, Ea]
   rw [hg, Option.getD_some] at h
   rw [h]
   simp [val]
  ·rename_i h
   rw [hg, Option.getD_some] at h
   refine Rb ⟨fun x hxl => hx x (List.mem_of_mem_take hxl), fun x hxl => ?_⟩
   rw [ht, List.getLast?_concat] at hxl
   cases hxl
   exact h
theorem q_right {l : List Nat} {H : Aa} {id k : Nat} (hg : H[id]? = some (.cel 0 (flat cU l))) (hk : k ≤ l.length) (hl : l.length < 9223372036854775807) : Sh.f1s (.ms id 0 0 k l.length 1 true) H = some (.ret (.bool (decide (k = 0) || decide (l[k - 1]?.getD 0 ≠ 0))), H) := by
 unfold Sh.f1s
 cases k with
 | zero => simp [AH]
 | succ k =>
  have hidx := ED (sz := 1) (id := id) (n := k + 1) (K := .i64) (g := 0) (off := 0) (cap := l.length) (ex := true) (i := k) (by omega)
  simp only [Nat.zero_add, Nat.mul_one] at hidx
  have hld := G9 (f := cU) (id := id) (l := l) (H := H) (show A7 H id 0 = some (flat cU l) by simp [A7, hg]) (i := k) (by omega)
  have h0 : ¬ ((k + 1 : Nat) : Int) = 0 := by omega
  have hw : IntKind.i64.wrap (((k + 1 : Nat) : Int) - 1) = (k : Int) := by rw [A1] <;> omega
  have hgk : l[k]? = some l[k] := List.getElem?_eq_getElem (by omega)
  simp only [show AH (.ms id 0 0 (k + 1) l.length 1 true) = some (.int .i64 ((k + 1 : Nat) : Int)) from rfl, GMb, GMc, h0, hw, hidx, hld, Nat.add_sub_cancel, hgk, Option.getD_some, Nat.succ_ne_zero]
  by_cases h : l[k] = 0
  ·simp [h]
  ·have : ¬ (l[k] : Int) = 0 := by omega
   simp [h, this]
theorem q_cut {l : List Nat} {H : Aa} {id : Nat} (hg : H[id]? = some (.cel 0 (flat cU l))) (hl : l.length < 1152921504606846976) : Sh.f1t (.ms id 0 0 l.length l.length 1 true) H = some (.ret (.ms id 0 0 (Kd l l.length) l.length 1 true), H) := by
 unfold Sh.f1t
 refine AM (σ := Nat) (fun k => k ≤ l.length ∧ Kd l k = Kd l l.length) (fun k => [.ms id 0 0 k l.length 1 true]) (fun _ => H) (fun k => k) (fun _ => some (.ret (.ms id 0 0 (Kd l l.length) l.length 1 true), H)) (fun k rec hi hrec => ?_) l.length ⟨Nat.le_refl _, rfl⟩ (by omega)
 obtain ⟨hk, ht⟩ := hi
 unfold Sh.f64
 simp only [AF, q_right hg hk (by omega), GMb, GMc]
 cases k with
 | zero => simp [← ht, Kd, rKN, fin, forget, FM, fgt]
 | succ k =>
  by_cases h : l[k]?.getD 0 = 0
  ·have hw : IntKind.i64.wrap (((k + 1 : Nat) : Int) - 1) = (k : Int) := by rw [A1] <;> omega
   have hsl : FI 1 (.ms id 0 0 (k + 1) l.length 1 true) none (some (.int .i64 (k : Int))) none = some (.ms id 0 0 k l.length 1 true) := by
    have : (0 : Int) ≤ (k : Int) := by omega
    simp only [FI, Bs, Option.bind_some, this, if_true, Int.toNat_natCast]
    rw [if_pos ⟨trivial, by omega, by omega, by omega⟩]
    simp
   have ht' : Kd l k = Kd l l.length := by rw [← ht]; simp [Kd, h]
   have hr := hrec k ⟨by omega, ht'⟩ (by omega)
   simp only [h, show AH (.ms id 0 0 (k + 1) l.length 1 true) = some (.int .i64 ((k + 1 : Nat) : Int)) from rfl, GMb, GMc, hw, hsl, Nat.add_sub_cancel, ne_eq, not_true_eq_false, Nat.succ_ne_zero]
   exact hr
  ·have ht' : Kd l (k + 1) = k + 1 := by simp [Kd, h]
   rw [← ht, ht']
   simp only [h, GMb, GMc, Nat.add_sub_cancel, ne_eq, not_false_eq_true, Nat.succ_ne_zero]
   simp [rKN, fin, forget, FM, fgt]
end Go.Gm
namespace Go.Gm
theorem fall_msT {α : Type} {f : α → List Ab} {sz : Nat} [hf : Sz f sz] [hp : Pl f] {H : Aa} {l : List α} {id b d cap k : Nat} {ex : Bool} (hg : A7 H id 0 = some (flat f l)) (hi : b ≤ id) (hk : k ≤ l.length) : FA H b (d + 3) (.ms id 0 0 k cap sz ex) = some (.sl (enL f (l.take k)) .no) := by
 have h1 : ¬ id < b := by omega
 have h2 : k * sz ≤ l.length * sz := Nat.mul_le_mul_right _ hk
 have h3 : (l.take k).length = k := by simp; omega
 have h4 := R6 (f := f) (l.take k)
 rw [h3] at h4
 unfold FA
 simp only [frz, h1, if_false, hg, Option.bind_some, List.drop_zero, Nat.zero_add, L7, h2, if_true, OK, Hi (NN (f := f) (l.take k)), flat_imm (f := f) (l.take k), h4, Option.map_some, forget, FM, fgt]
theorem wrap_u32m (t : Nat) : IntKind.u32.wrap (t : Int) = ((t % 4294967296 : Nat) : Int) := by
 simp only [IntKind.wrap, IntKind.bits, IntKind.signed]
 simp
theorem bin_shr64 (t : Nat) : Ae .none .shr (.int .u64 (t : Int)) (.int .u64 32) = some (.int .u64 ((t / 4294967296 : Nat) : Int)) := by
 show some (Ab.int .u64 ((t : Int).fdiv 4294967296)) = _
 rw [Int.fdiv_eq_ediv_of_nonneg _ (by decide)]
 rfl
theorem QM {x m c : Nat} (hx : x < 4294967296) (hm : m < 4294967296) (hc : c < 4294967296) : c + x * m < 18446744073709551616 := by
 have h1 : x * m ≤ 4294967295 * 4294967295 := Nat.mul_le_mul (by omega) (by omega)
 omega
theorem Qb (x : Nat) : val [x] = x := by simp [val]
def Cr (l : List Nat) (m c : Nat) : Nat → List Nat × Nat
 | 0 => ([], c)
 | i + 1 => ((Cr l m c i).1 ++ [((Cr l m c i).2 + l[i]?.getD 0 * m) % 4294967296], ((Cr l m c i).2 + l[i]?.getD 0 * m) / 4294967296)
theorem NC {l : List Nat} {m c : Nat} (hx : Lim l) (hm : m < 4294967296) (hc : c < 4294967296) : ∀ i, i ≤ l.length →
  (Cr l m c i).1.length = i ∧ (Cr l m c i).2 < 4294967296 ∧ Lim (Cr l m c i).1 ∧ val (Cr l m c i).1 + 4294967296 ^ i * (Cr l m c i).2 = val (l.take i) * m + c
 | 0, _ => ⟨rfl, hc, fun x h => (by cases h), by simp [Cr, val]⟩
 | i + 1, hi => by
  obtain ⟨h1, h2, h3, h4⟩ := NC hx hm hc i (by omega)
  have hxi := hx _ (List.getElem_mem (show i < l.length by omega))
  have hg : l[i]?.getD 0 = l[i] := by rw [List.getElem?_eq_getElem (by omega)]; rfl
  have ht := QM hxi hm h2
  simp only [Cr, hg]
  refine ⟨by simp [h1], ?_, ?_, ?_⟩
  ·omega
  ·intro x hxx
   rcases List.mem_append.1 hxx with h | h
   ·exact h3 x h
   ·rw [List.mem_singleton.1 h]; exact Nat.mod_lt _ (by decide)
  ·rw [List.take_succ_eq_append_getElem (by omega), Ea, Ea, h1, List.length_take, Nat.min_eq_left (by omega)]
   have hdm := Nat.div_add_mod ((Cr l m c i).2 + l[i] * m) 4294967296
   simp only [val, Nat.mul_zero, Nat.add_zero]
   generalize ((Cr l m c i).2 + l[i] * m) / 4294967296 = q at *
   generalize ((Cr l m c i).2 + l[i] * m) % 4294967296 = r at *
   rw [Nat.pow_succ, Nat.mul_assoc, Nat.add_assoc, ← Nat.mul_add, show r + 4294967296 * q = (Cr l m c i).2 + l[i] * m by omega, Nat.mul_add, Nat.add_mul]
   rw [← Nat.add_assoc, h4, Nat.mul_assoc]
   omega
theorem q_mul {l : List Nat} {tk : Tok} {m c : Nat} (H : Aa) (hx : Lim l) (hl : l.length ≤ 1099511627776) (hm : m < 4294967296) (hc : c < 4294967296) :
  Sh.f20 (.sl (enL cU l) tk) (.int .u32 (m : Int)) (.int .u32 (c : Int)) H = some (.ret (.sl (enL cU (Ch (val l * m + c))) .no), H) := by
 unfold Sh.f20
 have hn : IntKind.i64.wrap ((l.length : Int) + 1) = ((l.length + 1 : Nat) : Int) := by rw [A1] <;> omega
 have hmk := FX (f := cU) (a := 0) (n := l.length + 1) (bytes := 4) (H := H) (by omega) (by omega)
 simp only [show cU 0 = [Ab.int .u32 0] from rfl] at hmk
 have hcc : AI .u64 (.int .u32 (c : Int)) = some (.int .u64 (c : Int)) := by rw [Bj, BB (by omega) (by omega)]
 have hcm : AI .u64 (.int .u32 (m : Int)) = some (.int .u64 (m : Int)) := by rw [Bj, BB (by omega) (by omega)]
 simp only [GMb, GMc, A5, hn, hmk, hcc]
 refine Ct l.length (fun i => [.sl (enL cU l) tk, .int .u32 (m : Int), .ms H.length 0 0 (l.length + 1) (l.length + 1) 1 true, .int .u64 ((Cr l m c i).2 : Int), .sl (enL cU l) tk, .int .i64 (l.length : Int), .int .i64 (i : Int)])
  (fun i => H ++ [.cel 0 (flat cU ((Cr l m c i).1 ++ List.replicate (l.length + 1 - i) 0))]) _ (by omega) (fun rec i hi => ?_) (fun rec => ?_)
 ·obtain ⟨h1, h2, h3, h4⟩ := NC hx hm hc i (by omega)
  have hi' : (i : Int) < (l.length : Int) := by omega
  have hxi := hx _ (List.getElem_mem hi)
  have hg : l[i]?.getD 0 = l[i] := by rw [List.getElem?_eq_getElem hi]; rfl
  have ht := QM hxi hm h2
  have hidx := ED (sz := 1) (id := H.length) (n := l.length + 1) (K := .i64) (g := 0) (off := 0) (cap := l.length + 1) (ex := true) (i := i) (by omega)
  simp only [Nat.zero_add, Nat.mul_one] at hidx
  obtain ⟨t, htt⟩ : ∃ t, t = (Cr l m c i).2 + l[i] * m := ⟨_, rfl⟩
  have hP : l[i] * m ≤ 4294967295 * 4294967295 := Nat.mul_le_mul (by omega) (by omega)
  have w1 : AI .u64 (.int .u32 (l[i] : Int)) = some (.int .u64 (l[i] : Int)) := by rw [Bj, BB (by omega) (by omega)]
  have w2 : IntKind.u64.wrap ((l[i] : Int) * (m : Int)) = ((l[i] * m : Nat) : Int) := by rw [← Int.natCast_mul, BB (by omega) (by omega)]
  have w3 : IntKind.u64.wrap (((Cr l m c i).2 : Int) + ((l[i] * m : Nat) : Int)) = (t : Int) := by rw [BB] <;> omega
  have w4 : AI .u32 (.int .u64 (t : Int)) = some (.int .u32 ((t % 4294967296 : Nat) : Int)) := by rw [Bj, wrap_u32m]
  have w5 : Ae .none .shr (.int .u64 (t : Int)) (.int .u64 32) = some (.int .u64 ((t / 4294967296 : Nat) : Int)) := bin_shr64 t
  have w6 : IntKind.i64.wrap ((i : Int) + 1) = ((i + 1 : Nat) : Int) := by rw [A1] <;> omega
  have hst := Gc (f := cU) (sz := 1) (l := (Cr l m c i).1 ++ List.replicate (l.length + 1 - i) 0) (i := i) (a := t % 4294967296) (v := .int .u32 ((t % 4294967296 : Nat) : Int)) (H := H ++ [Blk.cel 0 (flat cU ((Cr l m c i).1 ++ List.replicate (l.length + 1 - i) 0))]) (id := H.length) (Bc AG) (by simp; omega) rfl
  have hset : ((Cr l m c i).1 ++ List.replicate (l.length + 1 - i) 0).set i (t % 4294967296) = (Cr l m c (i + 1)).1 ++ List.replicate (l.length + 1 - (i + 1)) 0 := by
   rw [show l.length + 1 - i = (l.length + 1 - (i + 1)) + 1 by omega, List.replicate_succ, List.set_append_right _ _ (by omega), h1, Nat.sub_self, List.set_cons_zero]
   simp [Cr, hg, ← htt]
  rw [Nat.mul_one, Dg AG, Cd, hset] at hst
  unfold Sh.f52
  simp only [GMb, GMc, Al, hi', A2 hi, Aw, List.getElem?_cons_zero, w1, hcm, w2, w3, w4, hidx, hst, w5, w6]
  simp only [Cr, hg, ← htt]
 ·obtain ⟨h1, h2, h3, h4⟩ := NC hx hm hc l.length (Nat.le_refl _)
  have hidx := ED (sz := 1) (id := H.length) (n := l.length + 1) (K := .i64) (g := 0) (off := 0) (cap := l.length + 1) (ex := true) (i := l.length) (by omega)
  simp only [Nat.zero_add, Nat.mul_one] at hidx
  have w4 : AI .u32 (.int .u64 ((Cr l m c l.length).2 : Int)) = some (.int .u32 ((Cr l m c l.length).2 : Int)) := by rw [Bj, C9 (by omega) (by omega)]
  have hst := Gc (f := cU) (sz := 1) (l := (Cr l m c l.length).1 ++ List.replicate (l.length + 1 - l.length) 0) (i := l.length) (a := (Cr l m c l.length).2) (v := .int .u32 ((Cr l m c l.length).2 : Int)) (H := H ++ [Blk.cel 0 (flat cU ((Cr l m c l.length).1 ++ List.replicate (l.length + 1 - l.length) 0))]) (id := H.length) (Bc AG) (by simp; omega) rfl
  have hset : ((Cr l m c l.length).1 ++ List.replicate (l.length + 1 - l.length) 0).set l.length (Cr l m c l.length).2 = (Cr l m c l.length).1 ++ [(Cr l m c l.length).2] := by
   rw [show l.length + 1 - l.length = 1 by omega, List.set_append_right _ _ (by omega), h1, Nat.sub_self]
   rfl
  rw [Nat.mul_one, Dg AG, Cd, hset] at hst
  obtain ⟨o, ho⟩ : ∃ o, o = (Cr l m c l.length).1 ++ [(Cr l m c l.length).2] := ⟨_, rfl⟩
  have hol : o.length = l.length + 1 := by rw [ho]; simp [h1]
  have hox : Lim o := by
   intro x hxx
   rw [ho] at hxx
   rcases List.mem_append.1 hxx with h | h
   ·exact h3 x h
   ·rw [List.mem_singleton.1 h]; exact h2
  have hov : val o = val l * m + c := by
   rw [ho, Ea, h1, Qb]
   rw [List.take_length] at h4
   exact h4
  rw [← ho] at hst
  have hct := q_cut (l := o) (H := H ++ [Blk.cel 0 (flat cU o)]) (id := H.length) AG (by omega)
  have htk := So hox o.length (Nat.le_refl _)
  rw [List.take_length, hov] at htk
  have hfa := fall_msT (f := cU) (sz := 1) (b := H.length) (d := 5) (cap := o.length) (ex := true) (k := Kd o o.length) (l := o) (H := H ++ [Blk.cel 0 (flat cU o)]) (id := H.length) (Bc AG) (Nat.le_refl _) (topK_le o _)
  rw [htk] at hfa
  rw [hol] at hct hfa
  unfold Sh.f52
  simp only [GMb, GMc, Al, Int.lt_irrefl, A5, w4, hidx, hst, hct, DB, hfa, Option.map_some]
end Go.Gm
namespace Go.Gm
theorem q01_mul {l : List Nat} {tk : Tok} {m c : Nat} (H : Aa) (hx : Lim l) (hl : l.length ≤ 1099511627775) (hm : m < 4294967296) (hc : c < 4294967296) :
  Sh.f2v (.sl (enL cU l) tk) (.int .u32 (m : Int)) (.int .u32 (c : Int)) H = some (.ret (.sl (enL cU (Ch (val l * m + c))) .no), H) := by
 unfold Sh.f2v
 have hcc : AI .u64 (.int .u32 (c : Int)) = some (.int .u64 (c : Int)) := by rw [Bj, BB (by omega) (by omega)]
 have hcm : AI .u64 (.int .u32 (m : Int)) = some (.int .u64 (m : Int)) := by rw [Bj, BB (by omega) (by omega)]
 simp only [GMb, GMc, hcc]
 refine Ct l.length (fun i => [.sl (enL cU l) tk, .int .u32 (m : Int), Fs cU H (Cr l m c i).1, .int .u64 ((Cr l m c i).2 : Int), .int .i64 (i : Int)])
  (fun i => Ev cU Ce 1 H (Cr l m c i).1) _ (by omega) (fun rec i hi => ?_) (fun rec => ?_)
 ·obtain ⟨h1, h2, h3, h4⟩ := NC hx hm hc i (by omega)
  have hi' : (i : Int) < (l.length : Int) := by omega
  have hxi := hx _ (List.getElem_mem hi)
  have hg : l[i]?.getD 0 = l[i] := by rw [List.getElem?_eq_getElem hi]; rfl
  have ht := QM hxi hm h2
  obtain ⟨t, htt⟩ : ∃ t, t = (Cr l m c i).2 + l[i] * m := ⟨_, rfl⟩
  have hP : l[i] * m ≤ 4294967295 * 4294967295 := Nat.mul_le_mul (by omega) (by omega)
  have w1 : AI .u64 (.int .u32 (l[i] : Int)) = some (.int .u64 (l[i] : Int)) := by rw [Bj, BB (by omega) (by omega)]
  have w2 : IntKind.u64.wrap ((l[i] : Int) * (m : Int)) = ((l[i] * m : Nat) : Int) := by rw [← Int.natCast_mul, BB (by omega) (by omega)]
  have w3 : IntKind.u64.wrap (((l[i] * m : Nat) : Int) + ((Cr l m c i).2 : Int)) = (t : Int) := by rw [BB] <;> omega
  have w7 : (t : Int).tmod 4294967296 = ((t % 4294967296 : Nat) : Int) := rfl
  have w4 : AI .u32 (.int .u64 ((t % 4294967296 : Nat) : Int)) = some (.int .u32 ((t % 4294967296 : Nat) : Int)) := by rw [Bj, C9 (by omega) (by omega)]
  have w5 : IntKind.u64.wrap ((t : Int).tdiv 4294967296) = ((t / 4294967296 : Nat) : Int) := by rw [show (t : Int).tdiv 4294967296 = ((t / 4294967296 : Nat) : Int) from rfl, BB (by omega) (by omega)]
  have w6 : IntKind.i64.wrap ((i : Int) + 1) = ((i + 1 : Nat) : Int) := by rw [A1] <;> omega
  have hap := Fl (f := cU) (ty := Ce) (sz := 1) (tk := .tight) (bytes := 4) (B := H) (l := (Cr l m c i).1) (m := [t % 4294967296]) (by simp) (by simp; omega) (by simp; omega)
  unfold Sh.f5r
  simp only [GMb, GMc, Al, A5, hi', A2 hi, Aw, List.getElem?_cons_zero, w1, hcm, w2, w3, FT (show (4294967296 : Int) ≠ 0 by decide), GM (show (4294967296 : Int) ≠ 0 by decide), w7, w4, build_U, hap, w5, w6]
  simp only [Cr, hg, ← htt]
 ·obtain ⟨h1, h2, h3, h4⟩ := NC hx hm hc l.length (Nat.le_refl _)
  have w4 : AI .u32 (.int .u64 ((Cr l m c l.length).2 : Int)) = some (.int .u32 ((Cr l m c l.length).2 : Int)) := by rw [Bj, C9 (by omega) (by omega)]
  have hap := Fl (f := cU) (ty := Ce) (sz := 1) (tk := .tight) (bytes := 4) (B := H) (l := (Cr l m c l.length).1) (m := [(Cr l m c l.length).2]) (by simp) (by simp; omega) (by simp; omega)
  obtain ⟨o, ho⟩ : ∃ o, o = (Cr l m c l.length).1 ++ [(Cr l m c l.length).2] := ⟨_, rfl⟩
  have hox : Lim o := by
   intro x hxx
   rw [ho] at hxx
   rcases List.mem_append.1 hxx with h | h
   ·exact h3 x h
   ·rw [List.mem_singleton.1 h]; exact h2
  have hov : val o = val l * m + c := by
   rw [ho, Ea, h1, Qb]
   rw [List.take_length] at h4
   exact h4
  have hol : o.length ≤ 1099511627776 := by rw [ho]; simp; omega
  rw [← ho] at hap
  obtain ⟨G, hG⟩ := LY (f := cU) (ty := Ce) (sz := 1) H o
  have hn := Q2 o (outK H o) (H ++ G) hol hox
  rw [hov] at hn
  unfold Sh.f5r
  simp only [GMb, GMc, Al, Int.lt_irrefl, A5, w4, build_U, hap]
  simp only [G6, hG, hn, GMb, GMc, DB, I3, Option.map_some]
end Go.Gm
namespace Go.Gm
theorem decN_lib (n : Nat) : Lib.decDigits n = Bm n := by
 induction n using Nat.strongRecOn with
 | ind n ih =>
  unfold Lib.decDigits Bm
  split
  ·rfl
  ·rw [ih (n / 10) (by omega)]
theorem R2 (n : Nat) : 0 < (Bm n).length := by
 unfold Bm
 split <;> simp
section
variable {H : Aa} {id g i : Nat} {L : List (List UInt8)}
end
def Turn (P L : List (List UInt8)) (i : Nat) : Prop := L.length = P.length ∧ ∀ k, k < P.length → L[k]? = if k < i ∨ P.length - i ≤ k then P[P.length - 1 - k]? else P[k]?
theorem Turn.step {P L : List (List UInt8)} {i : Nat} (h : Turn P L i) (hi : i < P.length - 1 - i) (hl : i < L.length) (hj : P.length - 1 - i < L.length) : Turn P ((L.set i L[P.length - 1 - i]).set (P.length - 1 - i) L[i]) (i + 1) := by
 obtain ⟨h1, h2⟩ := h
 refine ⟨by simp [h1], fun k hk => ?_⟩
 have ei := h2 i (by omega)
 have ej := h2 (P.length - 1 - i) (by omega)
 rw [List.getElem?_eq_getElem hl, if_neg (by omega)] at ei
 rw [List.getElem?_eq_getElem hj, if_neg (by omega)] at ej
 by_cases k1 : k = P.length - 1 - i
 ·subst k1
  rw [List.getElem?_set_self (by simp; omega), if_pos (by omega), ei]
  congr 1
  omega
 ·rw [List.getElem?_set_ne (Ne.symm k1)]
  by_cases k2 : k = i
  ·subst k2
   rw [List.getElem?_set_self hl, if_pos (by omega), ej]
  ·rw [List.getElem?_set_ne (Ne.symm k2), h2 k hk]
   by_cases k3 : k < i ∨ P.length - i ≤ k
   ·rw [if_pos k3, if_pos (by omega)]
   ·rw [if_neg k3, if_neg (by omega)]
theorem Turn.done {P L : List (List UInt8)} {i : Nat} (h : Turn P L i) (hi : ¬ i < P.length - 1 - i) : L = P.reverse := by
 apply List.ext_getElem?
 intro k
 by_cases hk : k < P.length
 ·rw [h.2 k hk, List.getElem?_reverse hk]
  split
  ·rfl
  ·congr 1
   omega
 ·rw [List.getElem?_eq_none (by rw [h.1]; omega), List.getElem?_eq_none (by simp; omega)]
end Go.Gm
namespace Go.Gm
def padk : Nat → Nat → List UInt8
 | 0, _ => []
 | k + 1, r => padk k (r / 10) ++ [UInt8.ofNat (48 + r % 10)]
theorem Da {n : Nat} (h : n < 10) : Bm n = [UInt8.ofNat (48 + n)] := by unfold Bm; rw [dif_pos h]
theorem EI {n : Nat} (h : ¬ n < 10) : Bm n = Bm (n / 10) ++ [UInt8.ofNat (48 + n % 10)] := by
 conv => lhs; unfold Bm
 rw [dif_neg h]
theorem Ta {q : Nat} (hq : 0 < q) : ∀ k r, r < 10 ^ k → Bm (q * 10 ^ k + r) = Bm q ++ padk k r
 | 0, r, h => by
  have : r = 0 := by simpa using h
  subst this
  simp [padk]
 | k + 1, r, h => by
  have h2 : r / 10 < 10 ^ k := by
   rw [Nat.div_lt_iff_lt_mul (by omega), ← Nat.pow_succ]; exact h
  have hp : 1 ≤ 10 ^ k := Nat.pow_pos (by omega)
  have hqk : 1 ≤ q * 10 ^ k := Nat.mul_pos hq hp
  have e : q * 10 ^ (k + 1) + r = 10 * (q * 10 ^ k) + r := by rw [Nat.pow_succ]; rw [← Nat.mul_assoc]; omega
  rw [e, EI (by omega), show (10 * (q * 10 ^ k) + r) / 10 = q * 10 ^ k + r / 10 by omega, show (10 * (q * 10 ^ k) + r) % 10 = r % 10 by omega, Ta hq k _ h2, padk]
  simp
theorem Tb (n : Nat) (h : n ≠ 0) : ∃ c r, Bm n = c :: r ∧ c ≠ 48 := by
 induction n using Nat.strongRecOn with
 | ind n ih =>
  by_cases hn : n < 10
  ·refine ⟨_, _, Da hn, fun e => ?_⟩
   have := congrArg UInt8.toNat e
   rw [UInt8.toNat_ofNat_of_lt' (show 48 + n < 256 by omega)] at this
   have h48 : (48 : UInt8).toNat = 48 := rfl
   omega
  ·obtain ⟨c, r, h1, h2⟩ := ih (n / 10) (by omega) (by omega)
   exact ⟨c, r ++ [UInt8.ofNat (48 + n % 10)], by rw [EI hn, h1]; rfl, h2⟩
theorem pow10_up {a b : Nat} (h : a ≤ b) : 10 ^ a ≤ 10 ^ b := Nat.pow_le_pow_right (by omega) h
theorem decZ_zero : FB 0 = [48] := by
 unfold FB
 rw [if_neg (by decide)]
 exact Da (by decide)
end Go.Gm
namespace Go.Gm
def En (c : UInt8) : Bool := decide (48 ≤ c.toNat) && decide (c.toNat ≤ 57)
def DN (s : List UInt8) : Nat := (s.takeWhile En).length
theorem PT (s : List UInt8) : DN s ≤ s.length := (List.takeWhile_sublist En).length_le
theorem Mh (c : UInt8) (s : List UInt8) : DN (c :: s) = if En c then DN s + 1 else 0 := by
 unfold DN
 rw [List.takeWhile_cons]
 split <;> simp
theorem byteAt (s : List UInt8) (pos : Nat) (h : pos < s.length) : ((⟨s.toArray⟩ : ByteArray)[pos]'(by show pos < s.toArray.size; simpa using h)) = s[pos] := by
 show s.toArray[pos] = s[pos]
 simp
theorem idx_from (s : List UInt8) : ∀ (f pos : Nat), pos ≤ s.length → s.length - pos ≤ f → Lib.idxFuncFrom IZ true ⟨s.toArray⟩ f pos = if pos + DN (s.drop pos) < s.length then ((pos + DN (s.drop pos) : Nat) : Int) else -1
 | 0, pos, h1, h2 => by
  have : pos = s.length := by omega
  subst this
  rw [Lib.idxFuncFrom, if_neg (by omega)]
 | f + 1, pos, h1, h2 => by
  have hsz : (⟨s.toArray⟩ : ByteArray).size = s.length := by simp [ByteArray.size]
  unfold Lib.idxFuncFrom
  rw [hsz]
  by_cases hp : pos < s.length
  ·rw [if_pos hp, List.drop_eq_getElem_cons hp, Mh]
   have hb := byteAt s pos hp
   by_cases ha : s[pos].toNat < 128
   ·rw [decode_ascii ⟨s.toArray⟩ pos (by omega) (by rw [hb]; exact ha), hb]
    simp only []
    by_cases hd : En s[pos] = true
    ·have hnd : IZ s[pos].toNat = false := by
      simp only [En, Bool.and_eq_true, decide_eq_true_eq] at hd
      simp only [IZ, Bool.or_eq_false_iff, decide_eq_false_iff_not]
      omega
     rw [hnd, if_neg (by simp), if_pos hd, idx_from s f (pos + 1) (by omega) (by omega)]
     rw [show pos + (DN (s.drop (pos + 1)) + 1) = pos + 1 + DN (s.drop (pos + 1)) by omega]
    ·have hnd : IZ s[pos].toNat = true := by
      simp only [En, Bool.and_eq_true, decide_eq_true_eq] at hd
      simp only [IZ, Bool.or_eq_true, decide_eq_true_eq]
      omega
     rw [hnd, if_pos rfl, if_neg hd, if_pos (by omega)]
     rfl
   ·obtain ⟨k1, k2⟩ := decode_high ⟨s.toArray⟩ pos (by omega) (by rw [hb]; omega)
    have hd : ¬ En s[pos] = true := by
     simp only [En, Bool.and_eq_true, decide_eq_true_eq]
     omega
    have hnd : IZ (Utf8.decode ⟨s.toArray⟩ pos).1 = true := by
     simp only [IZ, Bool.or_eq_true, decide_eq_true_eq]
     omega
    rw [hnd, if_pos rfl, if_neg hd, if_pos (by omega)]
    rfl
  ·rw [if_neg hp, if_neg (by omega)]
theorem idx_dig (s : List UInt8) : Lib.idxFunc IZ true ⟨s.toArray⟩ = if DN s < s.length then (DN s : Int) else -1 := by
 have hsz : (⟨s.toArray⟩ : ByteArray).size = s.length := by simp [ByteArray.size]
 have := idx_from s s.length 0 (Nat.zero_le _) (by omega)
 rw [Nat.zero_add, List.drop_zero] at this
 rw [Lib.idxFunc, hsz, this]
def digA (s : List UInt8) (at' : Int) : Nat := if at' < 0 then 0 else DN (s.drop at'.toNat)
theorem q_digits (s : List UInt8) (at' : Int) (H : Aa) (hs : s.length < 1152921504606846976) : Sh.f1z (.str s) (.int .i64 at') H = some (.ret (.int .i64 (digA s at')), H) := by
 unfold Sh.f1z digA
 by_cases h0 : at' < 0
 ·simp only [GMb, GMc, h0, if_true]
  rfl
 ·obtain ⟨a, rfl⟩ : ∃ a : Nat, at' = (a : Int) := ⟨at'.toNat, by omega⟩
  simp only [GMb, GMc, h0, if_false, Cu, Int.toNat_natCast]
  by_cases h1 : a ≤ s.length
  ·have h1' : ¬ ((a : Int) > (s.length : Int)) := by omega
   have hsl : AS (.str s) (some (.int .i64 (a : Int))) none = some (.str (s.drop a)) := by
    simp [AS, Bs, h1]
   have hi : Sh.f1q (.str (s.drop a)) (.fn 120 []) H = some (.ret (.int .i64 (if DN (s.drop a) < (s.drop a).length then (DN (s.drop a) : Int) else -1)), H) := by
    unfold Sh.f1q
    simp only [idx_dig]
   have hle := PT (s.drop a)
   simp only [h1', GMb, GMc, hsl]
   by_cases hd : DN (s.drop a) < (s.drop a).length
   ·have : ¬ ((DN (s.drop a) : Int) < 0) := by omega
    rw [hi, if_pos hd]
    simp only [this, GMb, GMc]
   ·have e : DN (s.drop a) = (s.drop a).length := by omega
    rw [hi, if_neg hd]
    simp only [show ((-1 : Int) < 0) from by decide, GMb, GMc, Cu, ← e]
  ·have h1' : (a : Int) > (s.length : Int) := by omega
   rw [List.drop_eq_nil_of_le (by omega)]
   simp only [h1', GMb, GMc]
   rfl
theorem q03_digits (s : List UInt8) (at' : Int) (H : Aa) (hs : s.length < 1152921504606846976) (hat : -9223372036854775808 ≤ at' ∧ at' ≤ 9223372036854775807) : Sh.f2u (.str s) (.int .i64 at') H = some (.ret (.int .i64 (digA s at')), H) := by
 unfold Sh.f2u digA
 by_cases h0 : at' < 0
 ·rw [Hp L5, if_pos h0]
  unfold Sh.f4p
  have h0' : ¬ at' ≥ 0 := by omega
  simp only [GMb, GMc, Al, h0']
  rfl
 ·obtain ⟨a, rfl⟩ : ∃ a : Nat, at' = (a : Int) := ⟨at'.toNat, by omega⟩
  rw [if_neg h0, Int.toNat_natCast]
  have key := AM (G := fun rec1 vs H1 => Sh.f4p H rec1 (ag vs 0) (ag vs 1) (ag vs 2) (ag vs 3) H1) (σ := Nat) (fun k => k ≤ DN (s.drop a) ∧ DN (s.drop a) = k + DN (s.drop (a + k))) (fun k => [.str s, .int .i64 (a : Int), .int .i64 (k : Int), .int .i64 ((a + k : Nat) : Int)]) (fun _ => H) (fun k => s.length - k)
   (fun _ => some (.ret (.int .i64 (DN (s.drop a) : Int)), H)) (fun k rec hk hrec => ?_) 0 ⟨Nat.zero_le _, by simp⟩ (by omega)
  ·simpa using key
  ·obtain ⟨h1, h2⟩ := hk
   have hle := PT (s.drop a)
   have hge : (a : Int) ≥ 0 := by omega
   unfold Sh.f4p
   by_cases hlt : a + k < s.length
   ·have hlt' : ((a + k : Nat) : Int) < (s.length : Int) := by omega
    rw [List.drop_eq_getElem_cons hlt, Mh] at h2
    have w1 : IntKind.i64.wrap ((k : Int) + 1) = ((k + 1 : Nat) : Int) := by rw [A1] <;> omega
    have w2 : IntKind.i64.wrap (((a + k : Nat) : Int) + 1) = ((a + (k + 1) : Nat) : Int) := by rw [A1] <;> omega
    simp only [GMb, GMc, Al, hge, Cu, hlt', AK hlt]
    by_cases hd : En s[a + k] = true
    ·rw [if_pos hd] at h2
     have hd2 := hd
     simp only [En, Bool.and_eq_true, decide_eq_true_eq] at hd2
     have c1 : ((s[a + k].toNat : Int) ≥ 48) := by omega
     have c2 : ((s[a + k].toNat : Int) ≤ 57) := by omega
     simp only [c1, GMb, GMc, AK hlt, c2, w1, w2]
     exact hrec (k + 1) ⟨by omega, by rw [show a + (k + 1) = a + k + 1 by omega]; omega⟩ (by rw [List.length_drop] at hle; omega)
    ·rw [if_neg hd] at h2
     simp only [En, Bool.and_eq_true, decide_eq_true_eq] at hd
     by_cases c1 : ((s[a + k].toNat : Int) ≥ 48)
     ·have c2 : ¬ ((s[a + k].toNat : Int) ≤ 57) := by omega
      simp only [c1, GMb, GMc, AK hlt, c2]
      rw [h2]; rfl
     ·simp only [c1, GMb, GMc]
      rw [h2]; rfl
   ·have hlt' : ¬ ((a + k : Nat) : Int) < (s.length : Int) := by omega
    rw [List.drop_eq_nil_of_le (by omega : s.length ≤ a + k)] at h2
    simp only [GMb, GMc, Al, hge, Cu, hlt']
    rw [h2]; rfl
end Go.Gm
namespace Go.Gm
def CH (s : List UInt8) : Nat := s.foldl (fun v c => v * 10 + (c.toNat - 48)) 0
theorem Hz (s : List UInt8) (c : UInt8) : CH (s ++ [c]) = CH s * 10 + (c.toNat - 48) := by simp [CH]
theorem R1 {s : List UInt8} (h : DN s = s.length) : ∀ c ∈ s, En c = true := by
 induction s with
 | nil => intro c hc; cases hc
 | cons x s ih =>
  rw [Mh] at h
  by_cases hx : En x = true
  ·rw [if_pos hx, List.length_cons] at h
   intro c hc
   rcases List.mem_cons.1 hc with e | e
   ·rw [e]; exact hx
   ·exact ih (by omega) c e
  ·rw [if_neg hx] at h
   simp at h
theorem DG (c : UInt8) : En c = true ↔ 48 ≤ c.toNat ∧ c.toNat ≤ 57 := by simp [En]
theorem decV_lt {s : List UInt8} (h : ∀ c ∈ s, En c = true) : ∀ i, i ≤ s.length → CH (s.take i) < 10 ^ i
 | 0, _ => by simp [CH]
 | i + 1, hi => by
  have := decV_lt h i (by omega)
  have hc := (DG _).1 (h _ (List.getElem_mem (show i < s.length by omega)))
  rw [List.take_succ_eq_append_getElem (by omega), Hz, Nat.pow_succ]
  omega
def Fc (s : List UInt8) : Bool := match s with
 | c :: _ => c == 45
 | [] => false
def Bh (s : List UInt8) : List UInt8 := if Fc s then s.drop 1 else s
def Gz (s : List UInt8) : Bool := Bh s == [] || decide (DN (Bh s) < (Bh s).length) || ((Bh s)[0]?.getD 0 == 48 && !(s == [48]))
def BX (s : List UInt8) : Int := if Gz s then 2 else if (Bh s).length > 400 then 4 else 0
def BW (s : List UInt8) : Int := if BX s = 0 then (if Fc s then -(CH (Bh s) : Int) else CH (Bh s)) else 0
theorem q_cutprefix (s : List UInt8) (H : Aa) (hs : s.length < 1152921504606846976) : Sh.f1y (.str s) (.str [45]) H = some (.ret (.tup [.str (Bh s), .bool (Fc s)]), H) := by
 have hp : Sh.f1x (.str s) (.str [45]) H = some (.ret (.bool (Fc s)), H) := by
  unfold Sh.f1x
  cases s with
  | nil => simp [Be, Fc]
  | cons c r =>
   have h1 : ((c :: r).length : Int) ≥ (([45] : List UInt8).length : Int) := by simp; omega
   have h2 : AS (.str (c :: r)) none (some (.int .i64 (([45] : List UInt8).length : Int))) = some (.str [c]) := by
    rw [HZ (by simp)]; rfl
   simp only [Cu, GMb, GMc, h1, h2, HL]
   simp [Fc]
 unfold Sh.f1y Sh.f38
 cases hb : Fc s with
 | false => simp only [GMb, GMc, hp, hb, DI, Ff, Bh, Bool.false_eq_true, if_false]
 | true =>
  have h2 : AS (.str s) (some (.int .i64 (([45] : List UInt8).length : Int))) none = some (.str (s.drop 1)) := by
   refine Cz (l := 1) ?_
   cases s with
   | nil => cases hb
   | cons c r => simp
  simp only [GMb, GMc, hp, hb, Cu, h2, DI, Ff, Bh, if_true]
theorem next_dig {B : Aa} {d : List UInt8} {i : Nat} (h : i < d.length) (hd : d[i].toNat < 128) : NB (.ptr B.length 0 0) (B ++ [.iter d i]) = some (.tup [.bool true, .int .i64 (i : Int), .int .i32 (d[i].toNat : Int)], B ++ [.iter d (i + 1)]) := by
 have hb := byteAt d i h
 have hdec := decode_ascii ⟨d.toArray⟩ i (by show i < d.toArray.size; simpa using h) (by rw [hb]; exact hd)
 simp only [NB, List.getElem?_concat_length, h, if_true, hdec, hb, Cd]
theorem next_end {B : Aa} {d : List UInt8} : NB (.ptr B.length 0 0) (B ++ [.iter d d.length]) = some (.tup [.bool false], B ++ [.iter d d.length]) := by
 simp [NB]
theorem Mg {H G : Aa} {zb : List Ab} {neg : Bool} {l : List Nat} {tk : Tok} {e : Int} (hz : zb.length = 2) :
  (bP H (Au (Af 2 (.ptr H.length 0 0) (.agg [.bool neg, .sl (enL cU l) tk]) (H ++ (.cel 0 zb :: G)))) fun _ H40 => (BM [Ad true 2 (.ptr H.length 0 0) H40, some (.int .i64 e)]).bind fun x => rPN H x H40) = some (.ret (.tup [.agg [.bool neg, .sl (enL cU l) .no], .int .i64 e]), H) := by
 have h1 : Af 2 (.ptr H.length 0 0) (.agg [.bool neg, .sl (enL cU l) tk]) (H ++ (.cel 0 zb :: G)) = some (H ++ (.cel 0 [.bool neg, .sl (enL cU l) tk] :: G)) := by
  rw [Fb, LR (vs := [.bool neg, .sl (enL cU l) tk]) rfl hz rfl]
  rfl
 have h2 : Ad true 2 (.ptr H.length 0 0) (H ++ (.cel 0 [.bool neg, .sl (enL cU l) tk] :: G)) = some (.agg [.bool neg, .sl (enL cU l) tk]) := by
  rw [CL]; rfl
 simp only [h1, GMb, GMc, h2, resM_eq, Om, Qu, Option.map_some, DB, Fy, CS, D5, Me, GK, I0, NQ, Rv, Eo]
theorem LM : Ab.agg [.bool false, .sl (enL cU []) .no] = big 0 := by
 rw [Nr, show (0 : Int).natAbs = 0 from rfl, Hs]
 rfl
theorem big_of {neg : Bool} {n : Nat} (h : neg = true → n ≠ 0) : Ab.agg [.bool neg, .sl (enL cU (Ch n)) .no] = big (if neg then -(n : Int) else n) := by
 have h1 := big_sgn neg n
 have h2 : sgn neg n = neg := by
  unfold sgn
  cases neg with
  | false => rfl
  | true => simp [h rfl]
 rw [h2] at h1
 rw [h1]
 rfl
theorem Nq : Ay (some [(.bool false), (.sl [] .tight)]) [] = some (.agg [.bool false, .sl (enL cU []) .tight]) := rfl
theorem build_both {neg : Bool} {es : List (List Ab)} {tk : Tok} : Ay (some [(.bool false), (.sl [] .tight)]) [(0, 1, .bool neg), (1, 1, .sl es tk)] = some (.agg [.bool neg, .sl es tk]) := by simp [Ay, GJ, DR]
theorem syn_dig {s : List UInt8} (h : Gz s = false) : Bh s ≠ [] ∧ DN (Bh s) = (Bh s).length ∧ ((Bh s)[0]?.getD 0 = 48 → s = [48]) := by
 unfold Gz at h
 simp only [Bool.or_eq_false_iff, Bool.and_eq_false_iff, beq_eq_false_iff_ne, decide_eq_false_iff_not, ne_eq, Bool.not_eq_false', beq_iff_eq] at h
 have := PT (Bh s)
 refine ⟨h.1.1, by omega, fun h0 => ?_⟩
 rcases h.2 with h3 | h3
 ·exact absurd h0 h3
 ·exact h3
theorem decV_cons (c : UInt8) (s : List UInt8) : CH (c :: s) = (c.toNat - 48) * 10 ^ s.length + CH s := by
 have key : ∀ (s : List UInt8) (v : Nat), s.foldl (fun v c => v * 10 + (c.toNat - 48)) v = v * 10 ^ s.length + CH s := by
  intro s
  induction s with
  | nil => intro v; simp [CH]
  | cons x s ih =>
   intro v
   rw [List.foldl_cons, ih, List.length_cons, Nat.pow_succ]
   have e : CH (x :: s) = (x.toNat - 48) * 10 ^ s.length + CH s := by
    have := ih (0 * 10 + (x.toNat - 48))
    rw [Nat.zero_mul, Nat.zero_add] at this
    unfold CH
    rw [List.foldl_cons, Nat.zero_mul, Nat.zero_add]
    exact this
   rw [e, Nat.add_mul, Nat.mul_assoc v 10, Nat.mul_comm 10]
   omega
 have := key s (0 * 10 + (c.toNat - 48))
 rw [Nat.zero_mul, Nat.zero_add] at this
 conv => lhs; unfold CH
 rw [List.foldl_cons, Nat.zero_mul, Nat.zero_add]
 exact this
theorem decV_ne {s : List UInt8} (h : Gz s = false) (hn : Fc s = true) : CH (Bh s) ≠ 0 := by
 obtain ⟨h1, h2, h3⟩ := syn_dig h
 cases hd : Bh s with
 | nil => exact absurd hd h1
 | cons c r =>
  rw [decV_cons]
  have hc := R1 h2 c (by rw [hd]; simp)
  rw [DG] at hc
  have h48 : c.toNat ≠ 48 := fun e => by
   have : c = 48 := UInt8.toNat.inj e
   have := h3 (by rw [hd, this]; rfl)
   rw [this] at hn
   cases hn
  have : 1 ≤ 10 ^ r.length := Nat.pow_pos (by omega)
  have : 1 ≤ (c.toNat - 48) * 10 ^ r.length := Nat.mul_pos (by omega) this
  omega
theorem wrap_i32 {n : Int} (h0 : -2147483648 ≤ n) (h : n ≤ 2147483647) : IntKind.i32.wrap n = n := by
 have h1 : IntKind.i32.bits = 32 := rfl
 have h2 : IntKind.i32.signed = true := rfl
 unfold IntKind.wrap
 simp only [h1, h2, Bool.true_and]
 split <;> rename_i hc <;> simp at hc <;> omega
theorem wrap_dig {c : UInt8} (h : En c = true) : IntKind.i32.wrap ((c.toNat : Int) - 48) = ((c.toNat - 48 : Nat) : Int) := by
 rw [DG] at h
 rw [wrap_i32 (by omega) (by omega)]
 omega
theorem Lw {n m : Nat} (h : n < 10 ^ m) (hm : m ≤ 4096) : (Ch n).length ≤ 4096 := Rc (n := n) (Nat.lt_of_lt_of_le (m := 10 ^ m) h (pow10_up (a := m) (b := 4096) hm))
theorem q_parse (s : List UInt8) (H : Aa) (hs : s.length < 1152921504606846976) : Sh.f21 (.str s) H = some (.ret (.tup [big (BW s), .int .i64 (BX s)]), H) := by
 unfold Sh.f21
 have htl : (Bh s).length ≤ s.length := by unfold Bh; split <;> simp
 have hcp := q_cutprefix s (H ++ [Blk.cel 0 [.bool false, .sl [] .tight]]) hs
 have hdg := q_digits (Bh s) 0 (H ++ [Blk.cel 0 [.bool false, .sl [] .tight]]) (by omega)
 have hd0 : (digA (Bh s) 0 : Int) = (DN (Bh s) : Int) := by simp [digA]
 rw [hd0] at hdg
 simp only [alloc_eq (cs := [.bool false, .sl [] .tight]) rfl, B9, hcp, GMb, GMc, DI, Ff, HL]
 have tail : Sh.f53 H (.ptr H.length 0 0) (.str (Bh s)) (.bool (Fc s)) (.bool (Gz s)) (H ++ [Blk.cel 0 [.bool false, .sl [] .tight]]) = some (.ret (.tup [big (BW s), .int .i64 (BX s)]), H) := by
  unfold Sh.f53
  cases hsyn : Gz s with
  | true =>
   have hE : BX s = 2 := by simp [BX, hsyn]
   have hZ : BW s = 0 := by simp [BW, hE]
   rw [hE, hZ, ← LM]
   simp only [GMb, GMc, Nq]
   exact Mg rfl
  | false =>
   obtain ⟨n1, n2, n3⟩ := syn_dig hsyn
   simp only [GMb, GMc, Cu]
   by_cases hl : (Bh s).length > 400
   ·have hl' : ((Bh s).length : Int) > 400 := by omega
    have hE : BX s = 4 := by simp [BX, hsyn, hl]
    have hZ : BW s = 0 := by simp [BW, hE]
    rw [hE, hZ, ← LM]
    simp only [hl', GMb, GMc, Nq]
    exact Mg rfl
   ·have hl' : ¬ ((Bh s).length : Int) > 400 := by omega
    have hE : BX s = 0 := by simp [BX, hsyn, hl]
    have hZ : BW s = (if Fc s then -(CH (Bh s) : Int) else CH (Bh s)) := by simp [BW, hE]
    have hne := decV_ne hsyn
    have hall := R1 n2
    have hlt := decV_lt hall
    rw [hE, hZ, ← big_of (neg := Fc s) hne]
    generalize hd : Bh s = d at *
    simp only [hl', GMb, GMc]
    have hrg : MW (.str d) (H ++ [Blk.cel 0 [.bool false, .sl [] .tight]]) = some (.ptr (H.length + 1) 0 0, H ++ [.cel 0 [.bool false, .sl [] .tight]] ++ [.iter d 0]) := by simp [MW]
    simp only [hrg, GMb, GMc]
    have hBl : (H ++ [Blk.cel 0 [.bool false, .sl [] .tight]]).length = H.length + 1 := by simp
    obtain ⟨tkf, htk⟩ : ∃ tkf : Nat → Tok, tkf = fun i => if i = 0 then .tight else .no := ⟨_, rfl⟩
    have key := Ct (G := fun rec2 vs H1 => Sh.f3p H rec2 (ag vs 0) (ag vs 1) (ag vs 2) (ag vs 3) H1) d.length (fun i => [.ptr H.length 0 0, .bool (Fc s), .sl (enL cU (Ch (CH (d.take i)))) (tkf i), .ptr (H.length + 1) 0 0])
     (fun i => H ++ [.cel 0 [.bool false, .sl [] .tight]] ++ [.iter d i]) (some (.ret (.tup [.agg [.bool (Fc s), .sl (enL cU (Ch (CH d))) .no], .int .i64 0]), H)) (by omega) (fun rec i hi => ?_) (fun rec => ?_)
    ·rw [List.take_zero, show CH [] = 0 from rfl, Hs, htk] at key
     exact key
    ·have hdi := hall _ (List.getElem_mem hi)
     have hdi2 := (DG _).1 hdi
     have hnx := next_dig (B := H ++ [Blk.cel 0 [.bool false, .sl [] .tight]]) hi (by omega)
     rw [hBl] at hnx
     have hw := wrap_dig hdi
     have hcv : AI .u32 (.int .i32 ((d[i].toNat - 48 : Nat) : Int)) = some (.int .u32 ((d[i].toNat - 48 : Nat) : Int)) := by rw [Bj, C9 (by omega) (by omega)]
     have hsh := Lw (hlt i (by omega)) (by omega)
     have hml := fun H => q_mul (l := Ch (CH (d.take i))) (tk := tkf i) (m := 10) (c := d[i].toNat - 48) H (Lz _) (by omega) (by omega) (by omega)
     simp only [Ew, ← Hz, ← List.take_succ_eq_append_getElem hi, show ((10 : Nat) : Int) = 10 from rfl] at hml
     have htk1 : tkf (i + 1) = .no := by rw [htk]; rfl
     unfold Sh.f3p
     simp only [AF, Al, hnx, GMb, GMc, DI, show ∀ (x y z : Ab), Ak 2 (.tup [x, y, z]) = some z from fun _ _ _ => rfl, show ∀ (x y z : Ab), Ak 0 (.tup [x, y, z]) = some x from fun _ _ _ => rfl, hw, hcv, hml, htk1]
    ·have hnx := next_end (B := H ++ [Blk.cel 0 [.bool false, .sl [] .tight]]) (d := d)
     rw [hBl] at hnx
     unfold Sh.f3p
     simp only [AF, Al, hnx, GMb, GMc, show ∀ (x : Ab), Ak 0 (.tup [x]) = some x from fun _ => rfl, build_both, List.take_length]
     rw [List.append_assoc H]
     exact Mg rfl
 by_cases h0 : Bh s = []
 ·have hsyn : Gz s = true := by simp [Gz, h0]
  rw [hsyn] at tail
  simp only [h0, beq_self_eq_true, GMb, GMc, AF, Al] at tail ⊢
  exact tail
 ·have hb : (Bh s == []) = false := by simpa using h0
  simp only [hb, GMb, GMc, hdg, Cu]
  by_cases hlt : DN (Bh s) < (Bh s).length
  ·have hlt' : (DN (Bh s) : Int) < ((Bh s).length : Int) := by omega
   have hsyn : Gz s = true := by simp [Gz, hlt]
   rw [hsyn] at tail
   simp only [hlt', GMb, GMc, AF, Al]
   exact tail
  ·have hlt' : ¬ (DN (Bh s) : Int) < ((Bh s).length : Int) := by omega
   obtain ⟨c, r, hcr⟩ := List.exists_cons_of_ne_nil h0
   have hix : AW (.str (Bh s)) (.int .i64 0) = some (.int .u8 (c.toNat : Int)) := by rw [hcr]; exact Rl
   have hsyn : Gz s = ((c == 48) && !(s == [48])) := by
    simp only [Gz, hb, decide_eq_false hlt, Bool.false_or]
    rw [hcr]
    rfl
   have hcc : decide ((c.toNat : Int) = 48) = (c == 48) := by
    rw [Bool.eq_iff_iff]
    simp only [decide_eq_true_eq, beq_iff_eq]
    constructor
    ·intro h
     exact UInt8.toNat.inj (show c.toNat = (48 : UInt8).toNat from by have : (48 : UInt8).toNat = 48 := rfl; omega)
    ·intro h; rw [h]; rfl
   rw [hsyn] at tail
   simp only [hlt', GMb, GMc, hix, hcc, bin_sneq]
   cases hc48 : (c == 48) with
   | false =>
    rw [hc48, Bool.false_and] at tail
    simp only [GMb, GMc, AF, Al]
    exact tail
   | true =>
    rw [hc48, Bool.true_and] at tail
    simp only [GMb, GMc, AF, Al]
    exact tail
end Go.Gm
namespace Go.Gm
def hv (e : Int × List UInt8) : Ab := Rn e.1 e.2
def N3 (er : Er) (v : Ab) : Res := match er with
 | none => .ret v
 | some e => .pan (hv e)
@[simp] theorem BA (v : Ab) : N3 none v = .ret v := (rfl)
@[simp] theorem B1 (e : Int × List UInt8) (v : Ab) : N3 (some e) v = .pan (hv e) := (rfl)
theorem He (b : List UInt8) (a : Nat) (s : List UInt8) : Pf b a s = hv (CJ b a s) := by
 unfold Pf hv CJ; split <;> rfl
section
variable {H : Aa} {p a : Nat} {b : List UInt8} {r : List Ab}
theorem DT (h : Lx H p b a r) (s : List UInt8) : Sh.f1 (.ptr p 0 0) (.str s) H = some (.pan (hv (CJ b a s)), H) := by
 rw [Mc h, ← He]; rfl
theorem lx_endS (h : Lx H p b a r) (ha : a ≤ b.length) (hb : b.length < 1152921504606846976) (rest : List UInt8) (hr : rest.length ≤ 1000000) :
  Sh.fn (.ptr p 0 0) (.str rest) H = some (N3 (FO b a rest).1 (.tup []), AO H p b r (FO b a rest).2) := by
 rw [lx_end h ha hb rest hr]
 unfold endO FO MD
 by_cases e : a = b.length
 ·have hs := BV h
  rw [e] at hs
  simp only [e, if_true, BA, hs]
 ·simp only [if_neg e]
  cases hs : Aq b (crN b a) [10] with
  | true => simp only [if_true, BA]
  | false => simp only [Bool.false_eq_true, if_false, B1, He]
theorem NG (h : Lx H p b a r) (ha : a ≤ b.length) (hb : b.length < 1152921504606846976) (s rest : List UInt8) (hs : s.length ≤ 1000000) (hr : rest.length ≤ 1000000) :
  Sh.f7 (.ptr p 0 0) (.str s) (.str rest) H = some (N3 (B7 b a s rest).1 (.tup []), AO H p b r (B7 b a s rest).2) := by
 rw [lx_must h ha hb s rest hs hr]
 unfold mustO B7 Fv
 by_cases e : cpN (b.drop a) s < s.length
 ·simp only [if_pos e, B1, He]
 ·simp only [if_neg e, BA]
theorem lx_ruleS (h : Lx H p b a r) (ha : a ≤ b.length) (hb : b.length < 1152921504606846976) (rest : List UInt8) (hr : rest.length ≤ 1000000) :
  Sh.f1h (.ptr p 0 0) (.str rest) H = some (N3 (Ic b a rest).1 (.str ((b.take (Ic b a rest).2).drop a)), AO H p b r (Ic b a rest).2) := by
 rw [lx_rule h ha hb rest hr]
 unfold ruleO Ic
 by_cases e : CF b a 40 a = a
 ·simp only [e, if_true, B1, He]
 ·simp only [if_neg e, BA]
theorem numR_S (b : List UInt8) (f : Nat) (rest : List UInt8) : ∀ n a, Ng b f rest n a = ((E8 b f rest n a).1.map hv, (E8 b f rest n a).2)
 | 0, a => rfl
 | n + 1, a => by
  rw [Ng, E8]
  split
  ·split
   ·rw [He]; rfl
   ·split
    ·rfl
    ·exact numR_S b f rest n (a + 1)
  ·split
   ·rw [He]; rfl
   ·rfl
theorem lx_lt (h : Lx H p b a r) : p < H.length := by
 rcases Nat.lt_or_ge p H.length with h' | h'
 ·exact h'
 ·unfold Lx at h; rw [List.getElem?_eq_none h'] at h; cases h
theorem Ol {G : Aa} {e : Nat} (h : p < H.length) : AO (H ++ G) p b r e = AO H p b r e ++ G := by
 unfold AO; rw [List.set_append_left _ _ h]
theorem lx_num_end (h : Lx H p b a r) {f e : Nat} (hfe : f ≤ e) (he : e ≤ b.length) (hb : b.length < 1152921504606846976) (zb : List Ab) (hz : zb.length = 2) :
  ∃ G, Sh.f39 H (.ptr p 0 0) (.ptr H.length 0 0) (.int .i64 (f : Int)) (AO H p b r e ++ [.cel 0 zb]) = some (.ret (big (BW ((b.take e).drop f))), AO H p b r e ++ G) := by
 have hx := CV (a' := e) h
 have hl := Ge H p e b r
 have hld0 : ∀ G, Ad false 1 (.ptr p 0 0) (AO H p b r e ++ G) = some (.str b) := fun G => RV (Lx.push hx)
 have hld1 : ∀ G, Ad false 1 (.ptr p 0 1) (AO H p b r e ++ G) = some (.int .i64 (e : Int)) := fun G => DE (Lx.push hx)
 unfold Sh.f39
 rw [← hl]
 generalize AO H p b r e = K at *
 have hq := fun H => q_parse ((b.take e).drop f) H (by simp only [List.length_drop, List.length_take]; omega)
 obtain ⟨sg, es, hbig⟩ : ∃ sg es, big (BW ((b.take e).drop f)) = .agg [.bool sg, .sl es .no] := ⟨_, _, Nr _⟩
 rw [hbig] at hq ⊢
 refine ⟨[.cel 0 [.bool sg, .sl es .no], .cel 0 [.bool sg, .sl es .no]], ?_⟩
 simp only [GMb, GMc, HPa, HPc, HPd, HPe, HPz, Nat.reduceAdd, Nat.reduceLT, hld0, hld1, Dn hfe he, hq, hz]
 rfl

end
end Go.Gm
namespace Go.Gm
theorem numS_le (b : List UInt8) (f : Nat) (rest : List UInt8) : ∀ n a, a ≤ b.length → a ≤ (E8 b f rest n a).2 ∧ (E8 b f rest n a).2 ≤ b.length := fun n a h => by
 have := numR_le b f rest n a h
 rw [numR_S] at this; exact this
theorem intF_le {b : List UInt8} {a : Nat} (ha : a ≤ b.length) (neg : Bool) : a ≤ Nk b a neg ∧ Nk b a neg ≤ b.length := by
 unfold Nk
 cases neg with
 | false => exact ⟨Nat.le_refl _, ha⟩
 | true =>
  cases hs : Aq b a [45] with
  | true => have := BU hs; simp; omega
  | false => simpa using ha
theorem intS_le {b : List UInt8} {a : Nat} (ha : a ≤ b.length) (neg : Bool) (rest : List UInt8) : a ≤ (EB b a neg rest).2 ∧ (EB b a neg rest).2 ≤ b.length := by
 unfold EB
 have h1 := intF_le ha neg
 have h2 := numS_le b (Nk b a neg) rest 402 (Nk b a neg) h1.2
 split
 ·rename_i h
  simp only [Bool.and_eq_true] at h
  have := BU h.2
  exact ⟨Nat.le_succ _, by omega⟩
 ·omega
section
variable {H : Aa} {p a : Nat} {b : List UInt8} {r : List Ab}
theorem SA (h : Lx H p b a r) {f : Nat} (haf : a ≤ f) (hf : f ≤ b.length) (hb : b.length < 1152921504606846976) (rest : List UInt8) (hr : rest.length ≤ 1000000) (zb : List Ab) (hz : zb.length = 2) :
  ∃ G, Sh.f3s H (.ptr p 0 0) (.str rest) (.ptr H.length 0 0) (.int .i64 (a : Int)) (AO H p b r f ++ [.cel 0 zb]) = some (N3 (E8 b f rest 402 f).1 (big (BW ((b.take (E8 b f rest 402 f).2).drop a))), AO H p b r (E8 b f rest 402 f).2 ++ G) := by
 have hp := lx_lt h
 have hx : Lx (AO H p b r f ++ [.cel 0 zb]) p b f r := Lx.push (CV h)
 have key := lx_num_loop (H0 := H) hx hf hb rest hr (.ptr H.length 0 0) (.int .i64 (a : Int))
 have hle := numS_le b f rest 402 f hf
 unfold Sh.f3s
 simp only [GMb, GMc, HPa, HPc, HPd, HPe, HPz, Nat.reduceAdd, Nat.reduceLT, DE hx]
 rw [key, numR_S]
 generalize E8 b f rest 402 f = R at *
 obtain ⟨er, e⟩ := R
 have hpp : ∀ G : Aa, AO (AO H p b r f ++ G) p b r e = AO H p b r e ++ G := fun G => by
  rw [Ol (by rw [Ge]; exact hp), LU]
 cases er with
 | some v =>
  refine ⟨[.cel 0 zb], ?_⟩
  show some (Res.pan (hv v), AO _ p b r e) = _
  rw [hpp]; rfl
 | none =>
  obtain ⟨G, hG⟩ := lx_num_end h (f := a) (e := e) (by dsimp only at hle; omega) hle.2 hb zb hz
  refine ⟨G, ?_⟩
  show Sh.f39 H (.ptr p 0 0) (.ptr H.length 0 0) (.int .i64 (a : Int)) (AO _ p b r e) = _
  rw [hpp, hG]; rfl
theorem lx_number (h : Lx H p b a r) (ha : a ≤ b.length) (hb : b.length < 1152921504606846976) (neg : Bool) (rest : List UInt8) (hr : rest.length ≤ 1000000) :
  ∃ G, Sh.f22 (.ptr p 0 0) (.bool neg) (.str rest) H = some (N3 (EB b a neg rest).1 (big (BW ((b.take (EB b a neg rest).2).drop a))), AO H p b r (EB b a neg rest).2 ++ G) := by
 have hx : Lx (H ++ [.cel 0 [.bool false, .sl [] .tight]]) p b a r := Lx.push h
 have hss := BV h
 unfold Sh.f22
 have plain : Nk b a neg = a → EB b a neg rest = E8 b a rest 402 a → ∃ G, Sh.f3s H (.ptr p 0 0) (.str rest) (.ptr H.length 0 0) (.int .i64 (a : Int)) (H ++ [.cel 0 [.bool false, .sl [] .tight]]) = some (N3 (EB b a neg rest).1 (big (BW ((b.take (EB b a neg rest).2).drop a))), AO H p b r (EB b a neg rest).2 ++ G) := by
  intro e1 e2
  have := SA h (Nat.le_refl a) ha hb rest hr [.bool false, .sl [] .tight] rfl
  rw [hss] at this
  rw [e2]; exact this
 cases neg with
 | false =>
  simp only [GMb, GMc, HPa, HPc, HPd, HPe, HPz, Nat.reduceAdd, Nat.reduceLT, DE hx]
  exact plain rfl rfl
 | true =>
  simp only [GMb, GMc, HPa, HPc, HPd, HPe, HPz, Nat.reduceAdd, Nat.reduceLT, DE hx, Cs hx ha]
  cases hs : Aq b a [45] with
  | false =>
   simp only [GMb, GMc, HPa, HPc, HPd, HPe, HPz, Nat.reduceAdd, Nat.reduceLT]
   exact plain (by simp [Nk, hs]) (by simp [EB, Nk, hs])
  | true =>
   have hlt := BU hs
   have hm := Fp (a' := a) hx (a + 1)
   rw [BV hx] at hm
   have hx1 := CV (a' := a + 1) hx
   have hpu := Ol (b := b) (r := r) (G := [.cel 0 [.bool false, .sl [] .tight]]) (e := a + 1) (lx_lt h)
   simp only [GMb, GMc, HPa, HPc, HPd, HPe, HPz, Nat.reduceAdd, Nat.reduceLT, DE hx, Ar (show a < 9223372036854775807 by omega), hm, Cs hx1 (show a + 1 ≤ b.length by omega)]
   have e1 : Nk b a true = a + 1 := by simp [Nk, hs]
   cases h0 : Aq b (a + 1) [48] with
   | true =>
    have e2 : EB b a true rest = (some (CJ b (a + 1) []), a + 1) := by simp [EB, hs, h0]
    rw [e2]
    refine ⟨[.cel 0 [.bool false, .sl [] .tight]], ?_⟩
    simp only [GMb, GMc, HPa, HPc, HPd, HPe, HPz, Nat.reduceAdd, Nat.reduceLT, DT hx1]
    rw [hpu]; rfl
   | false =>
    have e2 : EB b a true rest = E8 b (a + 1) rest 402 (a + 1) := by simp [EB, hs, h0, e1]
    rw [e2]
    have := SA h (f := a + 1) (by omega) hlt hb rest hr [.bool false, .sl [] .tight] rfl
    simp only [GMb, GMc, HPa, HPc, HPd, HPe, HPz, Nat.reduceAdd, Nat.reduceLT]
    rw [hpu]
    exact this

end
end Go.Gm
namespace Go.Gm
end Go.Gm
namespace Go.Gm
def cBO : Option Int → List Ab
 | none => [.bool false, .sl [] .tight]
 | some z => Ef z
instance : Sz cBO 2 := ⟨fun a => by cases a <;> rfl⟩
instance : Pl cBO := ⟨fun a => by cases a <;> rfl⟩
def bo (a : Option Int) : Int := a.getD 0
end Go.Gm
namespace Go.Gm
section
variable {len sz id g o m p : Nat} {K : IntKind} {Hc : Aa} {nf : Nat → Nat}
theorem GG (h : m < len) : AY len sz (.ptr id g o) (.int K (m : Int)) = some (.ptr id g (o + m * sz)) := by
 unfold AY
 simp only []
 rw [if_pos ⟨by omega, by omega⟩]; simp
end
end Go.Gm
namespace Go.Gm
end Go.Gm
namespace Go.Gm
end Go.Gm
namespace Go.Gm
end Go.Gm
namespace Go.Gm
end Go.Gm
namespace Go.Gm
def bx (L : List Nd) (f : List Nd → Int) : Int := if L = [] then 0 else f L
end Go.Gm
namespace Go.Gm
end Go.Gm
namespace Go.Gm
section
variable {α : Type} {f : α → List Ab} {ty : TypeId} {sz : Nat}
def RS (f : α → List Ab) (ty : TypeId) (sz b : Nat) (out : List α) (v : Ab) (H : Aa) : Prop := (out = [] ∧ v = .sl [] .tight) ∨ ∃ t, b ≤ t ∧ v = .sl (enL f out) (.own t) ∧ H[t]? = some (.tok out.length ty sz)
theorem RS.sl {b : Nat} {out : List α} {v : Ab} {H : Aa} (h : RS f ty sz b out v H) : ∃ tk, v = .sl (enL f out) tk := by
 rcases h with ⟨rfl, rfl⟩ | ⟨t, _, rfl, _⟩
 ·exact ⟨_, rfl⟩
 ·exact ⟨_, rfl⟩
theorem RS.left {b : Nat} {out : List α} {v : Ab} {H : Aa} (h : RS f ty sz b out v H) (G : Aa) : RS f ty sz b out v (H ++ G) := by
 rcases h with h1 | ⟨t, h1, h2, h3⟩
 ·exact .inl h1
 ·exact .inr ⟨t, h1, h2, B3 h3⟩
theorem RS.put {b p : Nat} {out : List α} {v : Ab} {H : Aa} {c c' : List Ab} (h : RS f ty sz b out v H) (hp : H[p]? = some (.cel 0 c)) : RS f ty sz b out v (H.set p (.cel 0 c')) := by
 rcases h with h1 | ⟨t, h1, h2, h3⟩
 ·exact .inl h1
 ·refine .inr ⟨t, h1, h2, ?_⟩
  have : p ≠ t := fun e => by rw [← e, hp] at h3; cases h3
  rw [List.getElem?_set_ne this]; exact h3
theorem RS.snoc [hf : Sz f sz] {bytes b : Nat} {out : List α} {v : Ab} {H : Aa} (h : RS f ty sz b out v H) (hb : b ≤ H.length) (x : α) (tk : Tok) (hl : (out.length + 1) * bytes ≤ 140737488355328) (hl2 : out.length + 1 ≤ 140737488355328) :
  ∃ v' H', AA ty sz bytes v (.sl (enL f [x]) tk) H = some (v', H') ∧ RS f ty sz b (out ++ [x]) v' H' ∧ Kp b H H' := by
 rcases h with ⟨rfl, rfl⟩ | ⟨t, h1, rfl, h3⟩
 ·have := CD (f := f) (l := []) (m := [x]) (ty := ty) (bytes := bytes) (tk := tk) (H := H) (by simp) (by simpa using hl) (by simp)
  exact ⟨_, _, this, .inr ⟨H.length, hb, rfl, by simp⟩, Kp.app hb _⟩
 ·have := Eg (f := f) (l := out) (m := [x]) (ty := ty) (bytes := bytes) (tk := tk) (H := H) (t := t) (by simp) h3 (by simpa using hl) (by simpa using hl2)
  have htl := (List.getElem?_eq_some_iff.1 h3).1
  refine ⟨_, _, this, .inr ⟨t, h1, rfl, by simp [htl]⟩, ⟨by simp, fun i cs hc => ?_, fun i hi => ?_⟩⟩
  ·have : t ≠ i := fun e => by rw [← e, h3] at hc; cases hc
   rw [List.getElem?_set_ne this]; exact hc
  ·rw [List.getElem?_set_ne (by omega)]

end
end Go.Gm
namespace Go.Gm
def lnC (q : Nat × Int) : List Ab := [.int .i64 (q.1 : Int), .int .i64 q.2]
instance : Sz lnC 2 := ⟨fun _ => rfl⟩
instance : Pl lnC := ⟨fun _ => rfl⟩
def rdR (bx N : Int) (law : List UInt8) (v w : Ab) : List Ab := [.int .i64 bx, .int .i64 N, .str law, v, w]
structure RDx (b0 p : Nat) (b : List UInt8) (a : Nat) (bx N : Int) (st : MSt) (v w : Ab) (H : Aa) : Prop where
 hb : b0 ≤ p
 lx : Lx H p b a (rdR bx N st.law v w)
 nodes : RS cNd At 5 b0 st.nodes v H
 lines : RS lnC Dl 2 b0 st.lines w H
def RD (b0 p : Nat) (b : List UInt8) (a : Nat) (bx N : Int) (st : MSt) (H : Aa) : Prop := ∃ v w, RDx b0 p b a bx N st v w H
section
variable {b0 p a : Nat} {b : List UInt8} {bx N : Int} {st : MSt} {H : Aa} {v w : Ab}
theorem RDx.lt (h : RDx b0 p b a bx N st v w H) : p < H.length := lx_lt h.lx
theorem RDx.move (h : RDx b0 p b a bx N st v w H) (a' : Nat) : RDx b0 p b a' bx N st v w (AO H p b (rdR bx N st.law v w) a') :=
 ⟨h.hb, CV h.lx, h.nodes.put h.lx, h.lines.put h.lx⟩
theorem RDx.push (h : RDx b0 p b a bx N st v w H) (G : Aa) : RDx b0 p b a bx N st v w (H ++ G) :=
 ⟨h.hb, Lx.push h.lx, h.nodes.left G, h.lines.left G⟩
theorem Ext.setP (h : RDx b0 p b a bx N st v w H) (cs : List Ab) : Ext b0 p H (H.set p (.cel 0 cs)) :=
 ⟨by simp, fun i c hi hc => by rw [List.getElem?_set_ne (Ne.symm hi)]; exact hc, fun i hi => by rw [List.getElem?_set_ne (by have := h.hb; omega)]⟩
theorem Ext.push (b id : Nat) (hb : b ≤ H.length) (G : Aa) : Ext b id H (H ++ G) :=
 ⟨by simp, fun i c hi hc => B3 hc, fun i hi => List.getElem?_append_left (by omega)⟩
theorem RDx.ble (h : RDx b0 p b a bx N st v w H) : b0 ≤ H.length := Nat.le_trans h.hb (Nat.le_of_lt h.lt)
theorem RDx.go (h : RDx b0 p b a bx N st v w H) (a' : Nat) (G : Aa) : RDx b0 p b a' bx N st v w (AO H p b (rdR bx N st.law v w) a' ++ G) ∧ Ext b0 p H (AO H p b (rdR bx N st.law v w) a' ++ G) :=
 ⟨(h.move a').push G, (Ext.setP h _).trans (Ext.push b0 p (by show b0 ≤ List.length _; rw [show (H.set p _).length = H.length from by simp]; exact h.ble) G)⟩
theorem RDx.go0 (h : RDx b0 p b a bx N st v w H) (a' : Nat) : RDx b0 p b a' bx N st v w (AO H p b (rdR bx N st.law v w) a') ∧ Ext b0 p H (AO H p b (rdR bx N st.law v w) a') :=
 ⟨h.move a', Ext.setP h _⟩
def OZ (b0 p : Nat) (b : List UInt8) (bx N : Int) (H : Aa) (x : Out) (v : Ab) (s : (Er × Nat) × MSt) : Prop := ∃ H', x = some (N3 s.1.1 v, H') ∧ Ext b0 p H H' ∧ RD b0 p b s.1.2 bx N s.2 H'
theorem Hn {s rest : List UInt8} (ha : a ≤ b.length) : (B7 b a s rest).2 ≤ b.length := FK ha s
theorem rulS_le {rest : List UInt8} (ha : a ≤ b.length) : a ≤ (Ic b a rest).2 ∧ (Ic b a rest).2 ≤ b.length := ruleN_le 40 a ha
theorem PX (ha : a ≤ b.length) : F6 b a ≤ b.length := by
 unfold F6
 have := (List.takeWhile_sublist (l := b.drop a) fun c => !([13, 10] : List UInt8).contains c).length_le
 rw [List.length_drop] at this
 omega
theorem rd_mark (h : RD b0 p b a bx N st H) (ha : a < b.length) (hb : b.length < 1152921504606846976) : OZ b0 p b bx N H (Sh.f24 (.ptr p 0 0) H) (.tup []) (NF b a st) := by
 obtain ⟨v, w, h⟩ := h
 have hm := Fp (a' := a) h.lx (a + 1)
 rw [BV h.lx] at hm
 have h1 := (h.go0 (a + 1)).1
 have e1 := (h.go0 (a + 1)).2
 have hle : a + 1 ≤ b.length := by omega
 unfold OZ Sh.f24 NF
 simp only [GMb, GMc, HPa, HPc, HPd, HPe, HPz, Nat.reduceAdd, Nat.reduceLT, DE h.lx, Ar (show a < 9223372036854775807 by omega), hm]
 generalize AO H p b (rdR bx N st.law v w) (a + 1) = H1 at h1 e1
 simp only [Cs h1.lx hle]
 cases hC : Aq b (a + 1) [67] with
 | true =>
  simp only [GMb, GMc, HPa, HPc, HPd, HPe, HPz, Nat.reduceAdd, Nat.reduceLT, lx_any h1.lx hle hb, if_true]
  exact ⟨_, rfl, e1.trans (h1.go0 _).2, _, _, (h1.go0 _).1⟩
 | false =>
  simp only [GMb, GMc, HPa, HPc, HPd, HPe, HPz, Nat.reduceAdd, Nat.reduceLT, Cs h1.lx hle, Bool.false_eq_true, if_false]
  cases hG : Aq b (a + 1) [71] with
  | true =>
   simp only [GMb, GMc, HPa, HPc, HPd, HPe, HPz, Nat.reduceAdd, Nat.reduceLT, NG h1.lx hle hb [71, 32] [49] (by decide) (by decide), if_true]
   have hM := Hn (s := [71, 32]) (rest := [49]) hle
   generalize B7 b (a + 1) [71, 32] [49] = M at hM
   obtain ⟨er, c⟩ := M
   dsimp only at hM ⊢
   obtain ⟨h2, e2⟩ := h1.go0 c
   cases er with
   | some e =>
    simp only [GMb, GMc, HPa, HPc, HPd, HPe, HPz, Nat.reduceAdd, Nat.reduceLT, B1]
    exact ⟨_, rfl, e1.trans e2, _, _, h2⟩
   | none =>
    obtain ⟨G, hn⟩ := lx_number h2.lx hM hb false [] (by decide)
    obtain ⟨h3, e3⟩ := h2.go (EB b c false []).2 G
    simp only [GMb, GMc, HPa, HPc, HPd, HPe, HPz, Nat.reduceAdd, Nat.reduceLT, BA, hn]
    generalize AO _ p b _ (EB b c false []).2 ++ G = H3 at h3 e3
    refine ⟨H3, ?_, (e1.trans e2).trans e3, _, _, h3⟩
    cases (EB b c false []).1 <;> simp only [GMb, GMc, HPa, HPc, HPd, HPe, HPz, Nat.reduceAdd, Nat.reduceLT, BA, B1]
  | false =>
   simp only [GMb, GMc, HPa, HPc, HPd, HPe, HPz, Nat.reduceAdd, Nat.reduceLT, Cs h1.lx hle, Bool.false_eq_true, if_false]
   cases hR : Aq b (a + 1) [82] with
   | true =>
    simp only [GMb, GMc, HPa, HPc, HPd, HPe, HPz, Nat.reduceAdd, Nat.reduceLT, NG h1.lx hle hb [82, 32] [97] (by decide) (by decide), if_true]
    have hM := Hn (s := [82, 32]) (rest := [97]) hle
    generalize B7 b (a + 1) [82, 32] [97] = M at hM
    obtain ⟨er, c⟩ := M
    dsimp only at hM ⊢
    obtain ⟨h2, e2⟩ := h1.go0 c
    cases er with
    | some e =>
     simp only [GMb, GMc, HPa, HPc, HPd, HPe, HPz, Nat.reduceAdd, Nat.reduceLT, B1]
     exact ⟨_, rfl, e1.trans e2, _, _, h2⟩
    | none =>
     simp only [GMb, GMc, HPa, HPc, HPd, HPe, HPz, Nat.reduceAdd, Nat.reduceLT, BA, lx_ruleS h2.lx hM hb [] (by decide)]
     generalize Ic b c [] = M
     obtain ⟨er, d⟩ := M
     dsimp only
     obtain ⟨h3, e3⟩ := h2.go0 d
     generalize AO _ p b _ d = H3 at h3 e3
     cases er with
     | some e =>
      simp only [GMb, GMc, HPa, HPc, HPd, HPe, HPz, Nat.reduceAdd, Nat.reduceLT, B1]
      exact ⟨_, rfl, (e1.trans e2).trans e3, _, _, h3⟩
     | none =>
      have hst := Gd (o := 4) (v := .str ((b.take d).drop c)) h3.lx rfl (by simp [rdR])
      simp only [GMb, GMc, HPa, HPc, HPd, HPe, HPz, Nat.reduceAdd, Nat.reduceLT, BA, hst]
      refine ⟨_, rfl, ((e1.trans e2).trans e3).trans (Ext.setP h3 _), v, w, h3.hb, ?_, h3.nodes.put h3.lx, h3.lines.put h3.lx⟩
      unfold Lx
      rw [List.getElem?_set_self h3.lt]; rfl
   | false =>
    simp only [GMb, GMc, HPa, HPc, HPd, HPe, HPz, Nat.reduceAdd, Nat.reduceLT, DT h1.lx, Bool.false_eq_true, if_false]
    exact ⟨_, rfl, e1, _, _, h1⟩

end
end Go.Gm
namespace Go.Gm
section
variable {α β : Type} {f : α → List Ab} {g : β → List Ab} {ty ty2 : TypeId} {sz sz2 : Nat}
structure EQ (v v' : Ab) (H H' : Aa) : Prop where
 len : H.length ≤ H'.length
 keep : ∀ i, i < H.length → (∀ es, v ≠ .sl es (.own i)) → H'[i]? = H[i]?
 own : ∀ i es, v' = .sl es (.own i) → H.length ≤ i ∨ ∃ es', v = .sl es' (.own i)
theorem RS.snoc2 [hf : Sz f sz] {bytes b : Nat} {out : List α} {v : Ab} {H : Aa} (h : RS f ty sz b out v H) (hb : b ≤ H.length) (x : α) (tk : Tok) (hl : (out.length + 1) * bytes ≤ 140737488355328) (hl2 : out.length + 1 ≤ 140737488355328) :
  ∃ v' H', AA ty sz bytes v (.sl (enL f [x]) tk) H = some (v', H') ∧ RS f ty sz b (out ++ [x]) v' H' ∧ Kp b H H' ∧ EQ v v' H H' := by
 rcases h with ⟨rfl, rfl⟩ | ⟨t, h1, rfl, h3⟩
 ·have := CD (f := f) (l := []) (m := [x]) (ty := ty) (bytes := bytes) (tk := tk) (H := H) (by simp) (by simpa using hl) (by simp)
  refine ⟨_, _, this, .inr ⟨H.length, hb, rfl, by simp⟩, Kp.app hb _, by simp, fun i hi _ => List.getElem?_append_left hi, fun i es e => ?_⟩
  injection e with _ e; injection e with e
  exact .inl (by omega)
 ·have := Eg (f := f) (l := out) (m := [x]) (ty := ty) (bytes := bytes) (tk := tk) (H := H) (t := t) (by simp) h3 (by simpa using hl) (by simpa using hl2)
  have htl := (List.getElem?_eq_some_iff.1 h3).1
  refine ⟨_, _, this, .inr ⟨t, h1, rfl, by simp [htl]⟩, ⟨by simp, fun i cs hc => ?_, fun i hi => ?_⟩, by simp, fun i hi hne => ?_, fun i es e => ?_⟩
  ·have : t ≠ i := fun e => by rw [← e, h3] at hc; cases hc
   rw [List.getElem?_set_ne this]; exact hc
  ·rw [List.getElem?_set_ne (by omega)]
  ·have : t ≠ i := fun e => hne _ (by rw [e])
   rw [List.getElem?_set_ne this]
  ·injection e with _ e; injection e with e
   exact .inr ⟨_, by rw [e]⟩
theorem RS.stay {b : Nat} {out : List α} {v w w' : Ab} {H H' : Aa} (h : RS f ty sz b out v H) (hg : EQ w w' H H') (hne : ∀ i es es', v = .sl es (.own i) → w ≠ .sl es' (.own i)) : RS f ty sz b out v H' := by
 rcases h with h1 | ⟨t, h1, h2, h3⟩
 ·exact .inl h1
 ·have htl := (List.getElem?_eq_some_iff.1 h3).1
  exact .inr ⟨t, h1, h2, by rw [hg.keep t htl fun es => hne t _ es h2]; exact h3⟩
theorem RS.apart {b b2 : Nat} {out : List α} {out2 : List β} {v w : Ab} {H : Aa} (h : RS f ty sz b out v H) (h2 : RS g ty2 sz2 b2 out2 w H) (hne : (ty, sz) ≠ (ty2, sz2)) : ∀ i es es', v = .sl es (.own i) → w ≠ .sl es' (.own i) := by
 intro i es es' e1 e2
 rcases h with ⟨_, k1⟩ | ⟨t, _, k1, k2⟩
 ·rw [k1] at e1; injection e1 with _ e1; cases e1
 ·rcases h2 with ⟨_, l1⟩ | ⟨t2, _, l1, l2⟩
  ·rw [l1] at e2; injection e2 with _ e2; cases e2
  ·rw [k1] at e1; injection e1 with _ e1; injection e1 with e1
   rw [l1] at e2; injection e2 with _ e2; injection e2 with e2
   rw [e1] at k2; rw [e2, k2] at l2
   injection l2 with l2; injection l2 with _ l3 l4
   exact hne (by rw [l3, l4])
theorem RS.notok {b i : Nat} {out : List α} {v : Ab} {H : Aa} {B : Blk} (h : RS f ty sz b out v H) (hB : H[i]? = some B) (hn : ∀ n e s, B ≠ .tok n e s) : ∀ es, v ≠ .sl es (.own i) := by
 intro es e
 rcases h with ⟨_, k1⟩ | ⟨t, _, k1, k2⟩
 ·rw [k1] at e; injection e with _ e; cases e
 ·rw [k1] at e; injection e with _ e; injection e with e
  rw [e, hB] at k2; injection k2 with k2
  exact hn _ _ _ k2
theorem RS.setB {b i : Nat} {out : List α} {v : Ab} {H : Aa} {B B' : Blk} (h : RS f ty sz b out v H) (hB : H[i]? = some B) (hn : ∀ n e s, B ≠ .tok n e s) : RS f ty sz b out v (H.set i B') := by
 have hne := h.notok hB hn
 rcases h with h1 | ⟨t, h1, h2, h3⟩
 ·exact .inl h1
 ·refine .inr ⟨t, h1, h2, ?_⟩
  have : i ≠ t := fun e => hne _ (by rw [h2, e])
  rw [List.getElem?_set_ne this]; exact h3
theorem RS.one {b : Nat} {out : List α} {v : Ab} {H : Aa} (h : RS f ty sz b out v H) : v.isScal = true := by
 obtain ⟨tk, rfl⟩ := h.sl; rfl
theorem RS.len {b : Nat} {out : List α} {v : Ab} {H : Aa} (h : RS f ty sz b out v H) : AH v = some (.int .i64 (out.length : Int)) := by
 obtain ⟨tk, rfl⟩ := h.sl; exact A5
theorem RS.idx [hf : Sz f sz] {b i : Nat} {out : List α} {v : Ab} {H : Aa} (h : RS f ty sz b out v H) (hi : i < out.length) (K : IntKind) : A6 sz v (.int K (i : Int)) = some (.cptr (f out[i]) 0) := by
 obtain ⟨tk, rfl⟩ := h.sl; exact A2 hi

end
end Go.Gm
namespace Go.Gm
theorem cNd_len (x : Nd) : (cNd x).length = 5 := (rfl)
theorem shl_one {v : Nat} (h : v < 60) : Ae .none .shl (.int .i64 1) (.int .i64 (v : Int)) = some (.int .i64 ((2 ^ v : Nat) : Int)) := by
 have hm : min ((v : Int)).toNat IntKind.i64.bits = v := by simp [IntKind.bits]; omega
 have hp : 2 ^ v < 1152921504606846976 := Nat.lt_of_lt_of_le (Nat.pow_lt_pow_right (by decide) h) (by decide)
 have hn : ¬ (v : Int) < 0 := by omega
 unfold Ae
 simp only [CC, if_true, KD, if_neg hn, hm]
 have : (1 * 2 ^ v : Int) = ((2 ^ v : Nat) : Int) := by simp
 rw [this]
 generalize 2 ^ v = m at *
 rw [Cj (by omega)]
section
variable {b0 p a : Nat} {b : List UInt8} {bx N : Int} {st : MSt} {H : Aa}
def RDw (b0 p : Nat) (b : List UInt8) (a : Nat) (bx N : Int) (st : MSt) (w : Ab) (H : Aa) : Prop := ∃ v, RDx b0 p b a bx N st v w H
def MSt.put (st : MSt) (x : Nd) : MSt := { st with nodes := st.nodes ++ [x] }
theorem rd_put {w : Ab} (h : RDw b0 p b a bx N st w H) (x : Nd) (hn : st.nodes.length < 3000000000000) :
  ∃ H', Sh.fo (.ptr p 0 0) (.agg (cNd x)) H = some (.ret (.int .i64 ((st.nodes.length + 1 : Nat) : Int)), H') ∧ Ext b0 p H H' ∧ RDw b0 p b a bx N (st.put x) w H' := by
 obtain ⟨v, h⟩ := h
 have hB : b0 ≤ (H ++ [Blk.cel 0 (cNd x)]).length := by have := h.ble; simp; omega
 have h1 := h.push [.cel 0 (cNd x)]
 obtain ⟨v', H', ha, hr, hk, hg⟩ := RS.snoc2 (bytes := 40) h1.nodes hB x .tight (by omega) (by omega)
 have hc' := hk.cel _ _ h1.lx
 have hst := Gd (o := 5) (v := v') hc' hr.one (by simp [rdR])
 have hlt' : p < H'.length := (List.getElem?_eq_some_iff.1 hc').1
 have e1 : Ext b0 p H (H ++ [.cel 0 (cNd x)]) := Ext.push b0 p h.ble _
 have e2 : Ext b0 p (H ++ [.cel 0 (cNd x)]) H' := ⟨hk.len, fun i cs _ hc => hk.cel i cs hc, hk.old⟩
 have e3 : ∀ cs, Ext b0 p H' (H'.set p (.cel 0 cs)) := fun cs => ⟨by simp, fun i c hi hc => by rw [List.getElem?_set_ne (Ne.symm hi)]; exact hc, fun i hi => by rw [List.getElem?_set_ne (by have := h.hb; omega)]⟩
 have hset : ∀ cs : List Ab, (H'.set p (.cel 0 cs))[p]? = some (.cel 0 cs) := fun cs => by rw [List.getElem?_set_self hlt']
 unfold Sh.fo
 rw [DK (sz := 5) By rfl]
 simp only [GMb, GMc, HPa, HPc, HPd, HPe, HPz, Nat.reduceAdd, Nat.reduceLT, Bf h1.lx, rdR, cNd_len, EN, ha, hst, Bf (hset _), hr.len]
 refine ⟨_, by rw [List.length_append]; rfl, (e1.trans e2).trans (e3 _), v', h.hb, ?_, hr.put hc', (h1.lines.stay hg (RS.apart h1.lines h1.nodes (by decide))).put hc'⟩
 unfold Lx
 rw [hset]; rfl
def OnC (q : Nat) (on : List Bool) (H : Aa) : Prop := H[q]? = some (.cel 0 (flat cB on))
theorem onC_load {q : Nat} {on : List Bool} (h : OnC q on H) (hl : on.length = 64) {x y : Nat} (hx : x < 8) (hy : y < 8) : Ad false 1 (.ptr q 0 (y * 8 + x * 1)) H = some (.bool (onQ on x y)) := by
 have hi : y * 8 + x < on.length := by omega
 rw [show y * 8 + x * 1 = y * 8 + x by omega, G9 (f := cB) (Bc h) hi]
 unfold onQ
 rw [List.getD_eq_getElem?_getD, List.getElem?_eq_getElem hi]; rfl
theorem LS {on : Nat → Nat → Bool} {rec : Nat → Nat → List Nd → List Nd} {m : Nat} (hr : ∀ x y l, (rec x y l).length ≤ l.length + m) (level x y half : Nat) : ∀ k l, (sqK on rec level x y half k l).1.length ≤ l.length + k * m
 | 0, l => by simp [sqK]
 | k + 1, l => by
  have ih := LS (on := on) hr level x y half k l
  unfold sqK
  simp only
  split
  ·rw [Nat.succ_mul]; dsimp only; omega
  ·have := hr (x + k % 2 * half) (y + k / 2 * half) (sqK on rec level x y half k l).1
   rw [Nat.succ_mul]; dsimp only; omega
def sqM : Nat → Nat
 | 0 => 0
 | v + 1 => 4 * sqM v + 1
theorem LT (on : Nat → Nat → Bool) : ∀ v x y l, (sqF on v x y l).length ≤ l.length + sqM v
 | 0, x, y, l => by simp [sqF, sqM]
 | v + 1, x, y, l => by
  have := LS (on := on) (LT on v) (v + 1) x y (2 ^ v) 4 l
  unfold sqF sqM
  simp only [List.length_append, List.length_singleton]
  omega
theorem rd_square {w : Ab} {q : Nat} {on : List Bool} (hl : on.length = 64) (hq : q ≠ p) : ∀ (v d x y : Nat) (st : MSt) (H : Aa), v ≤ 3 → v < d → x + 2 ^ v ≤ 8 → y + 2 ^ v ≤ 8 → 0 < v → st.nodes.length + sqM v < 3000000000000 → RDw b0 p b a bx N st w H → OnC q on H →
  ∃ H', Sh.ff d (.ptr p 0 0) (.ptr q 0 0) (.int .i64 (v : Int)) (.int .i64 (x : Int)) (.int .i64 (y : Int)) H = some (.ret (.int .i64 ((sqF (onQ on) v x y st.nodes).length : Int)), H') ∧ Ext b0 p H H' ∧ RDw b0 p b a bx N { st with nodes := sqF (onQ on) v x y st.nodes } w H' := by
 intro v
 induction v with
 | zero => intro d x y st H _ _ _ _ h0; omega
 | succ v ih =>
  intro d x y st H hv hd hx hy _ hn h hon
  obtain ⟨d, rfl⟩ : ∃ e, d = e + 1 := ⟨d - 1, by omega⟩
  have hble : b0 ≤ H.length := by obtain ⟨_, h⟩ := h; exact h.ble
  have hlt : p < H.length := by obtain ⟨_, h⟩ := h; exact h.lt
  have hw1 : IntKind.i64.wrap (((v + 1 : Nat) : Int) - 1) = (v : Int) := by rw [A1] <;> omega
  have hbd : Ay (some [(.int .i64 0), (.int .i64 0), (.int .i64 0), (.int .i64 0), (.int .i64 0)]) [(0, 1, .int .i64 ((v + 1 : Nat) : Int))] = some (.agg (cNd ⟨((v + 1 : Nat) : Int), 0, 0, 0, 0⟩)) := rfl
  have hhalf : 2 ^ v ≤ 4 := by
   have : v = 0 ∨ v = 1 ∨ v = 2 := by omega
   rcases this with h | h | h <;> subst h <;> decide
  have h2v : 2 ^ (v + 1) = 2 * 2 ^ v := by rw [Nat.pow_succ]; omega
  have hpos : 0 < 2 ^ v := Nat.pow_pos (by decide)
  show ∃ H', Sh.f56 (Sh.ff d) _ _ _ _ _ _ = _ ∧ _
  unfold Sh.f56
  simp only [GMb, GMc, hw1, shl_one (show v < 60 by omega), hbd, F7, Ej (AG (B := H) (cs := cNd nd0)) rfl, Cd]
  have hsl : ∀ k, k ≤ 4 → (sqK (onQ on) (sqF (onQ on) v) (v + 1) x y (2 ^ v) k st.nodes).1.length ≤ st.nodes.length + 4 * sqM v := fun k hk => by
   have := LS (on := onQ on) (LT (onQ on) v) (v + 1) x y (2 ^ v) k st.nodes
   have : k * sqM v ≤ 4 * sqM v := Nat.mul_le_mul_right _ hk
   omega
  have hsm : sqM (v + 1) = 4 * sqM v + 1 := rfl
  have hsk : ∀ k, k < 4 → (sqK (onQ on) (sqF (onQ on) v) (v + 1) x y (2 ^ v) k st.nodes).1.length ≤ st.nodes.length + 3 * sqM v := fun k hk => by
   have := LS (on := onQ on) (LT (onQ on) v) (v + 1) x y (2 ^ v) k st.nodes
   have : k * sqM v ≤ 3 * sqM v := Nat.mul_le_mul_right _ (by omega)
   omega
  generalize hhf : 2 ^ v = half at *
  have loop := Hq (G := fun rec1 vs H1 => Sh.f25 H (Sh.ff d) rec1 (ag vs 0) (ag vs 1) (ag vs 2) (ag vs 3) (ag vs 4) (ag vs 5) (ag vs 6) (ag vs 7) H1) 4
   (fun k vs Hc => vs = [.ptr p 0 0, .ptr q 0 0, .int .i64 ((v + 1 : Nat) : Int), .int .i64 (x : Int), .int .i64 (y : Int), .int .i64 (half : Int), .ptr H.length 0 0, .int .i64 (k : Int)] ∧ Ext b0 p H Hc ∧
    RDw b0 p b a bx N { st with nodes := (sqK (onQ on) (sqF (onQ on) v) (v + 1) x y half k st.nodes).1 } w Hc ∧ Hc[H.length]? = some (.cel 0 (cNd (sqK (onQ on) (sqF (onQ on) v) (v + 1) x y half k st.nodes).2)))
   (by decide) (fun k vs Hc hk hI => ?_) (vs := [.ptr p 0 0, .ptr q 0 0, .int .i64 ((v + 1 : Nat) : Int), .int .i64 (x : Int), .int .i64 (y : Int), .int .i64 (half : Int), .ptr H.length 0 0, .int .i64 0]) (H := H ++ [.cel 0 (cNd ⟨((v + 1 : Nat) : Int), 0, 0, 0, 0⟩)])
   ⟨rfl, Ext.push b0 p hble _, by obtain ⟨v', h⟩ := h; exact ⟨v', h.push _⟩, by simp [sqK]⟩
  ·obtain ⟨vs', Hc, ⟨rfl, hE, hR, hcell⟩, rec, hloop⟩ := loop
   rw [hloop]
   unfold Sh.f25
   obtain ⟨H', hp1, hp2, hp3⟩ := rd_put hR (sqK (onQ on) (sqF (onQ on) v) (v + 1) x y half 4 st.nodes).2 (by have := hsl 4 (by omega); dsimp only; omega)
   simp only [GMb, GMc, Al, show ¬ (((4 : Nat) : Int) < 4) from by decide, D3 hcell, hp1]
   have hfin : sqF (onQ on) (v + 1) x y st.nodes = (sqK (onQ on) (sqF (onQ on) v) (v + 1) x y half 4 st.nodes).1 ++ [(sqK (onQ on) (sqF (onQ on) v) (v + 1) x y half 4 st.nodes).2] := by
    unfold sqF; rw [hhf]
   rw [hfin]
   exact ⟨H', by rw [List.length_append]; rfl, hE.trans hp2, hp3⟩
  ·obtain ⟨rfl, hE, hR, hcell⟩ := hI
   have hk' : (k : Int) < 4 := by omega
   have hk2 : k % 2 ≤ 1 := by omega
   have hk3 : k / 2 ≤ 1 := by omega
   have m1 : k % 2 * half ≤ half := by rcases Nat.le_one_iff_eq_zero_or_eq_one.1 hk2 with h | h <;> rw [h] <;> omega
   have m2 : k / 2 * half ≤ half := by rcases Nat.le_one_iff_eq_zero_or_eq_one.1 hk3 with h | h <;> rw [h] <;> omega
   have hr2 : Ae .none .rem (.int .i64 (k : Int)) (.int .i64 2) = some (.int .i64 ((k % 2 : Nat) : Int)) := by rw [FT (by decide)]; rfl
   have hq2 : Ae .none .quo (.int .i64 (k : Int)) (.int .i64 2) = some (.int .i64 ((k / 2 : Nat) : Int)) := by
    rw [GM (by decide), show ((k : Int).tdiv 2) = ((k / 2 : Nat) : Int) from rfl, Cj (by omega)]
   have hm1 : IntKind.i64.wrap (((k % 2 : Nat) : Int) * (half : Int)) = ((k % 2 * half : Nat) : Int) := by rw [← Int.natCast_mul, Cj (by omega)]
   have hm2 : IntKind.i64.wrap (((k / 2 : Nat) : Int) * (half : Int)) = ((k / 2 * half : Nat) : Int) := by rw [← Int.natCast_mul, Cj (by omega)]
   have ha1 : IntKind.i64.wrap ((x : Int) + ((k % 2 * half : Nat) : Int)) = ((x + k % 2 * half : Nat) : Int) := Ei (by omega)
   have ha2 : IntKind.i64.wrap ((y : Int) + ((k / 2 * half : Nat) : Int)) = ((y + k / 2 * half : Nat) : Int) := Ei (by omega)
   have hws := Ar (show k < 9223372036854775807 by omega)
   have hon' : OnC q on Hc := hE.cel q _ hq hon
   have hHl : H.length ≠ p := by omega
   generalize hX : x + k % 2 * half = X at *
   generalize hY : y + k / 2 * half = Y at *
   have hl1 := hsl (k + 1) (by omega)
   have hl0 := hsk k (by omega)
   by_cases hv0 : v = 0
   ·have hgt : ¬ (((v + 1 : Nat) : Int) > 1) := by omega
    have hh1 : half = 1 := by rw [← hhf, hv0]
    have hX8 : X < 8 := by omega
    have hY8 : Y < 8 := by omega
    have hstep : sqK (onQ on) (sqF (onQ on) v) (v + 1) x y half (k + 1) st.nodes = ((sqK (onQ on) (sqF (onQ on) v) (v + 1) x y half k st.nodes).1, (sqK (onQ on) (sqF (onQ on) v) (v + 1) x y half k st.nodes).2.setKid k (if onQ on X Y then 1 else 0)) := by
     conv => lhs; unfold sqK
     simp only [hX, hY]
     rw [if_pos (show v + 1 ≤ 1 by omega)]
    have hkid0 : (sqK (onQ on) (sqF (onQ on) v) (v + 1) x y half k st.nodes).2.setKid k 0 = (sqK (onQ on) (sqF (onQ on) v) (v + 1) x y half k st.nodes).2 := by
     have : ∀ j, (sqK (onQ on) (sqF (onQ on) v) (v + 1) x y half j st.nodes).2.kid k = 0 ∨ k < j := by
      intro j
      induction j with
      | zero => left; match k, hk with
       | 0, _ => rfl
       | 1, _ => rfl
       | 2, _ => rfl
       | 3, _ => rfl
      | succ j ihj =>
       by_cases hkj : k < j + 1
       ·exact .inr hkj
       ·left
        rcases ihj with h | h
        ·unfold sqK
         simp only
         by_cases hj4 : j < 4
         ·split <;> (rw [Ez _ _ hj4 hk (by omega)]; exact h)
         ·omega
        ·omega
     have h0 := (this k).resolve_right (by omega)
     generalize (sqK (onQ on) (sqF (onQ on) v) (v + 1) x y half k st.nodes).2 = z at h0
     obtain ⟨z0, z1, z2, z3, z4⟩ := z
     match k, hk, h0 with
     | 0, _, h0 => simp only [Nd.kid] at h0; simp [Nd.setKid, h0]
     | 1, _, h0 => simp only [Nd.kid] at h0; simp [Nd.setKid, h0]
     | 2, _, h0 => simp only [Nd.kid] at h0; simp [Nd.setKid, h0]
     | 3, _, h0 => simp only [Nd.kid] at h0; simp [Nd.setKid, h0]
    have hi1 := GG (sz := 8) (K := .i64) (id := q) (g := 0) (o := 0) hY8
    have hi2 := GG (sz := 1) (K := .i64) (id := q) (g := 0) (o := Y * 8) hX8
    have hld := onC_load hon' hl hX8 hY8
    rw [hstep]
    cases hb1 : onQ on X Y with
    | true =>
     rw [hb1] at hld
     refine ⟨[.ptr p 0 0, .ptr q 0 0, .int .i64 ((v + 1 : Nat) : Int), .int .i64 (x : Int), .int .i64 (y : Int), .int .i64 (half : Int), .ptr H.length 0 0, .int .i64 ((k + 1 : Nat) : Int)], Hc.set H.length (.cel 0 (cNd ((sqK (onQ on) (sqF (onQ on) v) (v + 1) x y half k st.nodes).2.setKid k 1))), ⟨rfl, ⟨by have := hE.len; simpa using this, fun i cs hi hc => ?_, fun i hi => ?_⟩, ?_, ?_⟩, fun rec => ?_⟩
     ·rw [List.getElem?_set_ne (by have := (List.getElem?_eq_some_iff.1 hc).1; omega)]; exact hE.cel i cs hi hc
     ·rw [List.getElem?_set_ne (by omega)]; exact hE.old i hi
     ·obtain ⟨v', hR⟩ := hR
      refine ⟨v', hR.hb, ?_, hR.nodes.put hcell, hR.lines.put hcell⟩
      unfold Lx; rw [List.getElem?_set_ne hHl]; exact hR.lx
     ·rw [List.getElem?_set_self (List.getElem?_eq_some_iff.1 hcell).1]; rfl
     ·unfold Sh.f25
      simp only [GMb, GMc, Al, hk', hr2, hm1, ha1, hq2, hm2, ha2, hgt, Ag, hi1, hi2, hld, Ai, Nat.zero_add, C0 hk, Cg hcell hk, hws]
    | false =>
     rw [hb1] at hld
     simp only [Bool.false_eq_true, if_false, hkid0]
     refine ⟨[.ptr p 0 0, .ptr q 0 0, .int .i64 ((v + 1 : Nat) : Int), .int .i64 (x : Int), .int .i64 (y : Int), .int .i64 (half : Int), .ptr H.length 0 0, .int .i64 ((k + 1 : Nat) : Int)], Hc, ⟨rfl, hE, hR, hcell⟩, fun rec => ?_⟩
     unfold Sh.f25
     simp only [GMb, GMc, Al, hk', hr2, hm1, ha1, hq2, hm2, ha2, hgt, Ag, hi1, hi2, hld, hws, Nat.zero_add]
   ·have hgt : (((v + 1 : Nat) : Int) > 1) := by omega
    have hstep : sqK (onQ on) (sqF (onQ on) v) (v + 1) x y half (k + 1) st.nodes = (sqF (onQ on) v X Y (sqK (onQ on) (sqF (onQ on) v) (v + 1) x y half k st.nodes).1, (sqK (onQ on) (sqF (onQ on) v) (v + 1) x y half k st.nodes).2.setKid k ((sqF (onQ on) v X Y (sqK (onQ on) (sqF (onQ on) v) (v + 1) x y half k st.nodes).1).length : Int)) := by
     conv => lhs; unfold sqK
     simp only [hX, hY]
     rw [if_neg (show ¬ v + 1 ≤ 1 by omega)]
    rw [hstep]
    obtain ⟨H1, i1, i2, i3⟩ := ih d X Y _ Hc (by omega) (by omega) (by omega) (by omega) (by omega) (by dsimp only; omega) hR hon'
    dsimp only at i1 i3
    have hcell1 := i2.cel _ _ hHl hcell
    refine ⟨[.ptr p 0 0, .ptr q 0 0, .int .i64 ((v + 1 : Nat) : Int), .int .i64 (x : Int), .int .i64 (y : Int), .int .i64 (half : Int), .ptr H.length 0 0, .int .i64 ((k + 1 : Nat) : Int)], H1.set H.length (.cel 0 (cNd ((sqK (onQ on) (sqF (onQ on) v) (v + 1) x y half k st.nodes).2.setKid k ((sqF (onQ on) v X Y (sqK (onQ on) (sqF (onQ on) v) (v + 1) x y half k st.nodes).1).length : Int)))), ⟨rfl, ⟨?_, fun i cs hi hc => ?_, fun i hi => ?_⟩, ?_, ?_⟩, fun rec => ?_⟩
    ·have := hE.len; have := i2.len; simp; omega
    ·rw [List.getElem?_set_ne (by have := (List.getElem?_eq_some_iff.1 hc).1; omega)]; exact i2.cel i cs hi (hE.cel i cs hi hc)
    ·rw [List.getElem?_set_ne (by omega), i2.old i hi]; exact hE.old i hi
    ·obtain ⟨v', hR⟩ := i3
     refine ⟨v', hR.hb, ?_, hR.nodes.put hcell1, hR.lines.put hcell1⟩
     unfold Lx; rw [List.getElem?_set_ne hHl]; exact hR.lx
    ·rw [List.getElem?_set_self (List.getElem?_eq_some_iff.1 hcell1).1]
    ·unfold Sh.f25
     simp only [GMb, GMc, Al, hk', hr2, hm1, ha1, hq2, hm2, ha2, hgt, hw1, i1, Ai, Nat.zero_add, C0 hk, Cg hcell1 hk, hws]

end
end Go.Gm
namespace Go.Gm
theorem flat_cB (on : List Bool) : flat cB on = on.map Ab.bool := by
 induction on with
 | nil => rfl
 | cons c l ih => rw [Cx, ih]; rfl
theorem flat_cB_set (on : List Bool) (i : Nat) (t : Bool) : (flat cB on).set i (.bool t) = flat cB (on.set i t) := by
 rw [flat_cB, flat_cB, List.map_set]
theorem lx_moveG {H G : Aa} {p a a' : Nat} {b : List UInt8} {r : List Ab} (h : Lx H p b a r) (n : Nat) : Af 1 (.ptr p 0 1) (.int .i64 (n : Int)) (AO H p b r a' ++ G) = some (AO H p b r n ++ G) := by
 have hp := lx_lt h
 rw [lx_step (Lx.push (CV (a' := a') h))]
 congr 1
 rw [List.set_append_left _ _ (by rw [Ge]; exact hp)]
 congr 1
 exact LU H p a' n b r r
theorem Gj (b : List UInt8) : ∀ n a x y on, a ≤ b.length → a ≤ (CR b n a x y on).2.1 ∧ (CR b n a x y on).2.1 ≤ b.length ∧ (CR b n a x y on).2.2.length = on.length
 | 0, a, x, y, on, h => ⟨Nat.le_refl _, h, rfl⟩
 | n + 1, a, x, y, on, h => by
  unfold CR
  cases hs : Aq b a [46, 42, 36] with
  | false => exact ⟨Nat.le_refl _, h, rfl⟩
  | true =>
   simp only [if_true]
   split
   ·exact ⟨Nat.le_refl _, h, rfl⟩
   ·split
    ·have := Gj b n (a + 1) 0 (y + 1) on (BU hs); omega
    ·have := Gj b n (a + 1) (x + 1) y (on.set (y * 8 + x) (Aq b a [42])) (BU hs)
     rw [List.length_set] at this; omega
section
variable {b0 p a : Nat} {b : List UInt8} {bx N : Int} {st : MSt} {H : Aa}
noncomputable def Rd (H0 : Aa) (r_4 on_5 : Ab) (H12 : Aa) : Out :=
 AQ (Sh.ff AC r_4 on_5 (.int .i64 3) (.int .i64 0) (.int .i64 0) H12) fun x60 H61 =>
 (Ag r_4).bind fun x62 =>
 (Ac 6 x62).bind fun x63 =>
 bC (Ad false 1 x63 H61) (fun x64 => Ad false 1 x63 H12 = some x64 ∧ True) fun x64 =>
 (Ay (some [(.int .i64 0), (.int .i64 0)]) [(0, 1, x60), (1, 1, (.int .i64 3))]).bind fun x65 =>
 (A9 2 [x65]).bind fun x66 =>
 AQ (B4 (AA Dl 2 16 x64 x66 H61)) fun x67 H68 =>
 (Ag r_4).bind fun x69 =>
 (Ac 6 x69).bind fun x70 =>
 bK H0 (Au (Af 1 x70 x67 H68)) fun _ H72 =>
 rK H0 (.tup []) H72
theorem leaf_loop {r : List Ab} (h : Lx H p b a r) (ha : a ≤ b.length) (hb : b.length < 1152921504606846976) :
  Ao (fun rec1 vs H1 => Sh.f3u H rec1 (ag vs 0) (ag vs 1) (ag vs 2) (ag vs 3) H1) AC [.ptr p 0 0, .ptr H.length 0 0, .int .i64 0, .int .i64 0] (H ++ [.cel 0 (flat cB (List.replicate 64 false))]) =
   match CR b (b.length + 1 - a) a 0 0 (List.replicate 64 false) with
   | (some e, c, on) => some (.pan (hv e), AO H p b r c ++ [.cel 0 (flat cB on)])
   | (none, c, on) => Rd H (.ptr p 0 0) (.ptr H.length 0 0) (AO H p b r c ++ [.cel 0 (flat cB on)]) := by
 have key := AM (G := fun rec1 vs H1 => Sh.f3u H rec1 (ag vs 0) (ag vs 1) (ag vs 2) (ag vs 3) H1) (σ := Nat × Nat × Nat × List Bool) (fun s => s.1 ≤ b.length ∧ s.2.1 ≤ 8 ∧ s.2.2.1 ≤ 8 ∧ s.2.2.2.length = 64)
  (fun s => [.ptr p 0 0, .ptr H.length 0 0, .int .i64 (s.2.1 : Int), .int .i64 (s.2.2.1 : Int)]) (fun s => AO H p b r s.1 ++ [.cel 0 (flat cB s.2.2.2)]) (fun s => b.length - s.1)
  (fun s => match CR b (b.length + 1 - s.1) s.1 s.2.1 s.2.2.1 s.2.2.2 with
   | (some e, c, on) => some (.pan (hv e), AO H p b r c ++ [.cel 0 (flat cB on)])
   | (none, c, on) => Rd H (.ptr p 0 0) (.ptr H.length 0 0) (AO H p b r c ++ [.cel 0 (flat cB on)])) (fun s rec hi hrec => ?_) (a, 0, 0, List.replicate 64 false) ⟨ha, by simp, by simp, by simp⟩ (by dsimp only; omega)
 ·rw [BV h] at key; exact key
 ·obtain ⟨i, x, y, on⟩ := s
  obtain ⟨h1, h2, h3, h4⟩ := hi
  dsimp only at h1 h2 h3 h4 hrec ⊢
  have hx : Lx (AO H p b r i ++ [.cel 0 (flat cB on)]) p b i r := Lx.push (CV h)
  rw [show b.length + 1 - i = (b.length - i) + 1 by omega]
  unfold Sh.f3u
  simp only [GMb, GMc, HPa, HPc, HPd, HPe, HPz, Nat.reduceAdd, Nat.reduceLT, Al, Cs hx h1]
  unfold CR
  cases hs : Aq b i [46, 42, 36] with
  | false =>
   unfold Rd
   simp only [GMb, GMc, HPa, HPc, HPd, HPe, HPz, Nat.reduceAdd, Nat.reduceLT, Bool.false_eq_true, if_false]
  | true =>
   have hlt := BU hs
   simp only [GMb, GMc, HPa, HPc, HPd, HPe, HPz, Nat.reduceAdd, Nat.reduceLT, Cs hx h1, if_true]
   have hy8 : decide ((y : Int) = 8) = decide (y = 8) := by rw [Bool.eq_iff_iff]; simp only [decide_eq_true_eq]; omega
   have hx8 : decide ((x : Int) = 8) = decide (x = 8) := by rw [Bool.eq_iff_iff]; simp only [decide_eq_true_eq]; omega
   rw [hy8]
   have go : ¬ (y = 8 ∨ (x = 8 ∧ ¬ Aq b i [36] = true)) → Sh.f57 H (fun vs H1 => Sh.f3t H rec (ag vs 0) (ag vs 1) (ag vs 2) (ag vs 3) H1) (.ptr p 0 0) (.ptr H.length 0 0) (.int .i64 (x : Int)) (.int .i64 (y : Int)) (.bool (Aq b i [36])) (AO H p b r i ++ [.cel 0 (flat cB on)]) =
     match (if Aq b i [36] then CR b (b.length - i) (i + 1) 0 (y + 1) on else CR b (b.length - i) (i + 1) (x + 1) y (on.set (y * 8 + x) (Aq b i [42]))) with
     | (some e, c, on) => some (.pan (hv e), AO H p b r c ++ [.cel 0 (flat cB on)])
     | (none, c, on) => Rd H (.ptr p 0 0) (.ptr H.length 0 0) (AO H p b r c ++ [.cel 0 (flat cB on)]) := by
    intro hn
    unfold Sh.f57
    cases hd : Aq b i [36] with
    | true =>
     have hyl : y < 8 := by omega
     have := hrec (i + 1, 0, y + 1, on) ⟨hlt, by simp, hyl, h4⟩ (by dsimp only; omega)
     dsimp only at this
     rw [show b.length + 1 - (i + 1) = b.length - i by omega] at this
     simp only [GMb, GMc, HPa, HPc, HPd, HPe, HPz, Nat.reduceAdd, Nat.reduceLT, Ar (show y < 9223372036854775807 by omega), if_true]
     unfold Sh.f3t
     simp only [GMb, GMc, HPa, HPc, HPd, HPe, HPz, Nat.reduceAdd, Nat.reduceLT, DE hx, Ar (show i < 9223372036854775807 by omega), lx_moveG h]
     exact this
    | false =>
     have hyl : y < 8 := by omega
     have hxl : x < 8 := by
      rcases Nat.lt_or_ge x 8 with h | h
      ·exact h
      ·exact absurd (.inr ⟨by omega, by rw [hd]; decide⟩) hn
     have hi1 := GG (sz := 8) (K := .i64) (id := H.length) (g := 0) (o := 0) hyl
     have hi2 := GG (sz := 1) (K := .i64) (id := H.length) (g := 0) (o := y * 8) hxl
     rw [Nat.zero_add] at hi1
     rw [Nat.mul_one] at hi2
     have hst : ∀ t, Af 1 (.ptr H.length 0 (y * 8 + x)) (.bool t) (AO H p b r i ++ [.cel 0 (flat cB on)]) = some (AO H p b r i ++ [.cel 0 (flat cB (on.set (y * 8 + x) t))]) := fun t => by
      rw [← Ge H p i b r, Fb, Hb rfl (by rw [flat_cB, List.length_map]; omega), flat_cB_set]; rfl
     have hx2 : Lx (AO H p b r i ++ [.cel 0 (flat cB (on.set (y * 8 + x) (Aq b i [42])))]) p b i r := Lx.push (CV h)
     have := hrec (i + 1, x + 1, y, on.set (y * 8 + x) (Aq b i [42])) ⟨hlt, hxl, h3, by rw [List.length_set]; exact h4⟩ (by dsimp only; omega)
     dsimp only at this
     rw [show b.length + 1 - (i + 1) = b.length - i by omega] at this
     simp only [GMb, GMc, HPa, HPc, HPd, HPe, HPz, Nat.reduceAdd, Nat.reduceLT, Cs hx h1, hi1, hi2, hst, Ar (show x < 9223372036854775807 by omega), Bool.false_eq_true, if_false]
     unfold Sh.f3t
     simp only [GMb, GMc, HPa, HPc, HPd, HPe, HPz, Nat.reduceAdd, Nat.reduceLT, DE hx2, Ar (show i < 9223372036854775807 by omega), lx_moveG h]
     exact this
   by_cases hy : y = 8
   ·simp only [hy, GMb, GMc, HPa, HPc, HPd, HPe, HPz, Nat.reduceAdd, Nat.reduceLT, hx8, DT hx, true_or, if_true]
   ·by_cases hxx : x = 8
    ·cases hd : Aq b i [36] with
     | false =>
      have hx8' : decide ((x : Int) = 8) = true := by rw [hx8, hxx]; rfl
      rw [if_pos (.inr ⟨hxx, by decide⟩)]
      simp only [hy, hx8', GMb, GMc, HPa, HPc, HPd, HPe, HPz, Nat.reduceAdd, Nat.reduceLT, DT hx]
     | true =>
      have := go (by rw [hd]; simp [hy])
      rw [hd] at this
      simp only [hy, hx8, hxx, GMb, GMc, HPa, HPc, HPd, HPe, HPz, Nat.reduceAdd, Nat.reduceLT, false_or, not_true_eq_false, if_false] at this ⊢
      exact this
    ·have := go (by simp [hy, hxx])
     simp only [hy, hx8, hxx, GMb, GMc, HPa, HPc, HPd, HPe, HPz, Nat.reduceAdd, Nat.reduceLT, false_or, false_and, if_false] at this ⊢
     exact this
theorem build_ln (n : Nat) (v : Int) : Ay (some [(.int .i64 0), (.int .i64 0)]) [(0, 1, .int .i64 (n : Int)), (1, 1, .int .i64 v)] = some (.agg (lnC (n, v))) := (rfl)
theorem Th (q : Nat × Int) : A9 2 [.agg (lnC q)] = some (.sl (enL lnC [q]) .tight) := by
 simp [A9, Ck, Ab.acells]; simp [lnC, MC, Bx, enL, Ab.isScal]
theorem Ext.ble {b id : Nat} {H H' : Aa} (h : Ext b id H H') (hb : b ≤ H.length) : b ≤ H'.length := Nat.le_trans hb h.len
theorem rd_line {v w : Ab} (h : RDx b0 p b a bx N st v w H) (q : Nat × Int) (hn : st.lines.length < 3000000000000) :
  ∃ w' H', AA Dl 2 16 w (.sl (enL lnC [q]) .tight) H = some (w', H') ∧ Af 1 (.ptr p 0 6) w' H' = some (H'.set p (.cel 0 (.str b :: .int .i64 (a : Int) :: rdR bx N st.law v w'))) ∧
   Ext b0 p H (H'.set p (.cel 0 (.str b :: .int .i64 (a : Int) :: rdR bx N st.law v w'))) ∧ RD b0 p b a bx N { st with lines := st.lines ++ [q] } (H'.set p (.cel 0 (.str b :: .int .i64 (a : Int) :: rdR bx N st.law v w'))) := by
 obtain ⟨w', H', ha, hr, hk, hg⟩ := RS.snoc2 (bytes := 16) h.lines h.ble q .tight (by omega) (by omega)
 have hc' := hk.cel _ _ h.lx
 have hlt' : p < H'.length := (List.getElem?_eq_some_iff.1 hc').1
 have hst := Gd (o := 6) (v := w') hc' hr.one (by simp [rdR])
 have e2 : Ext b0 p H H' := ⟨hk.len, fun i cs _ hc => hk.cel i cs hc, hk.old⟩
 have e3 : ∀ cs, Ext b0 p H' (H'.set p (.cel 0 cs)) := fun cs => ⟨by simp, fun i c hi hc => by rw [List.getElem?_set_ne (Ne.symm hi)]; exact hc, fun i hi => by rw [List.getElem?_set_ne (by have := h.hb; omega)]⟩
 refine ⟨w', H', ha, hst, e2.trans (e3 _), v, w', h.hb, ?_, (h.nodes.stay hg (RS.apart h.nodes h.lines (by decide))).put hc', hr.put hc'⟩
 unfold Lx; rw [List.getElem?_set_self hlt']
theorem rd_leaf (h : RD b0 p b a bx N st H) (ha : a ≤ b.length) (hb : b.length < 1152921504606846976) (hn : st.nodes.length + 100 < 3000000000000) (hn2 : st.lines.length < 3000000000000) : OZ b0 p b bx N H (Sh.f26 (.ptr p 0 0) H) (.tup []) (NJ b a st) := by
 obtain ⟨v, w, h⟩ := h
 have hal : ∀ K : Aa, A3 (some [(.bool false), (.bool false), (.bool false), (.bool false), (.bool false), (.bool false), (.bool false), (.bool false), (.bool false), (.bool false), (.bool false), (.bool false), (.bool false), (.bool false), (.bool false), (.bool false), (.bool false), (.bool false), (.bool false), (.bool false), (.bool false), (.bool false), (.bool false), (.bool false), (.bool false), (.bool false), (.bool false), (.bool false), (.bool false), (.bool false), (.bool false), (.bool false), (.bool false), (.bool false), (.bool false), (.bool false), (.bool false), (.bool false), (.bool false), (.bool false), (.bool false), (.bool false), (.bool false), (.bool false), (.bool false), (.bool false), (.bool false), (.bool false), (.bool false), (.bool false), (.bool false), (.bool false), (.bool false), (.bool false), (.bool false), (.bool false), (.bool false), (.bool false), (.bool false), (.bool false), (.bool false), (.bool false), (.bool false), (.bool false)]) K = some (.ptr K.length 0 0, K ++ [.cel 0 (flat cB (List.replicate 64 false))]) := fun K => by
  rw [alloc_eq rfl]; rfl
 unfold Sh.f26 OZ NJ
 rw [hal]
 simp only [GMb, GMc]
 rw [leaf_loop h.lx ha hb]
 have hle := Gj b (b.length + 1 - a) a 0 0 (List.replicate 64 false) ha
 generalize CR b (b.length + 1 - a) a 0 0 (List.replicate 64 false) = R at hle
 obtain ⟨er, c, on⟩ := R
 dsimp only at hle ⊢
 obtain ⟨h1, e1⟩ := h.go c [.cel 0 (flat cB on)]
 cases er with
 | some e => exact ⟨_, rfl, e1, _, _, h1⟩
 | none =>
  have hon : OnC H.length on (AO H p b (rdR bx N st.law v w) c ++ [.cel 0 (flat cB on)]) := by
   unfold OnC
   rw [← Ge H p c b (rdR bx N st.law v w)]; exact AG
  have hld1 := Bf (o := 6) (sz := 1) h1.lx
  dsimp only
  generalize AO H p b (rdR bx N st.law v w) c ++ [.cel 0 (flat cB on)] = H1 at h1 e1 hon hld1 ⊢
  obtain ⟨H2, s1, s2, v2, s3⟩ := rd_square (w := w) (on := on) (q := H.length) (by rw [hle.2.2]; simp) (by have := h.lt; omega) 3 AC 0 0 st H1 (by omega) (by rw [Dk]; decide) (by decide) (by decide) (by decide) (by have : sqM 3 = 21 := rfl; omega) ⟨v, h1⟩ hon
  have hld2 := Bf (o := 6) (sz := 1) s3.lx
  obtain ⟨w3, H3, t1, t2, t3, t4⟩ := rd_line s3 ((sqF (onQ on) 3 0 0 st.nodes).length, 3) hn2
  unfold Rd
  rw [show (((3 : Nat) : Int)) = 3 from rfl, show (((0 : Nat) : Int)) = 0 from rfl] at s1
  simp only [GMb, GMc, HPa, HPc, HPd, HPe, HPz, Nat.reduceAdd, Nat.reduceLT, s1, hld1, hld2, rdR, build_ln, Th, t1, t2]
  exact ⟨_, rfl, (e1.trans s2).trans t3, t4⟩

end
end Go.Gm
namespace Go.Gm
theorem Hy {b : List UInt8} {i : Nat} (h : Aq b i BI = true) : ∃ hl : i < b.length, 48 ≤ b[i].toNat ∧ b[i].toNat ≤ 57 ∧ Co b i = b[i].toNat - 48 := by
 have hl := BU h
 unfold Aq at h
 rw [List.getElem?_eq_getElem hl] at h
 unfold BI at h
 simp only [digs_mem, decide_eq_true_eq] at h
 refine ⟨hl, h.1, h.2, ?_⟩
 unfold Co
 rw [List.getD_eq_getElem?_getD, List.getElem?_eq_getElem hl]; rfl
theorem PR {b : List UInt8} {i : Nat} (h : Aq b i BI = true) : Co b i ≤ 9 := by
 obtain ⟨hl, h1, h2, h3⟩ := Hy h; omega
theorem dig_bin {b : List UInt8} {i : Nat} (h : Aq b i BI = true) (hl : i < b.length) : IntKind.u8.wrap ((b[i].toNat : Int) - 48) = (Co b i : Int) ∧ IntKind.i64.wrap (Co b i : Int) = (Co b i : Int) := by
 obtain ⟨_, h1, h2, h3⟩ := Hy h
 rw [h3]
 refine ⟨?_, by rw [Cj (by omega)]⟩
 rw [PK (by omega) (by omega)]; omega
theorem NH (b : List UInt8) : ∀ k a n, a ≤ b.length → a ≤ (Ht b k a n).2.1 ∧ (Ht b k a n).2.1 ≤ b.length
 | 0, a, n, h => ⟨Nat.le_refl _, h⟩
 | k + 1, a, n, h => by
  unfold Ht
  cases hs : Aq b a BI with
  | true =>
   simp only [if_true]
   split
   ·exact ⟨Nat.le_refl _, h⟩
   ·have := NH b k (a + 1) (10 * n + Co b a) (BU hs); omega
  | false =>
   simp only [Bool.false_eq_true, if_false]
   split <;> exact ⟨Nat.le_refl _, h⟩
theorem levF_ok (b : List UInt8) : ∀ k a n, n ≤ 1329 → a ≤ b.length → b.length < a + k → (Ht b k a n).1 = none → 0 < (Ht b k a n).2.2 ∧ (Ht b k a n).2.2 ≤ 1329
 | 0, a, n, h, ha, hk, _ => by omega
 | k + 1, a, n, h, ha, hk, he => by
  unfold Ht at he ⊢
  cases hs : Aq b a BI with
  | true =>
   rw [hs] at he
   simp only [if_true] at he ⊢
   split
   ·rename_i hgt; rw [if_pos hgt] at he; cases he
   ·rename_i hgt; rw [if_neg hgt] at he
    exact levF_ok b k (a + 1) _ (by omega) (BU hs) (by omega) he
  | false =>
   rw [hs] at he
   simp only [Bool.false_eq_true, if_false] at he ⊢
   split
   ·rename_i h0; rw [if_pos h0] at he; cases he
   ·rename_i h0; exact ⟨by dsimp only; omega, h⟩
section
variable {b0 p a : Nat} {b : List UInt8} {bx N : Int} {st : MSt} {H : Aa} {r : List Ab}
theorem lx_level (h : Lx H p b a r) (ha : a ≤ b.length) (hb : b.length < 1152921504606846976) :
  Sh.f27 (.ptr p 0 0) H = some (N3 (BK b a).1 (.int .i64 ((BK b a).2.2 : Int)), AO H p b r (BK b a).2.1) := by
 have hss := BV h
 unfold Sh.f27 BK
 simp only [GMb, GMc, HPa, HPc, HPd, HPe, HPz, Nat.reduceAdd, Nat.reduceLT, Cs h ha]
 cases h0 : Aq b a [48] with
 | true =>
  simp only [GMb, GMc, HPa, HPc, HPd, HPe, HPz, Nat.reduceAdd, Nat.reduceLT, DT h, if_true, B1, hss]
 | false =>
  simp only [GMb, GMc, HPa, HPc, HPd, HPe, HPz, Nat.reduceAdd, Nat.reduceLT, Bool.false_eq_true, if_false]
  unfold Sh.f67
  have key := AM (G := fun rec2 vs H1 => Sh.f58 H rec2 (ag vs 0) (ag vs 1) H1) (σ := Nat × Nat) (fun s => s.1 ≤ b.length ∧ s.2 ≤ 1329) (fun s => [.ptr p 0 0, .int .i64 (s.2 : Int)]) (fun s => AO H p b r s.1) (fun s => b.length - s.1)
   (fun s => some (N3 (Ht b (b.length + 1 - s.1) s.1 s.2).1 (.int .i64 ((Ht b (b.length + 1 - s.1) s.1 s.2).2.2 : Int)), AO H p b r (Ht b (b.length + 1 - s.1) s.1 s.2).2.1)) (fun s rec hi hrec => ?_) (a, 0) ⟨ha, by simp⟩ (by dsimp only; omega)
  ·rw [hss] at key; exact key
  ·obtain ⟨i, n⟩ := s
   obtain ⟨h1, h2⟩ := hi
   dsimp only at h1 h2 hrec ⊢
   have hx := CV (a' := i) h
   have hsd := Cs hx h1 BI
   unfold BI at hsd
   rw [show b.length + 1 - i = (b.length - i) + 1 by omega]
   have hds : Aq b i [48, 49, 50, 51, 52, 53, 54, 55, 56, 57] = Aq b i BI := rfl
   rw [hds] at hsd
   unfold Sh.f58
   simp only [GMb, GMc, HPa, HPc, HPd, HPe, HPz, Nat.reduceAdd, Nat.reduceLT, hsd]
   unfold Ht
   cases hs : Aq b i BI with
   | true =>
    obtain ⟨hlt, d1, d2, d3⟩ := Hy hs
    obtain ⟨w1, w2⟩ := dig_bin hs hlt
    have hd9 := PR hs
    have w3 : IntKind.i64.wrap (10 * (n : Int)) = ((10 * n : Nat) : Int) := by rw [show (10 * (n : Int)) = ((10 * n : Nat) : Int) by omega, Cj (by omega)]
    have w4 : IntKind.i64.wrap (((10 * n : Nat) : Int) + (Co b i : Int)) = ((10 * n + Co b i : Nat) : Int) := Ei (by omega)
    simp only [GMb, GMc, HPa, HPc, HPd, HPe, HPz, Nat.reduceAdd, Nat.reduceLT, DE hx, RV hx, AK hlt, w1, Bj, w2, w3, w4, if_true]
    by_cases hgt : 1329 < 10 * n + Co b i
    ·have hgt' : ((10 * n + Co b i : Nat) : Int) > 1329 := by omega
     simp only [hgt', GMb, GMc, HPa, HPc, HPd, HPe, HPz, Nat.reduceAdd, Nat.reduceLT, lx_limit, if_pos hgt, B1]
     rfl
    ·have hgt' : ¬ ((10 * n + Co b i : Nat) : Int) > 1329 := by omega
     have := hrec (i + 1, 10 * n + Co b i) ⟨hlt, by dsimp only; omega⟩ (by dsimp only; omega)
     dsimp only at this
     rw [show b.length + 1 - (i + 1) = b.length - i by omega] at this
     unfold Sh.f66
     simp only [hgt', GMb, GMc, HPa, HPc, HPd, HPe, HPz, Nat.reduceAdd, Nat.reduceLT, if_neg hgt, DE hx, Ar (show i < 9223372036854775807 by omega), Fp h]
     exact this
   | false =>
    by_cases hn : n = 0
    ·have hn' : ((0 : Nat) : Int) = 0 := rfl
     simp only [hn, hn', GMb, GMc, HPa, HPc, HPd, HPe, HPz, Nat.reduceAdd, Nat.reduceLT, DT hx, Bool.false_eq_true, if_false, if_true, B1]
    ·have hn' : ¬ (n : Int) = 0 := by omega
     simp only [hn', hn, GMb, GMc, HPa, HPc, HPd, HPe, HPz, Nat.reduceAdd, Nat.reduceLT, Bool.false_eq_true, if_false, BA]
theorem rd_may {v w : Ab} (h : RDx b0 p b a bx N st v w H) {level : Int} (h1 : 1 ≤ level) (h2 : level ≤ 1329) (n : Nat) (hn : n < 4000000000000000000) : Sh.fg (.ptr p 0 0) (.int .i64 level) (.int .i64 (n : Int)) H = some (.ret (.bool (CK st.lines level n)), H) := by
 have hld := Bf (o := 6) (sz := 1) h.lx
 have w1 : IntKind.i64.wrap (level - 1) = level - 1 := by rw [A1] <;> omega
 unfold Sh.fg CK
 by_cases hl : level = 1
 ·have : decide ((n : Int) ≤ 255) = decide (n ≤ 255) := by rw [Bool.eq_iff_iff]; simp only [decide_eq_true_eq]; omega
  simp only [hl, GMb, GMc, HPa, HPc, HPd, HPe, HPz, Nat.reduceAdd, Nat.reduceLT, this, if_true]
 ·simp only [hl, GMb, GMc, HPa, HPc, HPd, HPe, HPz, Nat.reduceAdd, Nat.reduceLT, if_false]
  by_cases h0 : n = 0
  ·have h0' : ((0 : Nat) : Int) = 0 := rfl
   simp only [h0, h0', GMb, GMc, HPa, HPc, HPd, HPe, HPz, Nat.reduceAdd, Nat.reduceLT, if_true]
  ·have h0' : ¬ (n : Int) = 0 := by omega
   simp only [h0', h0, GMb, GMc, HPa, HPc, HPd, HPe, HPz, Nat.reduceAdd, Nat.reduceLT, if_false, hld, rdR, h.lines.len]
   by_cases hle : n ≤ st.lines.length
   ·have hle' : (n : Int) ≤ (st.lines.length : Int) := by omega
    have hlt : n - 1 < st.lines.length := by omega
    have w2 : IntKind.i64.wrap ((n : Int) - 1) = ((n - 1 : Nat) : Int) := C7 (by omega) (by omega)
    simp only [hle', GMb, GMc, HPa, HPc, HPd, HPe, HPz, Nat.reduceAdd, Nat.reduceLT, hld, rdR, w1, w2, h.lines.idx hlt, Am, Aw, lnC, List.getElem?_eq_getElem hlt]
   ·have hle' : ¬ (n : Int) ≤ (st.lines.length : Int) := by omega
    simp only [hle', GMb, GMc, HPa, HPc, HPd, HPe, HPz, Nat.reduceAdd, Nat.reduceLT, List.getElem?_eq_none (show st.lines.length ≤ n - 1 by omega)]
theorem Ov (lines : List (Nat × Int)) (level : Int) : CK lines level 0 = true := by
 unfold CK; split <;> simp
theorem QV (lines : List (Nat × Int)) (level : Int) : ∀ (f f' low high : Nat), 1 ≤ low → lines.length + 1 - low ≤ f → lines.length + 1 - low ≤ f' → Gi lines level f low high = Gi lines level f' low high := by
 intro f
 induction f with
 | zero =>
  intro f' low high h1 h2 h3
  cases f' with
  | zero => rfl
  | succ f' => unfold Gi; rw [if_neg (by omega)]
 | succ f ih =>
  intro f' low high h1 h2 h3
  cases f' with
  | zero => unfold Gi; rw [if_neg (by omega)]
  | succ f' =>
   unfold Gi
   rw [ih f' (low * 10) (high * 10 + 9) (by omega) (by omega) (by omega)]
theorem S2 {v w : Ab} (h : RDx b0 p b a bx N st v w H) {level : Int} (h1 : 1 ≤ level) (h2 : level ≤ 1329) (n : Nat) (hn : n < 40000000000000) (hll : st.lines.length < 3000000000000) :
  Sh.f1i (.ptr p 0 0) (.int .i64 level) (.int .i64 (n : Int)) H = some (.ret (.tup [.int .i64 (((DV st.lines level n).getD 0 : Nat) : Int), .bool (DV st.lines level n).isSome]), H) := by
 have hld := Bf (o := 6) (sz := 1) h.lx
 unfold Sh.f1i DV
 simp only [GMb, GMc, HPa, HPc, HPd, HPe, HPz, Nat.reduceAdd, Nat.reduceLT, rd_may h h1 h2 n (by omega)]
 cases hm : CK st.lines level n with
 | true => simp only [GMb, GMc, HPa, HPc, HPd, HPe, HPz, Nat.reduceAdd, Nat.reduceLT, rd_may h h1 h2 n (by omega), hm, if_true, Option.getD_some, Option.isSome_some]
 | false =>
  have hn0 : n ≠ 0 := fun e => by rw [e, Ov] at hm; cases hm
  have hn0' : ¬ (n : Int) = 0 := by omega
  have w1 : IntKind.i64.wrap ((n : Int) * 10) = ((n * 10 : Nat) : Int) := by rw [show ((n : Int) * 10) = ((n * 10 : Nat) : Int) by omega, Cj (by omega)]
  have w2 : IntKind.i64.wrap (((n * 10 : Nat) : Int) + 9) = ((n * 10 + 9 : Nat) : Int) := by rw [A1] <;> omega
  simp only [hn0', hn0, GMb, GMc, HPa, HPc, HPd, HPe, HPz, Nat.reduceAdd, Nat.reduceLT, w1, w2, Bool.false_eq_true, if_false]
  have key := AM (G := fun rec1 vs H1 => Sh.f59 H rec1 (ag vs 0) (ag vs 1) (ag vs 2) (ag vs 3) H1) (σ := Nat × Nat) (fun s => 10 ≤ s.1 ∧ s.2 < 2 * s.1 ∧ s.1 ≤ s.2 ∧ s.1 < 400000000000000) (fun s => [.ptr p 0 0, .int .i64 level, .int .i64 (s.1 : Int), .int .i64 (s.2 : Int)]) (fun _ => H) (fun s => st.lines.length + 1 - s.1)
   (fun s => some (.ret (.tup [.int .i64 (((Gi st.lines level (st.lines.length + 1 - s.1) s.1 s.2).getD 0 : Nat) : Int), .bool (Gi st.lines level (st.lines.length + 1 - s.1) s.1 s.2).isSome]), H)) (fun s rec hi hrec => ?_) (n * 10, n * 10 + 9) ⟨by dsimp only; omega, by dsimp only; omega, by dsimp only; omega, by dsimp only; omega⟩ (by dsimp only; omega)
  ·rw [QV st.lines level (st.lines.length + 1) (st.lines.length + 1 - n * 10) _ _ (by omega) (by omega) (by omega)]
   exact key
  ·obtain ⟨low, high⟩ := s
   obtain ⟨i1, i2, i3, i4⟩ := hi
   dsimp only at i1 i2 i3 i4 hrec ⊢
   unfold Sh.f59
   simp only [GMb, GMc, HPa, HPc, HPd, HPe, HPz, Nat.reduceAdd, Nat.reduceLT, hld, rdR, h.lines.len]
   by_cases hle : low ≤ st.lines.length
   ·have hle' : (low : Int) ≤ (st.lines.length : Int) := by omega
    rw [show st.lines.length + 1 - low = (st.lines.length - low) + 1 by omega]
    unfold Gi
    have w3 : IntKind.i64.wrap ((low : Int) * 10) = ((low * 10 : Nat) : Int) := by rw [show ((low : Int) * 10) = ((low * 10 : Nat) : Int) by omega, Cj (by omega)]
    have w4 : IntKind.i64.wrap ((high : Int) * 10) = ((high * 10 : Nat) : Int) := by rw [show ((high : Int) * 10) = ((high * 10 : Nat) : Int) by omega, Cj (by omega)]
    have w5 : IntKind.i64.wrap (((high * 10 : Nat) : Int) + 9) = ((high * 10 + 9 : Nat) : Int) := by rw [A1] <;> omega
    have hnext := hrec (low * 10, high * 10 + 9) ⟨by dsimp only; omega, by dsimp only; omega, by dsimp only; omega, by dsimp only; omega⟩ (by dsimp only; omega)
    dsimp only at hnext
    have inner := Is (G := fun rec2 vs H1 => Sh.f3v H rec rec2 (ag vs 0) (ag vs 1) (ag vs 2) (ag vs 3) (ag vs 4) H1) (min high st.lines.length + 1 - low) (fun i => CK st.lines level (low + i)) (fun i => [.ptr p 0 0, .int .i64 level, .int .i64 (low : Int), .int .i64 (high : Int), .int .i64 ((low + i : Nat) : Int)]) H
     (rec [.ptr p 0 0, .int .i64 level, .int .i64 ((low * 10 : Nat) : Int), .int .i64 ((high * 10 + 9 : Nat) : Int)] H) (fun i => some (.ret (.tup [.int .i64 ((low + i : Nat) : Int), .bool true]), H)) (by omega) (fun rec2 i hi => ?_) (fun rec2 => ?_)
    ·simp only [hle', GMb, GMc, HPa, HPc, HPd, HPe, HPz, Nat.reduceAdd, Nat.reduceLT, if_pos hle]
     rw [Nat.add_zero] at inner
     rw [inner]
     cases (List.range (min high st.lines.length + 1 - low)).find? (fun i => CK st.lines level (low + i)) with
     | some i => simp only [Option.getD_some, Option.isSome_some]
     | none =>
      simp only
      rw [hnext, QV st.lines level (st.lines.length + 1 - low * 10) (st.lines.length - low) _ _ (by omega) (by omega) (by omega)]
    ·have c1 : ((low + i : Nat) : Int) ≤ (high : Int) := by omega
     have c2 : ((low + i : Nat) : Int) ≤ (st.lines.length : Int) := by omega
     unfold Sh.f3v
     simp only [GMb, GMc, HPa, HPc, HPd, HPe, HPz, Nat.reduceAdd, Nat.reduceLT, c1, c2, hld, rdR, h.lines.len, rd_may h h1 h2 (low + i) (by omega)]
     cases hmm : CK st.lines level (low + i) with
     | true => simp only [GMb, GMc, HPa, HPc, HPd, HPe, HPz, Nat.reduceAdd, Nat.reduceLT, if_true]
     | false => simp only [GMb, GMc, HPa, HPc, HPd, HPe, HPz, Nat.reduceAdd, Nat.reduceLT, Bool.false_eq_true, if_false, Ar (show low + i < 9223372036854775807 by omega)]; rfl
    ·unfold Sh.f3v
     have hN : low + (min high st.lines.length + 1 - low) = min high st.lines.length + 1 := by omega
     rw [hN]
     by_cases hc : high ≤ st.lines.length
     ·have c1 : ¬ ((min high st.lines.length + 1 : Nat) : Int) ≤ (high : Int) := by omega
      simp only [GMb, GMc, HPa, HPc, HPd, HPe, HPz, Nat.reduceAdd, Nat.reduceLT, c1, w3, w4, w5]
     ·have c1 : ((min high st.lines.length + 1 : Nat) : Int) ≤ (high : Int) := by omega
      have c2 : ¬ ((min high st.lines.length + 1 : Nat) : Int) ≤ (st.lines.length : Int) := by omega
      simp only [GMb, GMc, HPa, HPc, HPd, HPe, HPz, Nat.reduceAdd, Nat.reduceLT, c1, c2, hld, rdR, h.lines.len, w3, w4, w5]
   ·have hle' : ¬ (low : Int) ≤ (st.lines.length : Int) := by omega
    rw [show st.lines.length + 1 - low = 0 by omega]
    unfold Gi
    simp only [hle', GMb, GMc, HPa, HPc, HPd, HPe, HPz, Nat.reduceAdd, Nat.reduceLT, Option.getD_none, Option.isSome_none]
    rfl

end
end Go.Gm
namespace Go.Gm
theorem decN_mono : ∀ (m n : Nat), m ≤ n → (Bm m).length ≤ (Bm n).length := by
 intro m
 induction m using Nat.strongRecOn with
 | _ m ih =>
  intro n h
  by_cases hm : m < 10
  ·rw [Da hm]
   unfold Bm
   split <;> simp
  ·rw [EI hm, EI (n := n) (by omega), List.length_append, List.length_append]
   have := ih (m / 10) (by omega) (n / 10) (by omega)
   simp only [List.length_singleton]; omega
theorem longF_ge (lines : List (Nat × Int)) (level : Int) : ∀ (f low high k : Nat), 1 ≤ low → Gi lines level f low high = some k → low ≤ k ∧ k ≤ lines.length := by
 intro f
 induction f with
 | zero => intro low high k _ h; cases h
 | succ f ih =>
  intro low high k h1 h
  unfold Gi at h
  by_cases hl : low ≤ lines.length
  ·rw [if_pos hl] at h
   split at h
   ·rename_i i hf
    injection h with h
    have := List.mem_of_find?_eq_some hf
    rw [List.mem_range] at this
    omega
   ·have := ih _ _ _ (by omega) h; omega
  ·rw [if_neg hl] at h; cases h
theorem QU {lines : List (Nat × Int)} {level : Int} {n k : Nat} (h : DV lines level n = some k) : n ≤ k := by
 unfold DV at h
 split at h
 ·injection h with h; omega
 ·split at h
  ·cases h
  ·have := longF_ge _ _ _ _ _ _ (by omega) h; omega
theorem mayB_le {lines : List (Nat × Int)} {level : Int} {n : Nat} (h : CK lines level n = true) : n ≤ max 255 lines.length := by
 unfold CK at h
 split at h
 ·simp only [decide_eq_true_eq] at h; omega
 ·split at h
  ·omega
  ·split at h
   ·rename_i hq
    have := (List.getElem?_eq_some_iff.1 hq).1; omega
   ·cases h
theorem QS {lines : List (Nat × Int)} {level : Int} {n k : Nat} (h : DV lines level n = some k) : k ≤ max 255 lines.length := by
 unfold DV at h
 split at h
 ·rename_i hm; injection h with h; rw [← h]; exact mayB_le hm
 ·split at h
  ·cases h
  ·have := longF_ge _ _ _ _ _ _ (by omega) h; omega
theorem kidF_le (b : List UInt8) (lines : List (Nat × Int)) (level : Int) (f : Nat) (rest : List UInt8) : ∀ k a n, a ≤ b.length → a ≤ (JF b lines level f rest k a n).2.1 ∧ (JF b lines level f rest k a n).2.1 ≤ b.length
 | 0, a, n, h => ⟨Nat.le_refl _, h⟩
 | k + 1, a, n, h => by
  unfold JF
  cases hs : Aq b a BI with
  | true =>
   simp only [if_true]
   split
   ·exact ⟨Nat.le_refl _, h⟩
   ·split
    ·have := kidF_le b lines level f rest k (a + 1) (10 * n + Co b a) (BU hs); omega
    ·exact ⟨Nat.le_refl _, h⟩
  | false =>
   simp only [Bool.false_eq_true, if_false]
   split
   ·exact ⟨Nat.le_refl _, h⟩
   ·split <;> exact ⟨Nat.le_refl _, h⟩
section
variable {b0 p a : Nat} {b : List UInt8} {bx N : Int} {st : MSt} {H : Aa}
theorem rd_tell {v w : Ab} (h : RDx b0 p b a bx N st v w H) {level : Int} (h1 : 1 ≤ level) (n : Nat) (hm : CK st.lines level n = true) (hn : n < 4000000000000000000) : Sh.f3w H (.ptr p 0 0) (.int .i64 level) (.int .i64 (n : Int)) H = some (.ret (.int .i64 (Pe st.lines level n : Int)), H) := by
 have hld := Bf (o := 6) (sz := 1) h.lx
 unfold Sh.f3w Pe
 by_cases hl : 1 < level
 ·have hl' : level > 1 := hl
  by_cases h0 : 0 < n
  ·have h0' : (n : Int) > 0 := by omega
   have hlt : n - 1 < st.lines.length := by
    unfold CK at hm
    rw [if_neg (by omega), if_neg (by omega)] at hm
    split at hm
    ·rename_i hq; exact (List.getElem?_eq_some_iff.1 hq).1
    ·cases hm
   have w2 : IntKind.i64.wrap ((n : Int) - 1) = ((n - 1 : Nat) : Int) := C7 (by omega) (by omega)
   simp only [hl', h0', GMb, GMc, HPa, HPc, HPd, HPe, HPz, Nat.reduceAdd, Nat.reduceLT, hld, rdR, w2, h.lines.idx hlt, Am, Aw, lnC, hl, h0, if_true, List.getElem?_eq_getElem hlt, Option.getD_some]
  ·have h0' : ¬ (n : Int) > 0 := by omega
   simp only [hl', h0', GMb, GMc, HPa, HPc, HPd, HPe, HPz, Nat.reduceAdd, Nat.reduceLT, h0, and_false, if_false]
 ·have hl' : ¬ level > 1 := hl
  simp only [hl', GMb, GMc, HPa, HPc, HPd, HPe, HPz, Nat.reduceAdd, Nat.reduceLT, hl, false_and, if_false]
theorem rd_kid {v w : Ab} (h : RDx b0 p b a bx N st v w H) (ha : a ≤ b.length) (hb : b.length < 1152921504606846976) {level : Int} (h1 : 1 ≤ level) (h2 : level ≤ 1329) (hll : st.lines.length < 3000000000000) (rest : List UInt8) (hr : rest.length ≤ 1000000) :
  ∃ x, Sh.f28 (.ptr p 0 0) (.int .i64 level) (.str rest) H = some (N3 (L2 b a st.lines level rest).1 (.int .i64 x), AO H p b (rdR bx N st.law v w) (L2 b a st.lines level rest).2.1) ∧ ((L2 b a st.lines level rest).1 = none → x = ((L2 b a st.lines level rest).2.2 : Int)) := by
 have hss := BV h.lx
 have key := AM (G := fun rec1 vs H1 => Sh.f5c H rec1 (ag vs 0) (ag vs 1) (ag vs 2) (ag vs 3) (ag vs 4) H1) (σ := Nat × Nat) (fun s => a ≤ s.1 ∧ s.1 ≤ b.length ∧ s.2 ≤ max 255 st.lines.length ∧ (a < s.1 → (Bm s.2).length = s.1 - a ∧ (DV st.lines level s.2).isSome = true) ∧ (s.1 = a → s.2 = 0))
  (fun s => [.ptr p 0 0, .int .i64 level, .str rest, .int .i64 (s.2 : Int), .int .i64 (a : Int)]) (fun s => AO H p b (rdR bx N st.law v w) s.1) (fun s => b.length - s.1)
  (fun s => some (N3 (JF b st.lines level a rest (b.length + 1 - s.1) s.1 s.2).1 (.int .i64 (Pe st.lines level (JF b st.lines level a rest (b.length + 1 - s.1) s.1 s.2).2.2 : Int)), AO H p b (rdR bx N st.law v w) (JF b st.lines level a rest (b.length + 1 - s.1) s.1 s.2).2.1)) (fun s rec hi hrec => ?_) (a, 0) ⟨Nat.le_refl _, ha, Nat.zero_le _, fun h => absurd h (by simp), fun _ => rfl⟩ (by dsimp only; omega)
 ·rw [hss] at key
  refine ⟨_, ?_, fun _ => rfl⟩
  unfold Sh.f28 L2
  simp only [GMb, GMc, HPa, HPc, HPd, HPe, HPz, Nat.reduceAdd, Nat.reduceLT, DE h.lx]
  exact key
 ·obtain ⟨i, n⟩ := s
  obtain ⟨i0, i1, i2, i3, i4⟩ := hi
  dsimp only at i0 i1 i2 i3 i4 hrec ⊢
  have hR := h.move i
  have hx := hR.lx
  have hsd := Cs hx i1 BI
  have hds : Aq b i [48, 49, 50, 51, 52, 53, 54, 55, 56, 57] = Aq b i BI := rfl
  unfold BI at hsd
  rw [hds] at hsd
  rw [show b.length + 1 - i = (b.length - i) + 1 by omega]
  unfold Sh.f5c
  simp only [GMb, GMc, HPa, HPc, HPd, HPe, HPz, Nat.reduceAdd, Nat.reduceLT, Al, hsd]
  unfold JF
  cases hs : Aq b i BI with
  | true =>
   obtain ⟨hlt, d1, d2, d3⟩ := Hy hs
   obtain ⟨w1, w2⟩ := dig_bin hs hlt
   have hd9 := PR hs
   have go : ¬ (a < i ∧ n = 0) → Sh.f5b H (fun vs H1 => Sh.f5a H rec (ag vs 0) (ag vs 1) (ag vs 2) (ag vs 3) (ag vs 4) H1) (.ptr p 0 0) (.int .i64 level) (.str rest) (.int .i64 (n : Int)) (.int .i64 (a : Int)) (AO H p b (rdR bx N st.law v w) i) =
     some (N3 (if (DV st.lines level (10 * n + Co b i)).isSome then JF b st.lines level a rest (b.length - i) (i + 1) (10 * n + Co b i) else (some (CJ b i []), i, n)).1 (.int .i64 (Pe st.lines level (if (DV st.lines level (10 * n + Co b i)).isSome then JF b st.lines level a rest (b.length - i) (i + 1) (10 * n + Co b i) else (some (CJ b i []), i, n)).2.2 : Int)), AO H p b (rdR bx N st.law v w) (if (DV st.lines level (10 * n + Co b i)).isSome then JF b st.lines level a rest (b.length - i) (i + 1) (10 * n + Co b i) else (some (CJ b i []), i, n)).2.1) := by
    intro hn
    have w3 : IntKind.i64.wrap (10 * (n : Int)) = ((10 * n : Nat) : Int) := by rw [show (10 * (n : Int)) = ((10 * n : Nat) : Int) by omega, Cj (by omega)]
    have w4 : IntKind.i64.wrap (((10 * n : Nat) : Int) + (Co b i : Int)) = ((10 * n + Co b i : Nat) : Int) := Ei (by omega)
    unfold Sh.f5b
    simp only [GMb, GMc, HPa, HPc, HPd, HPe, HPz, Nat.reduceAdd, Nat.reduceLT, DE hx, RV hx, AK hlt, w1, Bj, w2, w3, w4, S2 hR h1 h2 (10 * n + Co b i) (by omega) hll]
    cases hl : DV st.lines level (10 * n + Co b i) with
    | none =>
     simp only [GMb, GMc, HPa, HPc, HPd, HPe, HPz, Nat.reduceAdd, Nat.reduceLT, Option.isSome_none, DT hx, Bool.false_eq_true, if_false, B1]
    | some k =>
     have hk1 := QU hl
     have hk2 := QS hl
     have hlen : (Bm (10 * n + Co b i)).length = i + 1 - a := by
      by_cases hai : a < i
      ·have hn0 : n ≠ 0 := fun e => hn ⟨hai, e⟩
       rw [EI (by omega), List.length_append, show (10 * n + Co b i) / 10 = n by omega, (i3 hai).1, List.length_singleton]; omega
      ·have hia : i = a := by omega
       rw [i4 hia, Da (by omega), List.length_singleton]; omega
     have := hrec (i + 1, 10 * n + Co b i) ⟨by dsimp only; omega, hlt, by dsimp only; omega, fun _ => ⟨hlen, by rw [hl]; rfl⟩, fun e => by dsimp only at e; omega⟩ (by dsimp only; omega)
     dsimp only at this
     rw [show b.length + 1 - (i + 1) = b.length - i by omega] at this
     unfold Sh.f5a
     simp only [GMb, GMc, HPa, HPc, HPd, HPe, HPz, Nat.reduceAdd, Nat.reduceLT, Option.isSome_some, if_true, DE hx, Ar (show i < 9223372036854775807 by omega), Fp h.lx]
     exact this
   simp only [GMb, GMc, HPa, HPc, HPd, HPe, HPz, Nat.reduceAdd, Nat.reduceLT, DE hx, if_true]
   by_cases hai : a < i
   ·have hai' : (i : Int) > (a : Int) := by omega
    simp only [hai', GMb, GMc, HPa, HPc, HPd, HPe, HPz, Nat.reduceAdd, Nat.reduceLT]
    by_cases hn : n = 0
    ·have hn' : ((0 : Nat) : Int) = 0 := rfl
     simp only [hn, hn', GMb, GMc, HPa, HPc, HPd, HPe, HPz, Nat.reduceAdd, Nat.reduceLT, hai, if_true, DT hx, B1]
    ·have hn' : ¬ (n : Int) = 0 := by omega
     simp only [hn', hn, GMb, GMc, HPa, HPc, HPd, HPe, HPz, Nat.reduceAdd, Nat.reduceLT, and_false, if_false]
     exact go (fun hc => hn hc.2)
   ·have hai' : ¬ (i : Int) > (a : Int) := by omega
    simp only [hai', GMb, GMc, HPa, HPc, HPd, HPe, HPz, Nat.reduceAdd, Nat.reduceLT, hai, false_and, if_false]
    exact go (fun hc => hai hc.1)
  | false =>
   simp only [GMb, GMc, HPa, HPc, HPd, HPe, HPz, Nat.reduceAdd, Nat.reduceLT, DE hx, Bool.false_eq_true, if_false]
   by_cases hia : i = a
   ·have hia' : (i : Int) = (a : Int) := by omega
    have hcat : Ae .none .add (.str [48]) (.str rest) = some (.str (48 :: rest)) := BJ (by simp only [List.length_cons, List.length_nil]; omega)
    rw [if_pos hia]
    simp only [hia', GMb, GMc, HPa, HPc, HPd, HPe, HPz, Nat.reduceAdd, Nat.reduceLT, hcat, DT hx, B1]
   ·have hia' : ¬ (i : Int) = (a : Int) := by omega
    obtain ⟨k1, k2⟩ := i3 (by omega)
    rw [if_neg hia]
    unfold Sh.f68
    simp only [hia', GMb, GMc, HPa, HPc, HPd, HPe, HPz, Nat.reduceAdd, Nat.reduceLT, rd_may hR h1 h2 n (by omega)]
    cases hm : CK st.lines level n with
    | true =>
     simp only [GMb, GMc, HPa, HPc, HPd, HPe, HPz, Nat.reduceAdd, Nat.reduceLT, if_true, BA]
     have := rd_tell hR h1 n hm (by omega)
     unfold Sh.f3w at this ⊢
     exact this
    | false =>
     simp only [GMb, GMc, HPa, HPc, HPd, HPe, HPz, Nat.reduceAdd, Nat.reduceLT, Bool.false_eq_true, if_false, S2 hR h1 h2 n (by omega) hll]
     obtain ⟨k, hk⟩ := Option.isSome_iff_exists.1 k2
     have hge := QU hk
     have hle := QS hk
     have hit : Sh.f1p (.int .i64 (k : Int)) (AO H p b (rdR bx N st.law v w) i) = some (.ret (.str (Bm k)), AO H p b (rdR bx N st.law v w) i) := by
      unfold Sh.f1p
      simp only
      rw [if_pos ⟨by omega, by omega⟩, Lib.itoa, if_neg (by omega), Int.toNat_natCast, decN_lib]
     have hmono := decN_mono n k hge
     have hw : IntKind.i64.wrap ((i : Int) - (a : Int)) = ((i - a : Nat) : Int) := by rw [A1] <;> omega
     have hklen := decN_len k
     have hcat : Ae .none .add (.str ((Bm k).drop (i - a))) (.str rest) = some (.str ((Bm k).drop (i - a) ++ rest)) := BJ (by rw [List.length_drop]; omega)
     simp only [hk, Option.getD_some, hit, GMb, GMc, HPa, HPc, HPd, HPe, HPz, Nat.reduceAdd, Nat.reduceLT, DE hx, hw, Cz (show i - a ≤ (Bm k).length by omega), hcat, DT hx, B1]

end
end Go.Gm
namespace Go.Gm
theorem syn_ref {s : List UInt8} {c : UInt8} {r : List UInt8} (hcr : Bh s = c :: r) (hlt : ¬ DN (Bh s) < (Bh s).length) : Gz s = ((c == 48) && (decide (1 < r.length + 1) || Fc s)) := by
 have hb : (Bh s == []) = false := by rw [hcr]; rfl
 have hsyn : Gz s = ((c == 48) && !(s == [48])) := by
  simp only [Gz, hb, decide_eq_false hlt, Bool.false_or]
  rw [hcr]
  rfl
 rw [hsyn]
 by_cases hc : c = 48
 ·subst hc
  simp only [beq_self_eq_true, Bool.true_and]
  cases hn : Fc s with
  | true =>
   have : s ≠ [48] := fun e => by rw [e] at hn; cases hn
   simp [this]
  | false =>
   have hs : s = 48 :: r := by rw [← hcr]; simp [Bh, hn]
   rw [hs]
   cases r <;> simp
 ·have : (c == 48) = false := by simpa using hc
  simp [this]
theorem wrap_u8d {c : UInt8} (h : En c = true) : IntKind.u8.wrap ((c.toNat : Int) - 48) = ((c.toNat - 48 : Nat) : Int) := by
 rw [DG] at h
 rw [PK (by omega) (by omega)]
 omega
theorem build_one {es : List (List Ab)} {tk : Tok} : Ay (some [(.bool false), (.sl [] .tight)]) [(1, 1, .sl es tk)] = some (.agg [.bool false, .sl es tk]) := by simp [Ay, GJ, DR]
theorem LX (s : List UInt8) (H : Aa) (hs : s.length < 1152921504606846976) : Sh.fw (.str s) H = some (.ret (.tup [big (BW s), .int .i64 (BX s)]), H) := by
 unfold Sh.fw
 have htl : (Bh s).length ≤ s.length := by unfold Bh; split <;> simp
 have hdg := q03_digits (Bh s) 0 (H ++ [Blk.cel 0 [.bool false, .sl [] .tight]]) (by omega) (by omega)
 have hd0 : (digA (Bh s) 0 : Int) = (DN (Bh s) : Int) := by simp [digA]
 rw [hd0] at hdg
 have tail : Sh.f5s H (.ptr H.length 0 0) (.str (Bh s)) (.bool (Fc s)) (H ++ [Blk.cel 0 [.bool false, .sl [] .tight]]) = some (.ret (.tup [big (BW s), .int .i64 (BX s)]), H) := by
  unfold Sh.f5s
  have bad : ∀ e : Int, BX s = e → e ≠ 0 → ((Ay (some [(.bool false), (.sl [] .tight)]) []).bind fun x35 =>
 bP H (Au (Af 2 (.ptr H.length 0 0) x35 (H ++ [Blk.cel 0 [.bool false, .sl [] .tight]]))) fun _ H37 =>
 (BM [Ad true 2 (.ptr H.length 0 0) H37, some (.int .i64 e)]).bind fun x38 => rPN H x38 H37) = some (.ret (.tup [big (BW s), .int .i64 (BX s)]), H) := by
   intro e he hne
   have hZ : BW s = 0 := by simp [BW, he, hne]
   rw [he, hZ, ← LM, Nq, Bw]
   exact Mg rfl
  cases hcr : Bh s with
  | nil =>
   have hE : BX s = 2 := by simp [BX, Gz, hcr]
   simp only [Cu, List.length_nil, GMb, GMc, show ((0 : Nat) : Int) = 0 from rfl]
   exact bad 2 hE (by decide)
  | cons c r =>
   have hix : AW (.str (c :: r)) (.int .i64 0) = some (.int .u8 (c.toNat : Int)) := Rl
   have hcc : decide ((c.toNat : Int) = 48) = (c == 48) := by
    rw [Bool.eq_iff_iff]
    simp only [decide_eq_true_eq, beq_iff_eq]
    constructor
    ·intro h
     exact UInt8.toNat.inj (show c.toNat = (48 : UInt8).toNat from by have : (48 : UInt8).toNat = 48 := rfl; omega)
    ·intro h; rw [h]; rfl
   have hl0 : ¬ (((c :: r).length : Int) = 0) := by simp; omega
   rw [hcr] at hdg
   simp only [Cu, hl0, GMb, GMc, hdg]
   by_cases hlt : DN (c :: r) < (c :: r).length
   ·have hsyn : Gz s = true := by simp only [Gz, hcr, decide_eq_true hlt, Bool.or_true, Bool.true_or]
    have hne : ¬ ((DN (c :: r) : Int) = ((c :: r).length : Int)) := by omega
    have hE : BX s = 2 := by simp [BX, hsyn]
    simp only [hne, GMb, GMc]
    exact bad 2 hE (by decide)
   ·have hle := PT (c :: r)
    have heq : (DN (c :: r) : Int) = ((c :: r).length : Int) := by omega
    have hsr := syn_ref hcr (by rw [hcr]; exact hlt)
    have hgt : decide (((c :: r).length : Int) > 1) = decide (1 < r.length + 1) := by
     rw [Bool.eq_iff_iff]; simp only [decide_eq_true_eq, List.length_cons]; omega
    have fin : (∀ (K : Ab → Out), True) → (Aj (.bool (Gz s)) ((Ay (some [(.bool false), (.sl [] .tight)]) []).bind fun x35 =>
 bP H (Au (Af 2 (.ptr H.length 0 0) x35 (H ++ [Blk.cel 0 [.bool false, .sl [] .tight]]))) fun _ H37 =>
 (BM [Ad true 2 (.ptr H.length 0 0) H37, some (.int .i64 2)]).bind fun x38 => rPN H x38 H37) (
 (Be (.str (c :: r))).bind fun x39 =>
 (Ae .none .gtr x39 (.int .i64 400)).bind fun x40 =>
 Aj x40 (
 (Ay (some [(.bool false), (.sl [] .tight)]) []).bind fun x41 =>
 bP H (Au (Af 2 (.ptr H.length 0 0) x41 (H ++ [Blk.cel 0 [.bool false, .sl [] .tight]]))) fun _ H43 =>
 (BM [Ad true 2 (.ptr H.length 0 0) H43, some (.int .i64 4)]).bind fun x44 => rPN H x44 H43) (
 Ao (fun rec2 vs H_1 => Sh.f3k H rec2 (ag vs 0) (ag vs 1) (ag vs 2) (ag vs 3) (ag vs 4) H_1) AC [.ptr H.length 0 0, .str (c :: r), .bool (Fc s), (.sl [] .tight), (.int .i64 0)] (H ++ [Blk.cel 0 [.bool false, .sl [] .tight]])))) = some (.ret (.tup [big (BW s), .int .i64 (BX s)]), H) := by
     intro _
     cases hsyn : Gz s with
     | true =>
      have hE : BX s = 2 := by simp [BX, hsyn]
      simp only [GMb, GMc]
      exact bad 2 hE (by decide)
     | false =>
      obtain ⟨n1, n2, n3⟩ := syn_dig hsyn
      simp only [GMb, GMc, Cu]
      by_cases hl : (Bh s).length > 400
      ·have hl' : ((c :: r).length : Int) > 400 := by rw [hcr] at hl; omega
       have hE : BX s = 4 := by simp [BX, hsyn, hl]
       simp only [hl', GMb, GMc]
       exact bad 4 hE (by decide)
      ·have hl' : ¬ ((c :: r).length : Int) > 400 := by rw [hcr] at hl; omega
       have hE : BX s = 0 := by simp [BX, hsyn, hl]
       have hZ : BW s = (if Fc s then -(CH (Bh s) : Int) else CH (Bh s)) := by simp [BW, hE]
       have hall := R1 n2
       have hdlt := decV_lt hall
       rw [hE, hZ]
       rw [← hcr]
       rw [← hcr] at hl'
       generalize hd : Bh s = d at *
       simp only [hl', GMb, GMc]
       obtain ⟨tkf, htk⟩ : ∃ tkf : Nat → Tok, tkf = fun i => if i = 0 then .tight else .no := ⟨_, rfl⟩
       have key := Ct (G := fun rec2 vs H1 => Sh.f3k H rec2 (ag vs 0) (ag vs 1) (ag vs 2) (ag vs 3) (ag vs 4) H1) d.length (fun i => [.ptr H.length 0 0, .str d, .bool (Fc s), .sl (enL cU (Ch (CH (d.take i)))) (tkf i), .int .i64 (i : Int)])
        (fun i => H ++ [.cel 0 [.bool false, .sl [] .tight]]) (some (.ret (.tup [big (if Fc s then -(CH d : Int) else CH d), .int .i64 0]), H)) (by omega) (fun rec i hi => ?_) (fun rec => ?_)
       ·rw [List.take_zero, show CH [] = 0 from rfl, Hs, htk] at key
        exact key
       ·have hdi := hall _ (List.getElem_mem hi)
        have hdi2 := (DG _).1 hdi
        have hi' : (i : Int) < (d.length : Int) := by omega
        have hw := wrap_u8d hdi
        have hcv : AI .u32 (.int .u8 ((d[i].toNat - 48 : Nat) : Int)) = some (.int .u32 ((d[i].toNat - 48 : Nat) : Int)) := by rw [Bj, C9 (by omega) (by omega)]
        have hsh := Lw (hdlt i (by omega)) (by omega)
        have hml := fun H => q01_mul (l := Ch (CH (d.take i))) (tk := tkf i) (m := 10) (c := d[i].toNat - 48) H (Lz _) (by omega) (by omega) (by omega)
        simp only [Ew, ← Hz, ← List.take_succ_eq_append_getElem hi, show ((10 : Nat) : Int) = 10 from rfl] at hml
        have htk1 : tkf (i + 1) = .no := by rw [htk]; rfl
        have w6 : IntKind.i64.wrap ((i : Int) + 1) = ((i + 1 : Nat) : Int) := by rw [A1] <;> omega
        unfold Sh.f3k
        simp only [GMb, GMc, Al, Cu, hi', AK hi, hw, hcv, hml, htk1, w6]
       ·have hsh := Lw (hdlt d.length (Nat.le_refl _)) (by omega)
        rw [List.take_length] at hsh
        have hst : ∀ B : Aa, Af 2 (.ptr B.length 0 0) (.agg [.bool false, .sl (enL cU (Ch (CH d))) (tkf d.length)]) (B ++ [.cel 0 [.bool false, .sl [] .tight]]) = some (B ++ [.cel 0 [.bool false, .sl (enL cU (Ch (CH d))) (tkf d.length)]]) := fun B => by
         rw [Fb, LR (sz := 2) (cs := [.bool false, .sl [] .tight]) (vs := [.bool false, .sl (enL cU (Ch (CH d))) (tkf d.length)]) rfl rfl rfl]
         rfl
        have hld : ∀ B : Aa, Ad true 2 (.ptr B.length 0 0) (B ++ [.cel 0 [.bool false, .sl (enL cU (Ch (CH d))) (tkf d.length)]]) = some (.agg [.bool false, .sl (enL cU (Ch (CH d))) (tkf d.length)]) := fun B => by
         rw [CL]; rfl
        have hmn := fun H => q02_minus false (Ch (CH d)) (tkf d.length) H (by omega) (Lz _)
        have hbi : Gt false (Ch (CH d)) = (CH d : Int) := by simp [Gt, Ew]
        simp only [hbi] at hmn
        unfold Sh.f3k
        simp only [GMb, GMc, Al, Cu, Int.lt_irrefl, List.take_length, build_one, alloc_eq (cs := [.bool false, .sl [] .tight]) rfl, B9]
        rw [hst]
        simp only [GMb, GMc]
        cases hn : Fc s with
        | true =>
         simp only [GMb, GMc, if_true]
         rw [hld]
         simp only [GMb, GMc, hmn]
         rw [Nr, List.append_assoc H]
         exact Mg rfl
        | false =>
         simp only [GMb, GMc, Bool.false_eq_true, if_false]
         rw [hld]
         simp only [GMb, GMc]
         have hbo : Ab.agg [.bool false, .sl (enL cU (Ch (CH d))) .no] = big (CH d : Int) := big_of (neg := false) (fun h => by cases h)
         rw [List.append_assoc H, ← hbo]
         exact Mg rfl
    have fin2 := fin (fun _ => trivial)
    simp only [heq, GMb, GMc, hix, hcc]
    rw [hsr] at fin2
    cases hc48 : (c == 48) with
    | false =>
     rw [hc48, Bool.false_and] at fin2
     simp only [GMb, GMc]
     exact fin2
    | true =>
     rw [hc48, Bool.true_and] at fin2
     simp only [GMb, GMc, Cu, hgt]
     cases hg1 : decide (1 < r.length + 1) with
     | true =>
      rw [hg1, Bool.true_or] at fin2
      simp only [GMb, GMc]
      exact fin2
     | false =>
      rw [hg1, Bool.false_or] at fin2
      simp only [GMb, GMc]
      exact fin2
 simp only [alloc_eq (cs := [.bool false, .sl [] .tight]) rfl, B9, GMb, GMc, Cu]
 cases s with
 | nil =>
  simp only [List.length_nil, show ¬ (((0 : Nat) : Int) > 0) from by decide, GMb, GMc, AF, Al]
  exact tail
 | cons c r =>
  have hgt : ((c :: r).length : Int) > 0 := by simp
  have hix : AW (.str (c :: r)) (.int .i64 0) = some (.int .u8 (c.toNat : Int)) := Rl
  have hcc : decide ((c.toNat : Int) = 45) = Fc (c :: r) := by
   rw [Bool.eq_iff_iff]
   simp only [decide_eq_true_eq, Fc, beq_iff_eq]
   constructor
   ·intro h
    exact UInt8.toNat.inj (show c.toNat = (45 : UInt8).toNat from by have : (45 : UInt8).toNat = 45 := rfl; omega)
   ·intro h; rw [h]; rfl
  simp only [hgt, GMb, GMc, hix, hcc]
  cases hn : Fc (c :: r) with
  | true =>
   have h2 : AS (.str (c :: r)) (some (.int .i64 1)) none = some (.str ((c :: r).drop 1)) := Cz (l := 1) (by simp)
   rw [hn] at tail
   have ht : Bh (c :: r) = (c :: r).drop 1 := by simp [Bh, hn]
   rw [ht] at tail
   simp only [GMb, GMc, h2, AF, Al]
   exact tail
  | false =>
   rw [hn] at tail
   have ht : Bh (c :: r) = c :: r := by simp [Bh, hn]
   rw [ht] at tail
   simp only [GMb, GMc, AF, Al]
   exact tail
end Go.Gm
namespace Go.Gm
end Go.Gm
namespace Go.Gm
theorem LZ {r : Nat} (h : r < 10) : (UInt8.ofNat (48 + r)).toNat = 48 + r := UInt8.toNat_ofNat_of_lt' (show 48 + r < 256 by omega)
theorem OO (n : Nat) : CH (Bm n) = n := by
 induction n using Nat.strongRecOn with
 | ind n ih =>
  by_cases hn : n < 10
  ·rw [Da hn]
   have := Hz [] (UInt8.ofNat (48 + n))
   rw [List.nil_append, LZ hn, show CH [] = 0 from rfl] at this
   rw [this]; omega
  ·rw [EI hn, Hz, ih (n / 10) (by omega), LZ (Nat.mod_lt _ (by omega))]
   omega
theorem decN_dig (n : Nat) : ∀ c ∈ Bm n, En c = true := by
 induction n using Nat.strongRecOn with
 | ind n ih =>
  intro c hc
  by_cases hn : n < 10
  ·rw [Da hn, List.mem_singleton] at hc
   rw [hc, DG, LZ hn]; omega
  ·rw [EI hn] at hc
   rcases List.mem_append.1 hc with h | h
   ·exact ih (n / 10) (by omega) c h
   ·have := Nat.mod_lt n (show 10 > 0 by omega)
    rw [List.mem_singleton.1 h, DG, LZ this]; omega
theorem all_digN {s : List UInt8} (h : ∀ c ∈ s, En c = true) : DN s = s.length := by
 induction s with
 | nil => rfl
 | cons c s ih => rw [Mh, if_pos (h c (by simp)), ih fun x hx => h x (by simp [hx])]; rfl
theorem decZ_sgn (z : Int) : Fc (FB z) = decide (z < 0) ∧ Bh (FB z) = Bm z.natAbs := by
 unfold FB
 by_cases h : z < 0
 ·rw [if_pos h, decide_eq_true h]
  exact ⟨rfl, rfl⟩
 ·rw [if_neg h, decide_eq_false h]
  have hb : Fc (Bm z.natAbs) = false := by
   cases hd : Bm z.natAbs with
   | nil => rfl
   | cons c r =>
    have := (DG c).1 (decN_dig z.natAbs c (by rw [hd]; simp))
    simp only [Fc, beq_eq_false_iff_ne]
    intro e
    rw [e] at this
    have h45 : (45 : UInt8).toNat = 45 := rfl
    omega
  exact ⟨hb, by simp [Bh, hb]⟩
theorem syn_text (z : Int) : Gz (FB z) = false := by
 obtain ⟨h1, h2⟩ := decZ_sgn z
 have hall := decN_dig z.natAbs
 have hp := R2 z.natAbs
 have hd := all_digN hall
 unfold Gz
 rw [h2, hd, decide_eq_false (Nat.lt_irrefl _), Bool.or_false]
 have hne : (Bm z.natAbs == []) = false := by
  cases hdd : Bm z.natAbs with
  | nil => rw [hdd] at hp; simp at hp
  | cons c r => rfl
 rw [hne, Bool.false_or]
 by_cases h0 : z.natAbs = 0
 ·have : z = 0 := by omega
  subst this
  rw [decZ_zero]
  simp
 ·obtain ⟨c, r, hc, hc48⟩ := Tb z.natAbs h0
  rw [hc]
  have : (c == 48) = false := by simpa using hc48
  simp [this]
theorem parse_text {z : Int} (h : (Bm z.natAbs).length ≤ 400) : BX (FB z) = 0 ∧ BW (FB z) = z := by
 obtain ⟨h1, h2⟩ := decZ_sgn z
 have hE : BX (FB z) = 0 := by
  unfold BX
  rw [syn_text, h2]
  simp only [Bool.false_eq_true, if_false]
  rw [if_neg (by omega)]
 refine ⟨hE, ?_⟩
 unfold BW
 rw [if_pos hE, h1, h2, OO]
 by_cases hz : z < 0
 ·rw [decide_eq_true hz]; simp only [if_true]; omega
 ·rw [decide_eq_false hz]; simp only [Bool.false_eq_true, if_false]; omega
end Go.Gm
namespace Go.Gm
theorem decN_snoc {n d : Nat} (hn : n ≠ 0) (hd : d < 10) : Bm (10 * n + d) = Bm n ++ [UInt8.ofNat (48 + d)] := by
 rw [EI (by omega), show (10 * n + d) / 10 = n by omega, show (10 * n + d) % 10 = d by omega]
theorem SZ : Bm 0 = [48] := by rw [Da (by omega)]; rfl
theorem decN_inj {m n : Nat} (h : Bm m = Bm n) : m = n := by
 have := congrArg CH h
 rwa [OO, OO] at this
theorem dec_pre {m : Nat} (hm : m ≠ 0) : ∀ (k : Nat), (∃ s, Bm k = Bm m ++ s) ↔ ∃ j, k / 10 ^ j = m := by
 intro k
 constructor
 ·intro h
  induction k using Nat.strongRecOn with
  | _ k ih =>
   obtain ⟨s, h⟩ := h
   rcases List.eq_nil_or_concat s with hs | ⟨s', c, hs⟩
   ·rw [hs, List.append_nil] at h; exact ⟨0, by simp [decN_inj h]⟩
   ·rw [List.concat_eq_append] at hs
    subst hs
    by_cases hk : k < 10
    ·rw [Da hk] at h
     have := congrArg List.length h
     have := R2 m
     simp only [List.length_append, List.length_singleton] at *; omega
    ·rw [EI hk, ← List.append_assoc] at h
     obtain ⟨h1, _⟩ := List.append_inj' h rfl
     obtain ⟨j, hj⟩ := ih (k / 10) (by omega) ⟨s', h1⟩
     exact ⟨j + 1, by rw [Nat.pow_succ, Nat.mul_comm, ← Nat.div_div_eq_div_mul]; exact hj⟩
 ·rintro ⟨j, h⟩
  have hp : 0 < 10 ^ j := Nat.pow_pos (by decide)
  have e : k = m * 10 ^ j + k % 10 ^ j := by rw [← h, Nat.mul_comm]; exact (Nat.div_add_mod k (10 ^ j)).symm
  have hj := Ta (q := m) (by omega) j (k % 10 ^ j) (Nat.mod_lt _ hp)
  rw [← e] at hj
  exact ⟨_, hj⟩
theorem longF_iff (lines : List (Nat × Int)) (level : Int) : ∀ (f j m : Nat), m ≠ 0 → lines.length + 1 - m * 10 ^ j ≤ f → ((Gi lines level f (m * 10 ^ j) (m * 10 ^ j + 10 ^ j - 1)).isSome = true ↔ ∃ k j', j ≤ j' ∧ k / 10 ^ j' = m ∧ k ≤ lines.length ∧ CK lines level k = true) := by
 intro f
 induction f with
 | zero =>
  intro j m hm hf
  constructor
  ·intro h; cases h
  ·rintro ⟨k, j', h1, h2, h3, h4⟩
   have hp : 10 ^ j ≤ 10 ^ j' := Nat.pow_le_pow_right (by decide) h1
   have : m * 10 ^ j' ≤ k := by rw [← h2]; exact Nat.div_mul_le_self k _
   have : m * 10 ^ j ≤ m * 10 ^ j' := Nat.mul_le_mul_left _ hp
   omega
 | succ f ih =>
  intro j m hm hf
  have hp : 0 < 10 ^ j := Nat.pow_pos (by decide)
  have hmp : 1 ≤ m * 10 ^ j := Nat.mul_pos (by omega) hp
  have e1 : m * 10 ^ j * 10 = m * 10 ^ (j + 1) := by rw [Nat.pow_succ, Nat.mul_assoc]
  have e2 : (m * 10 ^ j + 10 ^ j - 1) * 10 + 9 = m * 10 ^ (j + 1) + 10 ^ (j + 1) - 1 := by rw [← e1, Nat.pow_succ]; omega
  unfold Gi
  by_cases hl : m * 10 ^ j ≤ lines.length
  ·rw [if_pos hl]
   cases hfd : (List.range (min (m * 10 ^ j + 10 ^ j - 1) lines.length + 1 - m * 10 ^ j)).find? (fun i => CK lines level (m * 10 ^ j + i)) with
   | some i =>
    have hmem := List.mem_of_find?_eq_some hfd
    have hmay := List.find?_some hfd
    rw [List.mem_range] at hmem
    simp only [Option.isSome_some, true_iff]
    refine ⟨m * 10 ^ j + i, j, Nat.le_refl _, ?_, by omega, hmay⟩
    have : i < 10 ^ j := by omega
    rw [Nat.mul_comm, Nat.mul_add_div hp, Nat.div_eq_of_lt this, Nat.add_zero]
   | none =>
    simp only
    rw [e1, e2, ih (j + 1) m hm (by rw [← e1]; omega)]
    constructor
    ·rintro ⟨k, j', h1, h2, h3, h4⟩; exact ⟨k, j', by omega, h2, h3, h4⟩
    ·rintro ⟨k, j', h1, h2, h3, h4⟩
     by_cases hj : j = j'
     ·exfalso
      subst hj
      have hk : k = m * 10 ^ j + k % 10 ^ j := by rw [← h2, Nat.mul_comm]; exact (Nat.div_add_mod k (10 ^ j)).symm
      have hr : k % 10 ^ j < 10 ^ j := Nat.mod_lt _ hp
      have := List.find?_eq_none.1 hfd (k % 10 ^ j) (by rw [List.mem_range]; omega)
      rw [← hk] at this
      exact this h4
     ·exact ⟨k, j', by omega, h2, h3, h4⟩
  ·rw [if_neg hl]
   constructor
   ·intro h; cases h
   ·rintro ⟨k, j', h1, h2, h3, h4⟩
    have hpp : 10 ^ j ≤ 10 ^ j' := Nat.pow_le_pow_right (by decide) h1
    have : m * 10 ^ j' ≤ k := by rw [← h2]; exact Nat.div_mul_le_self k _
    have : m * 10 ^ j ≤ m * 10 ^ j' := Nat.mul_le_mul_left _ hpp
    omega
theorem QO {lines : List (Nat × Int)} {level : Int} {n : Nat} (hl : level ≠ 1) (h : CK lines level n = true) : n ≤ lines.length := by
 unfold CK at h
 rw [if_neg hl] at h
 split at h
 ·omega
 ·split at h
  ·rename_i hq
   have := (List.getElem?_eq_some_iff.1 hq).1; omega
  ·cases h
theorem longS_iff (lines : List (Nat × Int)) (level : Int) (m : Nat) : (DV lines level m).isSome = true ↔ ∃ k s, Bm k = Bm m ++ s ∧ CK lines level k = true := by
 unfold DV
 by_cases hm : CK lines level m = true
 ·rw [if_pos hm]
  exact ⟨fun _ => ⟨m, [], by simp, hm⟩, fun _ => rfl⟩
 ·have hm0 : m ≠ 0 := fun e => hm (by rw [e]; exact Ov _ _)
  rw [if_neg hm, if_neg hm0]
  have key := longF_iff lines level (lines.length + 1) 1 m hm0 (by omega)
  rw [Nat.pow_one, show m * 10 + 10 - 1 = m * 10 + 9 by omega] at key
  rw [key]
  constructor
  ·rintro ⟨k, j, h1, h2, h3, h4⟩
   obtain ⟨s, hs⟩ := (dec_pre hm0 k).2 ⟨j, h2⟩
   exact ⟨k, s, hs, h4⟩
  ·rintro ⟨k, s, hs, h4⟩
   obtain ⟨j, hj⟩ := (dec_pre hm0 k).1 ⟨s, hs⟩
   by_cases hj0 : j = 0
   ·exfalso; apply hm; rw [hj0, Nat.pow_zero, Nat.div_one] at hj; rw [← hj]; exact h4
   ·by_cases hl : level = 1
    ·exfalso
     have hk : k ≤ 255 := by unfold CK at h4; rw [if_pos hl] at h4; exact of_decide_eq_true h4
     apply hm
     unfold CK
     rw [if_pos hl, decide_eq_true_eq]
     have : m ≤ k := by rw [← hj]; exact Nat.div_le_self _ _
     omega
    ·exact ⟨k, j, by omega, hj, QO hl h4, h4⟩
end Go.Gm
