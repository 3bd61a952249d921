/- What the abstract machine's values and heap say of the model's world. -/
import Derived.Test.YtenmplcmmdaibaaGmB
import Derived.Below
namespace Go.Gm
set_option linter.unusedVariables false
set_option linter.unusedSimpArgs false

structure Env where
  φ : Nat → Nat → Option Nat
  κ : Nat → Nat → Option Nat
  I : Nat → Nat → Option Value

structure Env.le (E E' : Env) : Prop where
  φ : ∀ id g b, E.φ id g = some b → E'.φ id g = some b
  κ : ∀ id g b, E.κ id g = some b → E'.κ id g = some b
  I : ∀ b o v, E.I b o = some v → E'.I b o = some v
theorem Env.le.refl (E : Env) : E.le E := ⟨fun _ _ _ h => h, fun _ _ _ h => h, fun _ _ _ h => h⟩
theorem Env.le.trans {A B C : Env} (h : A.le B) (k : B.le C) : A.le C :=
  ⟨fun _ _ _ x => k.φ _ _ _ (h.φ _ _ _ x), fun _ _ _ x => k.κ _ _ _ (h.κ _ _ _ x), fun _ _ _ x => k.I _ _ _ (h.I _ _ _ x)⟩

/-- A slice header's capacity, as far as it is known. -/
def TokRel (E : Env) (tk : Tok) (a : Option Addr) (len cap : Nat) : Prop :=
  match tk with
  | .no => True
  | .tight => cap = len
  | .own t => ∃ b, E.φ t len = some b ∧ E.κ t len = some cap ∧ a = some ⟨b, 0, none⟩
theorem TokRel.mono {E E' : Env} (h : E.le E') {tk : Tok} {a : Option Addr} {len cap : Nat} (k : TokRel E tk a len cap) : TokRel E' tk a len cap := by
  cases tk with
  | no => trivial
  | tight => exact k
  | own t => obtain ⟨b, h1, h2, h3⟩ := k; exact ⟨b, h.φ _ _ _ h1, h.κ _ _ _ h2, h3⟩

inductive VRel (E : Env) : AVal → Value → Prop
  | undef (v : Value) : VRel E .undef v
  | bool (b : Bool) : VRel E (.bool b) (.bool b)
  | int (k : IntKind) (n : Int) : VRel E (.int k n) (.int k n)
  | str (s : List UInt8) : VRel E (.str s) (.string ⟨s.toArray⟩)
  | nilp : VRel E .nilp (.pointer none)
  | ptr {id g off b : Nat} (h : E.φ id g = some b) : VRel E (.ptr id g off) (.pointer (some ⟨b, off, none⟩))
  | cptr {cells : List AVal} {off b o : Nat} (f : Nat → Value) (hI : ∀ i, i < cells.length → E.I b (o + i) = some (f i))
      (hm : ∀ (i : Nat) (c : AVal), cells[i]? = some c → isImm c = true) (hv : ∀ (i : Nat) (c : AVal), cells[i]? = some c → VRel E c (f i)) : VRel E (.cptr cells off) (.pointer (some ⟨b, o + off, none⟩))
  | sl0 {tk : Tok} {a : Option Addr} {cap : Nat} (ht : TokRel E tk a 0 cap) (ha : a = none → cap = 0) (hs : ∀ ad, a = some ad → ad.spot = none) : VRel E (.sl [] tk) (.slice a 0 cap)
  | sl {es : List (List AVal)} {tk : Tok} {b o s cap : Nat} (f : Nat → Nat → Value) (hl : ∀ (i : Nat) (e : List AVal), es[i]? = some e → e.length = s)
      (hI : ∀ i j, i < es.length → j < s → E.I b (o + (i * s + j)) = some (f i j))
      (hm : ∀ (i : Nat) (e : List AVal) (j : Nat) (c : AVal), es[i]? = some e → e[j]? = some c → isImm c = true)
      (hv : ∀ (i : Nat) (e : List AVal) (j : Nat) (c : AVal), es[i]? = some e → e[j]? = some c → VRel E c (f i j))
      (hc : es.length ≤ cap) (ht : TokRel E tk (some ⟨b, o, none⟩) es.length cap) : VRel E (.sl es tk) (.slice (some ⟨b, o, none⟩) es.length cap)
  | ms {id g off off' len cap sz cap' b : Nat} {ex : Bool} (h : E.φ id g = some b) (hc : cap ≤ cap') (hl : len ≤ cap) (he : ex = true → cap' = cap) (ho : cap' ≠ 0 → off' = off) : VRel E (.ms id g off len cap sz ex) (.slice (some ⟨b, off', none⟩) len cap')
  | fn {f : FuncId} {caps : List AVal} {vs : Array Value} (hn : caps.length = vs.size) (hv : ∀ (i : Nat) (c : AVal) (v : Value), caps[i]? = some c → vs[i]? = some v → VRel E c v) : VRel E (.fn f caps) (.func (.func f) #[] vs)
  | nilfn : VRel E .nilfn .nilFunc
  | mp {id b : Nat} (h : E.φ id 0 = some b) : VRel E (.mp id) (.map (some b))
  | nilmap : VRel E .nilmap (.map none)
  | iface {t : TypeId} {x : AVal} {v : Value} (h : VRel E x v) : VRel E (.iface t x) (.iface t v)
  | nilif : VRel E .nilif .nilIface
  | agg {cs : List AVal} {vs : Array Value} (hn : cs.length = vs.size) (hv : ∀ (i : Nat) (c : AVal) (v : Value), cs[i]? = some c → vs[i]? = some v → VRel E c v) : VRel E (.agg cs) (.agg vs)
  | tup {cs : List AVal} {vs : Array Value} (hn : cs.length = vs.size) (hv : ∀ (i : Nat) (c : AVal) (v : Value), cs[i]? = some c → vs[i]? = some v → VRel E c v) : VRel E (.tup cs) (.tuple vs)

theorem VRel.mono {E E' : Env} (h : E.le E') {x : AVal} {v : Value} (k : VRel E x v) : VRel E' x v := by
  induction k with
  | undef v => exact .undef v
  | bool b => exact .bool b
  | int k n => exact .int k n
  | str s => exact .str s
  | nilp => exact .nilp
  | ptr h1 => exact .ptr (h.φ _ _ _ h1)
  | cptr f hI hm hv ih => exact .cptr f (fun i hi => h.I _ _ _ (hI i hi)) hm ih
  | sl0 ht ha hs => exact .sl0 (ht.mono h) ha hs
  | sl f hl hI hm hv hc ht ih => exact .sl f hl (fun i j hi hj => h.I _ _ _ (hI i j hi hj)) hm ih hc (ht.mono h)
  | ms h1 hc hl he ho => exact .ms (h.φ _ _ _ h1) hc hl he ho
  | fn hn hv ih => exact .fn hn ih
  | nilfn => exact .nilfn
  | mp h1 => exact .mp (h.φ _ _ _ h1)
  | nilmap => exact .nilmap
  | iface _ ih => exact .iface ih
  | nilif => exact .nilif
  | agg hn hv ih => exact .agg hn ih
  | tup hn hv ih => exact .tup hn ih

/-- Two rows of values, one by one. -/
def VRels (E : Env) (xs : List AVal) (vs : List Value) : Prop := xs.length = vs.length ∧ ∀ (i : Nat) (c : AVal) (v : Value), xs[i]? = some c → vs[i]? = some v → VRel E c v
theorem VRels.mono {E E' : Env} (h : E.le E') {xs : List AVal} {vs : List Value} (k : VRels E xs vs) : VRels E' xs vs := ⟨k.1, fun i c v h1 h2 => (k.2 i c v h1 h2).mono h⟩
theorem VRels.nil (E : Env) : VRels E [] [] := ⟨rfl, fun i c v h => by simp at h⟩
theorem VRels.cons {E : Env} {x : AVal} {v : Value} {xs : List AVal} {vs : List Value} (h : VRel E x v) (k : VRels E xs vs) : VRels E (x :: xs) (v :: vs) := by
  refine ⟨by simp [k.1], fun i c u h1 h2 => ?_⟩
  cases i with
  | zero => simp at h1 h2; subst h1; subst h2; exact h
  | succ i => simp at h1 h2; exact k.2 i c u h1 h2
theorem VRels.head {E : Env} {x : AVal} {v : Value} {xs : List AVal} {vs : List Value} (k : VRels E (x :: xs) (v :: vs)) : VRel E x v := k.2 0 x v rfl rfl
theorem VRels.tail {E : Env} {x : AVal} {v : Value} {xs : List AVal} {vs : List Value} (k : VRels E (x :: xs) (v :: vs)) : VRels E xs vs :=
  ⟨by simpa using k.1, fun i c u h1 h2 => k.2 (i + 1) c u (by simpa using h1) (by simpa using h2)⟩
theorem VRels.append {E : Env} {xs ys : List AVal} {vs us : List Value} (h : VRels E xs vs) (k : VRels E ys us) : VRels E (xs ++ ys) (vs ++ us) := by
  refine ⟨by simp [h.1, k.1], fun i c u h1 h2 => ?_⟩
  rw [List.getElem?_append] at h1 h2
  have := h.1
  by_cases hi : i < xs.length
  · rw [if_pos hi] at h1; rw [if_pos (by omega)] at h2; exact h.2 i c u h1 h2
  · rw [if_neg hi] at h1; rw [if_neg (by omega)] at h2; rw [← this] at h2; exact k.2 _ c u h1 h2
theorem VRels.get {E : Env} {xs : List AVal} {vs : List Value} (h : VRels E xs vs) {i : Nat} {c : AVal} (h1 : xs[i]? = some c) : ∃ v, vs[i]? = some v ∧ VRel E c v := by
  have hi : i < xs.length := (List.getElem?_eq_some_iff.1 h1).1
  have hi' : i < vs.length := by have := h.1; omega
  exact ⟨vs[i], List.getElem?_eq_getElem hi', h.2 i c _ h1 (List.getElem?_eq_getElem hi')⟩
theorem VRels.drop {E : Env} {xs : List AVal} {vs : List Value} (h : VRels E xs vs) (n : Nat) : VRels E (xs.drop n) (vs.drop n) :=
  ⟨by simp [h.1], fun i c v h1 h2 => h.2 (n + i) c v (by simpa using h1) (by simpa using h2)⟩
theorem VRels.take {E : Env} {xs : List AVal} {vs : List Value} (h : VRels E xs vs) (n : Nat) : VRels E (xs.take n) (vs.take n) := by
  refine ⟨by simp [h.1], fun i c v h1 h2 => ?_⟩
  rw [List.getElem?_take] at h1 h2
  split at h1
  · rename_i hi; rw [if_pos hi] at h2; exact h.2 i c v h1 h2
  · cases h1
theorem VRels.set {E : Env} {xs : List AVal} {vs : List Value} (h : VRels E xs vs) (n : Nat) {x : AVal} {v : Value} (hx : VRel E x v) : VRels E (xs.set n x) (vs.set n v) := by
  refine ⟨by simp [h.1], fun i c u h1 h2 => ?_⟩
  rw [List.getElem?_set] at h1 h2
  split at h1
  · rename_i hi
    subst hi
    rw [if_pos rfl] at h2
    split at h1
    · rename_i hlt
      rw [if_pos (by have := h.1; omega)] at h2
      simp at h1 h2; subst h1; subst h2; exact hx
    · cases h1
  · rename_i hi; rw [if_neg hi] at h2; exact h.2 i c u h1 h2
theorem VRels.map {E : Env} {α : Type} (l : List α) (f : α → AVal) (g : α → Value) (h : ∀ x ∈ l, VRel E (f x) (g x)) : VRels E (l.map f) (l.map g) := by
  refine ⟨by simp, fun i c v h1 h2 => ?_⟩
  rw [List.getElem?_map] at h1 h2
  cases hx : l[i]? with
  | none => simp [hx] at h1
  | some x => simp [hx] at h1 h2; subst h1; subst h2; exact h x (List.mem_of_getElem? hx)
theorem VRel.agg_of {E : Env} {cs : List AVal} {vs : Array Value} (h : VRels E cs vs.toList) : VRel E (.agg cs) (.agg vs) :=
  .agg (by simpa using h.1) fun i c v h1 h2 => h.2 i c v h1 (by simpa using h2)
theorem VRel.agg_cells {E : Env} {cs : List AVal} {v : Value} (h : VRel E (.agg cs) v) : ∃ vs : Array Value, v = .agg vs ∧ VRels E cs vs.toList := by
  cases h with
  | agg hn hv => exact ⟨_, rfl, by simpa using hn, fun i c v h1 h2 => hv i c v h1 (by simpa using h2)⟩
theorem VRel.tup_of {E : Env} {cs : List AVal} {vs : Array Value} (h : VRels E cs vs.toList) : VRel E (.tup cs) (.tuple vs) :=
  .tup (by simpa using h.1) fun i c v h1 h2 => h.2 i c v h1 (by simpa using h2)
theorem VRel.tup_cells {E : Env} {cs : List AVal} {v : Value} (h : VRel E (.tup cs) v) : ∃ vs : Array Value, v = .tuple vs ∧ VRels E cs vs.toList := by
  cases h with
  | tup hn hv => exact ⟨_, rfl, by simpa using hn, fun i c v h1 h2 => hv i c v h1 (by simpa using h2)⟩

/-! ### The heap -/
def locB (E : Env) (id : Nat) : Blk → Option Nat
  | .dead => none
  | .cel g _ => E.φ id g
  | .tok n _ _ => E.φ id n
  | .map _ => E.φ id 0
  | .iter _ _ => E.φ id 0
def loc (E : Env) (H : AHeap) (id : Nat) : Option Nat := (H[id]?).bind (locB E id)
def BlkRel (E : Env) (w : World) (id : Nat) : Blk → Prop
  | .dead => True
  | .cel g cells => ∃ b cs t, E.φ id g = some b ∧ w.heap[b]? = some (.cells cs t (0, 0)) ∧ VRels E cells cs.toList ∧ ∀ o, E.I b o = none
  | .tok n e sz => ∃ b cap cs, E.φ id n = some b ∧ E.κ id n = some cap ∧ w.heap[b]? = some (.cells cs e (0, 0)) ∧ cs.size = cap * sz ∧ n ≤ cap ∧ cap ≤ 9223372036854775807 ∧ ∀ o, n * sz ≤ o → E.I b o = none
  | .map es => ∃ b entries clock, E.φ id 0 = some b ∧ w.heap[b]? = some (.map entries clock) ∧ entries.size = es.length ∧ ∀ (i : Nat) (k v : AVal), es[i]? = some (k, v) → ∃ en, entries[i]? = some en ∧ VRel E k en.key ∧ VRel E v en.val
  | .iter s pos => ∃ b, E.φ id 0 = some b ∧ w.heap[b]? = some (.stringIter ⟨s.toArray⟩ pos)

structure Sim (E : Env) (H : AHeap) (w : World) : Prop where
  blk : ∀ id B, H[id]? = some B → BlkRel E w id B
  dom : ∀ id g b, E.φ id g = some b → id < H.length
  domk : ∀ id g b, E.κ id g = some b → id < H.length
  late : ∀ id n e sz, H[id]? = some (.tok n e sz) → ∀ g, n < g → E.φ id g = none ∧ E.κ id g = none
  inj : ∀ id id' b, loc E H id = some b → loc E H id' = some b → id = id'
  imm : ∀ b o v, E.I b o = some v → w.cell? ⟨b, o, none⟩ = some v

def Owned (E : Env) (H : AHeap) (b : Nat) : Prop := ∃ id, loc E H id = some b

structure Step (E : Env) (H : AHeap) (w : World) (E' : Env) (H' : AHeap) (w' : World) : Prop where
  le : E.le E'
  os : w'.os = w.os
  tape : w'.tape = w.tape
  output : w'.output = w.output
  size : w.heap.size ≤ w'.heap.size
  frame : ∀ b, b < w.heap.size → ¬ Owned E H b → w'.heap[b]? = w.heap[b]?
  own : ∀ b, Owned E' H' b → Owned E H b ∨ w.heap.size ≤ b
  imm : ∀ b o, b < w.heap.size → ¬ Owned E H b → E'.I b o = E.I b o
theorem Step.refl (E : Env) (H : AHeap) (w : World) : Step E H w E H w :=
  ⟨.refl E, rfl, rfl, rfl, Nat.le_refl _, fun _ _ _ => rfl, fun _ h => .inl h, fun _ _ _ _ => rfl⟩
theorem Step.trans {E : Env} {H : AHeap} {w : World} {E' : Env} {H' : AHeap} {w' : World} {E2 : Env} {H2 : AHeap} {w2 : World} (h : Step E H w E' H' w') (k : Step E' H' w' E2 H2 w2) : Step E H w E2 H2 w2 := by
  refine ⟨h.le.trans k.le, k.os.trans h.os, k.tape.trans h.tape, k.output.trans h.output, Nat.le_trans h.size k.size, fun b hb ho => ?_, fun b hb => ?_, fun b o hb ho => ?_⟩
  · rw [k.frame b (Nat.lt_of_lt_of_le hb h.size) (fun ho' => ?_), h.frame b hb ho]
    rcases h.own b ho' with h1 | h1
    · exact ho h1
    · omega
  · rcases k.own b hb with h1 | h1
    · exact h.own b h1
    · exact .inr (Nat.le_trans h.size h1)
  · rw [k.imm b o (Nat.lt_of_lt_of_le hb h.size) (fun ho' => ?_), h.imm b o hb ho]
    rcases h.own b ho' with h1 | h1
    · exact ho h1
    · omega
theorem BlkRel.lt {E : Env} {w : World} {id b : Nat} {B : Blk} (hB : BlkRel E w id B) (hl : locB E id B = some b) : b < w.heap.size := by
  have key : ∀ o, w.heap[b]? = some o → b < w.heap.size := fun o ho => (Array.getElem?_eq_some_iff.1 ho).1
  cases B with
  | dead => simp [locB] at hl
  | cel g cells => obtain ⟨b', cs, t, h1, h2, _⟩ := hB; simp only [locB] at hl; rw [hl] at h1; cases h1; exact key _ h2
  | tok n e sz => obtain ⟨b', cap, cs, h1, _, h2, _⟩ := hB; simp only [locB] at hl; rw [hl] at h1; cases h1; exact key _ h2
  | map es => obtain ⟨b', en, ck, h1, h2, _⟩ := hB; simp only [locB] at hl; rw [hl] at h1; cases h1; exact key _ h2
  | iter s pos => obtain ⟨b', h1, h2⟩ := hB; simp only [locB] at hl; rw [hl] at h1; cases h1; exact key _ h2
theorem BlkRel.keep {E E' : Env} {w w' : World} {id : Nat} {B : Blk} (h : BlkRel E w id B) (hle : E.le E')
    (hw : ∀ b, locB E id B = some b → w'.heap[b]? = w.heap[b]?) (hI : ∀ b, locB E id B = some b → E'.I b = E.I b) : BlkRel E' w' id B ∧ ∀ b, locB E' id B = some b ↔ locB E id B = some b := by
  cases B with
  | dead => exact ⟨trivial, fun b => by simp [locB]⟩
  | cel g cells =>
    obtain ⟨b, cs, t, h1, h2, h3, h4⟩ := h
    refine ⟨⟨b, cs, t, hle.φ _ _ _ h1, by rw [hw b h1]; exact h2, h3.mono hle, fun o => by rw [hI b h1]; exact h4 o⟩, fun b' => ?_⟩
    simp only [locB]; rw [hle.φ _ _ _ h1, h1]
  | tok n e sz =>
    obtain ⟨b, cap, cs, h1, h2, h3, h4, h5, h6, h7⟩ := h
    refine ⟨⟨b, cap, cs, hle.φ _ _ _ h1, hle.κ _ _ _ h2, by rw [hw b h1]; exact h3, h4, h5, h6, fun o ho => by rw [hI b h1]; exact h7 o ho⟩, fun b' => ?_⟩
    simp only [locB]; rw [hle.φ _ _ _ h1, h1]
  | map es =>
    obtain ⟨b, en, ck, h1, h2, h3, h4⟩ := h
    refine ⟨⟨b, en, ck, hle.φ _ _ _ h1, by rw [hw b h1]; exact h2, h3, fun i k v hi => ?_⟩, fun b' => ?_⟩
    · obtain ⟨e, h5, h6, h7⟩ := h4 i k v hi
      exact ⟨e, h5, h6.mono hle, h7.mono hle⟩
    · simp only [locB]; rw [hle.φ _ _ _ h1, h1]
  | iter s pos =>
    obtain ⟨b, h1, h2⟩ := h
    refine ⟨⟨b, hle.φ _ _ _ h1, by rw [hw b h1]; exact h2⟩, fun b' => ?_⟩
    simp only [locB]; rw [hle.φ _ _ _ h1, h1]
theorem Sim.block_lt {E : Env} {H : AHeap} {w : World} (h : Sim E H w) {id b : Nat} (hl : loc E H id = some b) : b < w.heap.size := by
  unfold loc at hl
  cases hH : H[id]? with
  | none => simp [hH] at hl
  | some B => rw [hH] at hl; exact (h.blk id B hH).lt hl
theorem Sim.imm_lt {E : Env} {H : AHeap} {w : World} (h : Sim E H w) {b o : Nat} {v : Value} (hi : E.I b o = some v) : b < w.heap.size := by
  have := h.imm b o v hi
  exact World.block_lt_of_cell? w _ this

/-- The block 'id' is turned into another one; what else there is stays. -/
theorem Sim.upd {E : Env} {H : AHeap} {w : World} (h : Sim E H w) {E' : Env} {w' : World} {id : Nat} {B B' : Blk} (hid : H[id]? = some B) (hle : E.le E') (hb : BlkRel E' w' id B')
    (hφ : ∀ i g b, i ≠ id → E'.φ i g = some b → E.φ i g = some b) (hκ : ∀ i g b, i ≠ id → E'.κ i g = some b → E.κ i g = some b)
    (heap : ∀ b, b < w.heap.size → locB E id B ≠ some b → w'.heap[b]? = w.heap[b]?)
    (hI : ∀ b, b < w.heap.size → locB E id B ≠ some b → E'.I b = E.I b)
    (himm : ∀ b o v, E'.I b o = some v → (w.heap.size ≤ b ∨ locB E id B = some b) → w'.cell? ⟨b, o, none⟩ = some v)
    (hloc : ∀ b, locB E' id B' = some b → locB E id B = some b ∨ w.heap.size ≤ b)
    (hlate : ∀ n e sz, B' = .tok n e sz → ∀ g, n < g → E'.φ id g = none ∧ E'.κ id g = none)
    (hos : w'.os = w.os) (htape : w'.tape = w.tape) (hout : w'.output = w.output) (hsz : w.heap.size ≤ w'.heap.size) :
    Sim E' (H.set id B') w' ∧ Step E H w E' (H.set id B') w' := by
  have hlt : id < H.length := (List.getElem?_eq_some_iff.1 hid).1
  have hid' : loc E H id = locB E id B := by simp [loc, hid]
  have keepB : ∀ i Bi, i ≠ id → H[i]? = some Bi → BlkRel E' w' i Bi ∧ ∀ b, locB E' i Bi = some b ↔ locB E i Bi = some b := by
    intro i Bi hne hi
    have hBi := h.blk i Bi hi
    have hne' : ∀ b, locB E i Bi = some b → locB E id B ≠ some b := fun b h1 h2 => hne (h.inj i id b (by simp [loc, hi, h1]) (by rw [hid', h2]))
    exact hBi.keep hle (fun b hb => heap b (hBi.lt hb) (hne' b hb)) (fun b hb => hI b (hBi.lt hb) (hne' b hb))
  have locs : ∀ i b, loc E' (H.set id B') i = some b → (i = id ∧ locB E' id B' = some b) ∨ (i ≠ id ∧ loc E H i = some b) := by
    intro i b hl
    unfold loc at hl
    by_cases e : i = id
    · subst e
      rw [List.getElem?_set_self hlt] at hl
      exact .inl ⟨rfl, by simpa using hl⟩
    · rw [List.getElem?_set_ne (Ne.symm e)] at hl
      refine .inr ⟨e, ?_⟩
      unfold loc
      cases hH : H[i]? with
      | none => simp [hH] at hl
      | some Bi => rw [hH] at hl; simp only [Option.bind_some] at hl ⊢; exact ((keepB i Bi e hH).2 b).1 hl
  constructor
  · refine ⟨fun i Bi hi => ?_, fun i g b hg => ?_, fun i g b hg => ?_, fun i n e sz hi g hg => ?_, fun i i' b h1 h2 => ?_, fun b o v hv => ?_⟩
    · by_cases e : i = id
      · subst e
        rw [List.getElem?_set_self hlt] at hi
        cases hi; exact hb
      · rw [List.getElem?_set_ne (Ne.symm e)] at hi
        exact (keepB i Bi e hi).1
    · rw [List.length_set]
      by_cases e : i = id
      · omega
      · exact h.dom i g b (hφ i g b e hg)
    · rw [List.length_set]
      by_cases e : i = id
      · omega
      · exact h.domk i g b (hκ i g b e hg)
    · by_cases e : i = id
      · subst e
        rw [List.getElem?_set_self hlt] at hi
        cases hi; exact hlate _ _ _ rfl g hg
      · rw [List.getElem?_set_ne (Ne.symm e)] at hi
        obtain ⟨h1, h2⟩ := h.late i n _ sz hi g hg
        refine ⟨?_, ?_⟩
        · cases hx : E'.φ i g with
          | none => rfl
          | some b => have := hφ i g b e hx; rw [h1] at this; cases this
        · cases hx : E'.κ i g with
          | none => rfl
          | some b => have := hκ i g b e hx; rw [h2] at this; cases this
    · rcases locs i b h1 with ⟨e1, l1⟩ | ⟨e1, l1⟩ <;> rcases locs i' b h2 with ⟨e2, l2⟩ | ⟨e2, l2⟩
      · rw [e1, e2]
      · rcases hloc b l1 with l3 | l3
        · exact absurd (h.inj i' id b l2 (by rw [hid', l3])) e2
        · have := h.block_lt l2; omega
      · rcases hloc b l2 with l3 | l3
        · exact absurd (h.inj i id b l1 (by rw [hid', l3])) e1
        · have := h.block_lt l1; omega
      · exact h.inj i i' b l1 l2
    · by_cases hc : w.heap.size ≤ b ∨ locB E id B = some b
      · exact himm b o v hv hc
      · have h1 : b < w.heap.size := by
          rcases Nat.lt_or_ge b w.heap.size with h1 | h1
          · exact h1
          · exact absurd (.inl h1) hc
        have h2 : locB E id B ≠ some b := fun h2 => hc (.inr h2)
        rw [hI b h1 h2] at hv
        rw [World.cell?_of_block (w := w) (heap b h1 h2)]
        exact h.imm b o v hv
  · refine ⟨hle, hos, htape, hout, hsz, fun b hb ho => heap b hb (fun hl => ho ⟨id, by rw [hid', hl]⟩), fun b ho => ?_, fun b o hb ho => by rw [hI b hb (fun hl => ho ⟨id, by rw [hid', hl]⟩)]⟩
    obtain ⟨i, hi⟩ := ho
    rcases locs i b hi with ⟨e, l⟩ | ⟨e, l⟩
    · rcases hloc b l with l | l
      · exact .inl ⟨id, by rw [hid', l]⟩
      · exact .inr l
    · exact .inl ⟨i, l⟩

theorem Sim.dead {E : Env} {H : AHeap} {w : World} (h : Sim E H w) : Sim E (H ++ [.dead]) w := by
  have locs : ∀ i, loc E (H ++ [.dead]) i = loc E H i := by
    intro i
    unfold loc
    rw [List.getElem?_append]
    split
    · rfl
    · rename_i hi
      have hn : H[i]? = none := List.getElem?_eq_none (by omega)
      rw [hn]
      cases hx : i - H.length with
      | zero => simp [locB]
      | succ n => simp
  refine ⟨fun i B hi => ?_, fun i g b hg => by have := h.dom i g b hg; simp; omega, fun i g b hg => by have := h.domk i g b hg; simp; omega, fun i n e sz hi => ?_, fun i i' b h1 h2 => h.inj i i' b (by rw [← locs]; exact h1) (by rw [← locs]; exact h2), h.imm⟩
  · rw [List.getElem?_append] at hi
    split at hi
    · exact h.blk i B hi
    · cases hx : i - H.length with
      | zero => simp [hx] at hi; subst hi; trivial
      | succ n => simp [hx] at hi
  · rw [List.getElem?_append] at hi
    split at hi
    · exact h.late i n e sz hi
    · cases hx : i - H.length with
      | zero => simp [hx] at hi
      | succ n => simp [hx] at hi
theorem Step.dead (E : Env) (H : AHeap) (w : World) : Step E H w E (H ++ [.dead]) w := by
  refine ⟨.refl E, rfl, rfl, rfl, Nat.le_refl _, fun _ _ _ => rfl, fun b ⟨i, hi⟩ => .inl ⟨i, ?_⟩, fun _ _ _ _ => rfl⟩
  unfold loc at hi ⊢
  rw [List.getElem?_append] at hi
  split at hi
  · exact hi
  · cases hx : i - H.length with
    | zero => simp [hx, locB] at hi
    | succ n => simp [hx] at hi
/-- A block is laid. -/
theorem Sim.push {E : Env} {H : AHeap} {w : World} (h : Sim E H w) {E' : Env} {w' : World} {B' : Blk} (hle : E.le E') (hb : BlkRel E' w' H.length B')
    (hφ : ∀ i g b, i ≠ H.length → E'.φ i g = some b → E.φ i g = some b) (hκ : ∀ i g b, i ≠ H.length → E'.κ i g = some b → E.κ i g = some b)
    (heap : ∀ b, b < w.heap.size → w'.heap[b]? = w.heap[b]?) (hI : ∀ b, b < w.heap.size → E'.I b = E.I b)
    (himm : ∀ b o v, E'.I b o = some v → w.heap.size ≤ b → w'.cell? ⟨b, o, none⟩ = some v)
    (hloc : ∀ b, locB E' H.length B' = some b → w.heap.size ≤ b)
    (hlate : ∀ n e sz, B' = .tok n e sz → ∀ g, n < g → E'.φ H.length g = none ∧ E'.κ H.length g = none)
    (hos : w'.os = w.os) (htape : w'.tape = w.tape) (hout : w'.output = w.output) (hsz : w.heap.size ≤ w'.heap.size) :
    Sim E' (H ++ [B']) w' ∧ Step E H w E' (H ++ [B']) w' := by
  have hset : (H ++ [Blk.dead]).set H.length B' = H ++ [B'] := by simp
  have := h.dead.upd (id := H.length) (B := .dead) (B' := B') (by simp) hle hb hφ hκ (fun b hb _ => heap b hb) (fun b hb _ => hI b hb) (fun b o v hv hc => himm b o v hv (hc.resolve_right (by simp [locB]))) (fun b hb => .inr (hloc b hb)) hlate hos htape hout hsz
  rw [hset] at this
  exact ⟨this.1, (Step.dead E H w).trans this.2⟩
/-- Memory that is fixed from now on is laid. -/
theorem Sim.ext {E : Env} {H : AHeap} {w : World} (h : Sim E H w) {E' : Env} {w' : World} (hle : E.le E')
    (hφ : ∀ i g b, E'.φ i g = some b → E.φ i g = some b) (hκ : ∀ i g b, E'.κ i g = some b → E.κ i g = some b)
    (heap : ∀ b, b < w.heap.size → w'.heap[b]? = w.heap[b]?) (hI : ∀ b, b < w.heap.size → E'.I b = E.I b)
    (himm : ∀ b o v, E'.I b o = some v → w.heap.size ≤ b → w'.cell? ⟨b, o, none⟩ = some v)
    (hos : w'.os = w.os) (htape : w'.tape = w.tape) (hout : w'.output = w.output) (hsz : w.heap.size ≤ w'.heap.size) :
    Sim E' H w' ∧ Step E H w E' H w' := by
  have keepB : ∀ i Bi, H[i]? = some Bi → BlkRel E' w' i Bi ∧ ∀ b, locB E' i Bi = some b ↔ locB E i Bi = some b := by
    intro i Bi hi
    have hBi := h.blk i Bi hi
    exact hBi.keep hle (fun b hb => heap b (hBi.lt hb)) (fun b hb => hI b (hBi.lt hb))
  have locs : ∀ i b, loc E' H i = some b → loc E H i = some b := by
    intro i b hl
    unfold loc at hl ⊢
    cases hH : H[i]? with
    | none => simp [hH] at hl
    | some Bi => rw [hH] at hl; simp only [Option.bind_some] at hl ⊢; exact ((keepB i Bi hH).2 b).1 hl
  constructor
  · refine ⟨fun i Bi hi => (keepB i Bi hi).1, fun i g b hg => h.dom i g b (hφ i g b hg), fun i g b hg => h.domk i g b (hκ i g b hg), fun i n e sz hi g hg => ?_, fun i i' b h1 h2 => h.inj i i' b (locs i b h1) (locs i' b h2), fun b o v hv => ?_⟩
    · obtain ⟨h1, h2⟩ := h.late i n e sz hi g hg
      refine ⟨?_, ?_⟩
      · cases hx : E'.φ i g with
        | none => rfl
        | some b => have := hφ i g b hx; rw [h1] at this; cases this
      · cases hx : E'.κ i g with
        | none => rfl
        | some b => have := hκ i g b hx; rw [h2] at this; cases this
    · rcases Nat.lt_or_ge b w.heap.size with h1 | h1
      · rw [hI b h1] at hv
        rw [World.cell?_of_block (w := w) (heap b h1)]
        exact h.imm b o v hv
      · exact himm b o v hv h1
  · exact ⟨hle, hos, htape, hout, hsz, fun b hb _ => heap b hb, fun b ⟨i, hi⟩ => .inl ⟨i, locs i b hi⟩, fun b o hb _ => by rw [hI b hb]⟩
/-- Orders are drawn. -/
theorem Sim.drew {E : Env} {H : AHeap} {w : World} (h : Sim E H w) (n : Nat) : Sim E H { w with drawn := n } ∧ Step E H w E H { w with drawn := n } :=
  h.ext (.refl E) (fun _ _ _ h => h) (fun _ _ _ h => h) (fun _ _ => rfl) (fun _ _ => rfl) (fun b o v hv hb => by have := h.imm_lt hv; omega) rfl rfl rfl (Nat.le_refl _)

/-! ### Larger environments -/
def Env.setφ (E : Env) (id g b : Nat) : Env := { E with φ := fun i j => if i = id ∧ j = g then some b else E.φ i j }
def Env.setI (E : Env) (b : Nat) (f : Nat → Option Value) : Env := { E with I := fun i o => if i = b then f o else E.I i o }
end Go.Gm
