/- What is handed back is fixed, and what was laid for it is forgotten. -/
import Derived.Test.YtenmplcmmdaibaaGmF3
namespace Go.Gm
set_option linter.unusedVariables false
set_option linter.unusedSimpArgs false
/-- All names of blocks in a value are below n. -/
inductive RL (n : Nat) : AVal → Prop
  | undef : RL n .undef
  | bool (b : Bool) : RL n (.bool b)
  | int (k : IntKind) (i : Int) : RL n (.int k i)
  | str (s : List UInt8) : RL n (.str s)
  | nilp : RL n .nilp
  | ptr {id g off : Nat} (h : id < n) : RL n (.ptr id g off)
  | cptr {cells : List AVal} {off : Nat} (h : ∀ (i : Nat) (c : AVal), cells[i]? = some c → RL n c) : RL n (.cptr cells off)
  | sl {es : List (List AVal)} {tk : Tok} (ht : ∀ t, tk = .own t → t < n) (h : ∀ (i : Nat) (e : List AVal) (j : Nat) (c : AVal), es[i]? = some e → e[j]? = some c → RL n c) : RL n (.sl es tk)
  | ms {id g off len cap sz : Nat} {ex : Bool} (h : id < n) : RL n (.ms id g off len cap sz ex)
  | fn {f : FuncId} {caps : List AVal} (h : ∀ (i : Nat) (c : AVal), caps[i]? = some c → RL n c) : RL n (.fn f caps)
  | nilfn : RL n .nilfn
  | mp {id : Nat} (h : id < n) : RL n (.mp id)
  | nilmap : RL n .nilmap
  | iface {t : TypeId} {x : AVal} (h : RL n x) : RL n (.iface t x)
  | nilif : RL n .nilif
  | agg {cs : List AVal} (h : ∀ (i : Nat) (c : AVal), cs[i]? = some c → RL n c) : RL n (.agg cs)
  | tup {cs : List AVal} (h : ∀ (i : Nat) (c : AVal), cs[i]? = some c → RL n c) : RL n (.tup cs)
theorem arr_get_of_len {α β : Type} {xs : List α} {vs : Array β} (h : xs.length = vs.size) {i : Nat} {c : α} (hc : xs[i]? = some c) : ∃ v, vs[i]? = some v := by
  have : i < xs.length := (List.getElem?_eq_some_iff.1 hc).1
  exact ⟨vs[i]'(by omega), by simp [show i < vs.size from by omega]⟩
theorem VRel.rl {E : Env} {n : Nat} (hd : ∀ id g b, E.φ id g = some b → id < n) {x : AVal} {v : Value} (h : VRel E x v) : RL n x := by
  induction h with
  | undef v => exact .undef
  | bool b => exact .bool b
  | int k i => exact .int k i
  | str s => exact .str s
  | nilp => exact .nilp
  | ptr h => exact .ptr (hd _ _ _ h)
  | cptr f hI hm hv ih => exact .cptr ih
  | sl0 ht ha hs =>
    refine .sl (fun t e => ?_) (fun i e j c h => by simp at h)
    subst e
    obtain ⟨b, h1, _⟩ := ht
    exact hd _ _ _ h1
  | sl f hl hI hm hv hc ht ih =>
    refine .sl (fun t e => ?_) ih
    subst e
    obtain ⟨b, h1, _⟩ := ht
    exact hd _ _ _ h1
  | ms h _ _ _ _ => exact .ms (hd _ _ _ h)
  | fn hn hv ih => exact .fn fun i c hc => by obtain ⟨v, hv'⟩ := arr_get_of_len hn hc; exact ih i c v hc hv'
  | nilfn => exact .nilfn
  | mp h => exact .mp (hd _ _ _ h)
  | nilmap => exact .nilmap
  | iface _ ih => exact .iface ih
  | nilif => exact .nilif
  | agg hn hv ih => exact .agg fun i c hc => by obtain ⟨v, hv'⟩ := arr_get_of_len hn hc; exact ih i c v hc hv'
  | tup hn hv ih => exact .tup fun i c hc => by obtain ⟨v, hv'⟩ := arr_get_of_len hn hc; exact ih i c v hc hv'
theorem VRel.cut {E E' : Env} {n : Nat} (hφ : ∀ id g b, id < n → E.φ id g = some b → E'.φ id g = some b) (hκ : ∀ id g b, id < n → E.κ id g = some b → E'.κ id g = some b) (hI : ∀ b o v, E.I b o = some v → E'.I b o = some v)
    {x : AVal} {v : Value} (h : VRel E x v) : RL n x → VRel E' x v := by
  induction h with
  | undef v => exact fun _ => .undef v
  | bool b => exact fun _ => .bool b
  | int k i => exact fun _ => .int k i
  | str s => exact fun _ => .str s
  | nilp => exact fun _ => .nilp
  | ptr h => intro r; cases r with | ptr hl => exact .ptr (hφ _ _ _ hl h)
  | cptr f hI' hm hv ih => intro r; cases r with | cptr hl => exact .cptr f (fun i hi => hI _ _ _ (hI' i hi)) hm (fun i c hc => ih i c hc (hl i c hc))
  | sl0 ht ha hs =>
    intro r
    rename_i tk a cap
    cases r with
    | sl hl _ =>
      refine .sl0 ?_ ha hs
      cases tk with
      | no => trivial
      | tight => exact ht
      | own t => obtain ⟨b, h1, h2, h3⟩ := ht; exact ⟨b, hφ _ _ _ (hl t rfl) h1, hκ _ _ _ (hl t rfl) h2, h3⟩
  | sl f hl hI' hm hv hc ht ih =>
    intro r
    rename_i es tk b o s cap
    cases r with
    | sl hlt hr =>
      refine .sl f hl (fun i j hi hj => hI _ _ _ (hI' i j hi hj)) hm (fun i e j c h1 h2 => ih i e j c h1 h2 (hr i e j c h1 h2)) hc ?_
      cases tk with
      | no => trivial
      | tight => exact ht
      | own t => obtain ⟨b, h1, h2, h3⟩ := ht; exact ⟨b, hφ _ _ _ (hlt t rfl) h1, hκ _ _ _ (hlt t rfl) h2, h3⟩
  | ms h hc hl he ho => intro r; cases r with | ms hl' => exact .ms (hφ _ _ _ hl' h) hc hl he ho
  | fn hn hv ih => intro r; cases r with | fn hl => exact .fn hn fun i c v h1 h2 => ih i c v h1 h2 (hl i c h1)
  | nilfn => exact fun _ => .nilfn
  | mp h => intro r; cases r with | mp hl => exact .mp (hφ _ _ _ hl h)
  | nilmap => exact fun _ => .nilmap
  | iface _ ih => intro r; cases r with | iface hl => exact .iface (ih hl)
  | nilif => exact fun _ => .nilif
  | agg hn hv ih => intro r; cases r with | agg hl => exact .agg hn fun i c v h1 h2 => ih i c v h1 h2 (hl i c h1)
  | tup hn hv ih => intro r; cases r with | tup hl => exact .tup hn fun i c v h1 h2 => ih i c v h1 h2 (hl i c h1)
section
variable {C : Cfg}
open Classical in
/-- The blocks from n on are forgotten; what they hold is fixed. -/
noncomputable def Env.cut (E : Env) (H : AHeap) (w : World) (n : Nat) : Env where
  φ := fun i g => if i < n then E.φ i g else none
  κ := fun i g => if i < n then E.κ i g else none
  I := fun b o => match E.I b o with
    | some v => some v
    | none => if ∃ id, n ≤ id ∧ loc E H id = some b then w.cell? ⟨b, o, none⟩ else none
theorem Sim.cut {E0 E : Env} {H0 H : AHeap} {w0 w : World} (hs0 : Sim E0 H0 w0) (hs : Sim E H w) (st : Step E0 H0 w0 E H w) (ht : H.take H0.length = H0) :
    Sim (E.cut H w H0.length) H0 w ∧ Step E0 H0 w0 (E.cut H w H0.length) H0 w := by
  have hget : ∀ i, i < H0.length → H[i]? = H0[i]? := fun i hi => by rw [← ht, List.getElem?_take_of_lt hi]
  have hI : ∀ b o v, E.I b o = some v → (E.cut H w H0.length).I b o = some v := fun b o v h => by simp [Env.cut, h]
  have hφ : ∀ id g b, id < H0.length → E.φ id g = some b → (E.cut H w H0.length).φ id g = some b := fun id g b h1 h2 => by simp [Env.cut, h1, h2]
  have hκ : ∀ id g b, id < H0.length → E.κ id g = some b → (E.cut H w H0.length).κ id g = some b := fun id g b h1 h2 => by simp [Env.cut, h1, h2]
  have hφ' : ∀ id g b, (E.cut H w H0.length).φ id g = some b → id < H0.length ∧ E.φ id g = some b := fun id g b h => by
    simp only [Env.cut] at h; split at h
    · rename_i h1; exact ⟨h1, h⟩
    · cases h
  have hκ' : ∀ id g b, (E.cut H w H0.length).κ id g = some b → id < H0.length ∧ E.κ id g = some b := fun id g b h => by
    simp only [Env.cut] at h; split at h
    · rename_i h1; exact ⟨h1, h⟩
    · cases h
  have hle : E0.le (E.cut H w H0.length) := ⟨fun id g b h => hφ id g b (hs0.dom _ _ _ h) (st.le.φ _ _ _ h), fun id g b h => hκ id g b (hs0.domk _ _ _ h) (st.le.κ _ _ _ h), fun b o v h => hI _ _ _ (st.le.I _ _ _ h)⟩
  -- of the blocks that stay nothing is newly fixed
  have hIkeep : ∀ i b, i < H0.length → loc E H i = some b → ∀ o, (E.cut H w H0.length).I b o = E.I b o := by
    intro i b hi hl o
    simp only [Env.cut]
    cases hx : E.I b o with
    | some v => rfl
    | none =>
      simp only []
      rw [if_neg]
      rintro ⟨id, h1, h2⟩
      have := hs.inj i id b hl h2
      omega
  have locB' : ∀ i B, i < H0.length → locB (E.cut H w H0.length) i B = locB E i B := by
    intro i B hi
    cases B <;> simp [locB, Env.cut, hi]
  have loc' : ∀ i b, loc (E.cut H w H0.length) H0 i = some b → i < H0.length ∧ loc E H i = some b := by
    intro i b hl
    unfold loc at hl ⊢
    cases hH : H0[i]? with
    | none => simp [hH] at hl
    | some B =>
      have hi : i < H0.length := (List.getElem?_eq_some_iff.1 hH).1
      rw [hH] at hl
      refine ⟨hi, ?_⟩
      rw [hget i hi, hH]
      simp only [Option.bind_some] at hl ⊢
      rw [← locB' i B hi]; exact hl
  constructor
  · refine ⟨fun i B hB => ?_, fun i g b h => (hφ' i g b h).1, fun i g b h => (hκ' i g b h).1, fun i n e sz hB g hg => ?_, fun i i' b h1 h2 => hs.inj i i' b (loc' i b h1).2 (loc' i' b h2).2, fun b o v hv => ?_⟩
    · have hi : i < H0.length := (List.getElem?_eq_some_iff.1 hB).1
      have hB0 := hs0.blk i B hB
      have hB1 := hs.blk i B (by rw [hget i hi]; exact hB)
      have hl1 : ∀ b, locB E i B = some b → loc E H i = some b := fun b hb => by unfold loc; rw [hget i hi, hB]; exact hb
      cases B with
      | dead => trivial
      | cel g cells =>
        obtain ⟨b, cs, t, h1, h2, h3, h4⟩ := hB1
        obtain ⟨b0, cs0, t0, k1, k2, k3, k4⟩ := hB0
        refine ⟨b, cs, t, hφ _ _ _ hi h1, h2, ⟨h3.1, fun j c v hc hv => ?_⟩, fun o => by rw [hIkeep i b hi (hl1 b h1)]; exact h4 o⟩
        obtain ⟨v0, _, hv0⟩ := k3.get hc
        exact (h3.2 j c v hc hv).cut hφ hκ hI (hv0.rl hs0.dom)
      | tok n e sz =>
        obtain ⟨b, cap, cs, h1, h2, h3, h4, h5, h6, h7⟩ := hB1
        exact ⟨b, cap, cs, hφ _ _ _ hi h1, hκ _ _ _ hi h2, h3, h4, h5, h6, fun o ho => by rw [hIkeep i b hi (hl1 b h1)]; exact h7 o ho⟩
      | map es =>
        obtain ⟨b, en, ck, h1, h2, h3, h4⟩ := hB1
        obtain ⟨b0, en0, ck0, k1, k2, k3, k4⟩ := hB0
        refine ⟨b, en, ck, hφ _ _ _ hi h1, h2, h3, fun j k v hj => ?_⟩
        obtain ⟨e, q1, q2, q3⟩ := h4 j k v hj
        obtain ⟨e0, r1, r2, r3⟩ := k4 j k v hj
        exact ⟨e, q1, q2.cut hφ hκ hI (r2.rl hs0.dom), q3.cut hφ hκ hI (r3.rl hs0.dom)⟩
      | iter s pos =>
        obtain ⟨b, h1, h2⟩ := hB1
        exact ⟨b, hφ _ _ _ hi h1, h2⟩
    · have hi : i < H0.length := (List.getElem?_eq_some_iff.1 hB).1
      obtain ⟨h1, h2⟩ := hs.late i n e sz (by rw [hget i hi]; exact hB) g hg
      exact ⟨by simp [Env.cut, h1], by simp [Env.cut, h2]⟩
    · simp only [Env.cut] at hv
      cases hx : E.I b o with
      | some u => rw [hx] at hv; simp only [Option.some.injEq] at hv; subst hv; exact hs.imm _ _ _ hx
      | none =>
        rw [hx] at hv
        simp only [] at hv
        split at hv
        · exact hv
        · cases hv
  · refine ⟨hle, st.os, st.tape, st.output, st.size, st.frame, fun b ⟨i, hi⟩ => st.own b ⟨i, (loc' i b hi).2⟩, fun b o hb ho => ?_⟩
    rw [← st.imm b o hb ho]
    simp only [Env.cut]
    cases hx : E.I b o with
    | some v => rfl
    | none =>
      simp only []
      rw [if_neg]
      rintro ⟨id, h1, h2⟩
      rcases st.own b ⟨id, h2⟩ with h3 | h3
      · exact ho h3
      · omega
theorem imm_rl {E : Env} {n : Nat} {x : AVal} {v : Value} (h : VRel E x v) : isImm x = true → RL n x := by
  induction h with
  | undef v => intro h; simp [isImm] at h
  | bool b => exact fun _ => .bool b
  | int k i => exact fun _ => .int k i
  | str s => exact fun _ => .str s
  | nilp => exact fun _ => .nilp
  | ptr h => intro h; simp [isImm] at h
  | cptr f hI hm hv ih => exact fun _ => .cptr fun i c hc => ih i c hc (hm i c hc)
  | sl0 ht ha hs =>
    rename_i tk a cap
    intro h
    exact .sl (fun t e => by subst e; simp [isImm] at h) (fun i e j c h => by simp at h)
  | sl f hl hI hm hv hc ht ih =>
    rename_i es tk b o s cap
    intro h
    exact .sl (fun t e => by subst e; simp [isImm] at h) (fun i e j c h1 h2 => ih i e j c h1 h2 (hm i e j c h1 h2))
  | ms _ _ _ _ _ => intro h; simp [isImm] at h
  | fn _ _ _ => intro h; simp [isImm] at h
  | nilfn => exact fun _ => .nilfn
  | mp _ => intro h; simp [isImm] at h
  | nilmap => exact fun _ => .nilmap
  | iface _ _ => intro h; simp [isImm] at h
  | nilif => exact fun _ => .nilif
  | agg _ _ _ => intro h; simp [isImm] at h
  | tup _ _ _ => intro h; simp [isImm] at h
theorem all_mem {p : AVal → Bool} {l : List AVal} (h : l.all p = true) {c : AVal} (hc : c ∈ l) : p c = true := List.all_eq_true.1 h c hc
/-- A value that is handed back. -/
theorem frz_ok {E : Env} {H : AHeap} {w : World} {n : Nat} (hs : Sim E H w) :
    ∀ d, (∀ x x' v, frz H n d x = some x' → VRel E x v → VRel (E.cut H w n) x' v) ∧ (∀ xs xs' vs, frzL H n d xs = some xs' → VRels E xs vs → VRels (E.cut H w n) xs' vs) := by
  have hI : ∀ b o v, E.I b o = some v → (E.cut H w n).I b o = some v := fun b o v h => by simp [Env.cut, h]
  have hφ : ∀ id g b, id < n → E.φ id g = some b → (E.cut H w n).φ id g = some b := fun id g b h1 h2 => by simp [Env.cut, h1, h2]
  have hκ : ∀ id g b, id < n → E.κ id g = some b → (E.cut H w n).κ id g = some b := fun id g b h1 h2 => by simp [Env.cut, h1, h2]
  intro d
  induction d with
  | zero => exact ⟨fun x x' v h => by simp [frz] at h, fun x x' v h => by simp [frzL] at h⟩
  | succ d ih =>
    obtain ⟨ih1, ih2⟩ := ih
    constructor
    · intro x x' v h hx
      have plain : RL n x → x' = x → VRel (E.cut H w n) x' v := fun h1 h2 => by rw [h2]; exact hx.cut hφ hκ hI h1
      cases x with
      | undef => simp [frz] at h
      | ptr id g off =>
        simp only [frz] at h
        split at h
        · rename_i hid; injection h with h; exact plain (.ptr hid) h.symm
        · cases h
      | mp id =>
        simp only [frz] at h
        split at h
        · rename_i hid; injection h with h; exact plain (.mp hid) h.symm
        · cases h
      | ms id g off len cap sz ex =>
        simp only [frz] at h
        split at h
        · rename_i hid; injection h with h; exact plain (.ms hid) h.symm
        · rename_i hid
          cases hg : getCells H id g with
          | none => simp [hg] at h
          | some cs =>
            simp only [hg, Option.bind_some] at h
            split at h
            · rename_i hle
              cases hf : frzL H n d ((cs.drop off).take (len * sz)) with
              | none => simp [hf] at h
              | some cs' =>
                simp only [hf, Option.bind_some] at h
                split at h
                · rename_i him
                  injection h with h; subst h
                  obtain ⟨hH, b, vs, t, q1, q2, q3, q4⟩ := getCells_rel hs hg
                  have hrel := ih2 _ _ ((vs.toList.drop off).take (len * sz)) hf ((q3.drop off).take (len * sz))
                  have hl' : cs'.length = len * sz := by
                    rw [hrel.1, ← ((q3.drop off).take (len * sz)).1, List.length_take, List.length_drop]; omega
                  obtain ⟨k1, k2⟩ := chunk_flat sz len cs' hl'
                  have k3 := chunk_len sz len cs'
                  cases hx with
                  | ms p1 p2 p3 p4 p5 =>
                    rename_i off' cap' b'
                    rw [q1] at p1; cases p1
                    have hto : TokRel (E.cut H w n) (if (ex && decide (cap = len)) = true then .tight else .no) (some ⟨b, off', none⟩) len cap' := by
                      split
                      · rename_i hc
                        simp only [Bool.and_eq_true, decide_eq_true_eq] at hc
                        show cap' = len
                        rw [p4 hc.1]; exact hc.2
                      · trivial
                    have hloc : loc E H id = some b := by unfold loc; rw [hH]; exact q1
                    have hIc : ∀ o u, w.cell? ⟨b, o, none⟩ = some u → (E.cut H w n).I b o = some u := by
                      intro o u hu
                      simp only [Env.cut, q4 o]
                      rw [if_pos ⟨id, by omega, hloc⟩]; exact hu
                    have hif : (if ex = true ∧ cap = len then Tok.tight else Tok.no) = (if (ex && decide (cap = len)) = true then .tight else .no) := by
                      simp
                    rw [hif]
                    by_cases hz : len = 0
                    · subst hz
                      have : chunk sz 0 cs' = [] := rfl
                      rw [this]
                      exact .sl0 hto (fun h => by cases h) (fun ad h => by cases h; rfl)
                    · have key : ∀ (i j : Nat) (e : List AVal) (c : AVal), (chunk sz len cs')[i]? = some e → e[j]? = some c → ∃ u, (E.cut H w n).I b (off' + (i * sz + j)) = some u ∧ VRel (E.cut H w n) c u ∧ isImm c = true := by
                        intro i j e c h1 h2
                        have h3 := flatten_get _ i j e c k2 h1 h2
                        rw [k1] at h3
                        obtain ⟨u, h4, h5⟩ := hrel.get h3
                        refine ⟨u, hIc _ _ ?_, h5, all_mem him (List.mem_of_getElem? h3)⟩
                        rw [cell_of_cells q2, p5 (by omega)]
                        have := take_get h4
                        rw [List.getElem?_drop] at this
                        simpa using this
                      have := VRel.sl (E := E.cut H w n) (es := chunk sz len cs') (b := b) (o := off') (s := sz) (cap := cap') (fun i j => ((E.cut H w n).I b (off' + (i * sz + j))).getD undef) (fun i e h => k2 e (List.mem_of_getElem? h)) (fun i j hi hj => ?_)
                        (fun i e j c h1 h2 => (key i j e c h1 h2).elim fun _ h => h.2.2) (fun i e j c h1 h2 => ?_) (by rw [k3]; omega) (by rw [k3]; exact hto)
                      · rw [k3] at this; exact this
                      · have hxl := k2 _ (List.getElem_mem hi)
                        obtain ⟨u, h1, _⟩ := key i j _ _ (List.getElem?_eq_getElem hi) (List.getElem?_eq_getElem (show j < ((chunk sz len cs')[i]).length by omega))
                        rw [h1]; rfl
                      · obtain ⟨u, h3, h4, _⟩ := key i j e c h1 h2
                        rw [h3]; exact h4
                · cases h
            · cases h
      | sl es tk =>
        cases tk with
        | own t =>
          simp only [frz] at h
          have him : isImm (.sl es .no) = true := rfl
          have hno : VRel E (.sl es .no) v := by
            cases hx with
            | sl0 ht ha hsp => exact .sl0 trivial ha hsp
            | sl f hl hI' hm hv hc ht => exact .sl f hl hI' hm hv hc trivial
          have hrl : RL n (.sl es .no) := imm_rl hno him
          split at h
          · rename_i ht
            injection h with h
            refine plain ?_ h.symm
            cases hrl with
            | sl _ hr => exact .sl (fun t' e => by cases e; exact ht) hr
          · injection h with h; subst h
            exact hno.cut hφ hκ hI hrl
        | no => simp only [frz, Option.some.injEq] at h; exact plain (imm_rl hx rfl) h.symm
        | tight => simp only [frz, Option.some.injEq] at h; exact plain (imm_rl hx rfl) h.symm
      | fn f caps =>
        simp only [frz] at h
        cases hf : frzL H n d caps with
        | none => simp [hf] at h
        | some caps' =>
          simp only [hf, Option.map_some, Option.some.injEq] at h
          subst h
          cases hx with
          | fn hn hv =>
            rename_i vs
            have := ih2 _ _ vs.toList hf ⟨by simpa using hn, fun i c v h1 h2 => hv i c v h1 (by simpa using h2)⟩
            exact .fn (by simpa using this.1) fun i c v h1 h2 => this.2 i c v h1 (by simpa using h2)
      | iface t y =>
        simp only [frz] at h
        cases hf : frz H n d y with
        | none => simp [hf] at h
        | some y' =>
          simp only [hf, Option.map_some, Option.some.injEq] at h
          subst h
          obtain ⟨u, rfl, hu⟩ := hx.iface_inv
          exact .iface (ih1 _ _ _ hf hu)
      | agg cs =>
        simp only [frz] at h
        cases hf : frzL H n d cs with
        | none => simp [hf] at h
        | some cs' =>
          simp only [hf, Option.map_some, Option.some.injEq] at h
          subst h
          obtain ⟨vs, rfl, hv⟩ := hx.agg_cells
          exact .agg_of (ih2 _ _ _ hf hv)
      | tup cs =>
        simp only [frz] at h
        cases hf : frzL H n d cs with
        | none => simp [hf] at h
        | some cs' =>
          simp only [hf, Option.map_some, Option.some.injEq] at h
          subst h
          obtain ⟨vs, rfl, hv⟩ := hx.tup_cells
          exact .tup_of (ih2 _ _ _ hf hv)
      | _ => simp only [frz, Option.some.injEq] at h; exact plain (imm_rl hx rfl) h.symm
    · intro xs
      induction xs with
      | nil =>
        intro xs' vs h hv
        simp only [frzL, Option.some.injEq] at h
        subst h
        have : vs = [] := List.eq_nil_of_length_eq_zero (by rw [← hv.1]; rfl)
        subst this; exact .nil _
      | cons x xs ihx =>
        intro xs' vs h hv
        cases vs with
        | nil => have := hv.1; simp at this
        | cons v vs =>
          simp only [frzL] at h
          cases hf : frz H n d x with
          | none => simp [hf] at h
          | some x' =>
            simp only [hf, Option.bind_some] at h
            cases hr : frzL H n (d + 1) xs with
            | none => simp [hr] at h
            | some r' =>
              simp only [hr, Option.map_some, Option.some.injEq] at h
              subst h
              exact .cons (ih1 _ _ _ hf hv.head) (ihx _ _ hr hv.tail)
end
end Go.Gm
