/- Slices that are laid whole and fixed; conversions. -/
import Derived.Test.YtenmplcmmdaibaaGmD6
namespace Go.Gm
set_option linter.unusedVariables false
set_option linter.unusedSimpArgs false
theorem flatten_get {α : Type} {s : Nat} : ∀ (es : List (List α)) (i j : Nat) (e : List α) (c : α), (∀ x ∈ es, x.length = s) → es[i]? = some e → e[j]? = some c → es.flatten[i * s + j]? = some c
  | [], i, j, e, c, _, h, _ => by simp at h
  | x :: es, 0, j, e, c, hl, h, hc => by
    simp at h; subst h
    rw [List.flatten_cons, List.getElem?_append_left (by have := (List.getElem?_eq_some_iff.1 hc).1; omega)]
    simpa using hc
  | x :: es, i + 1, j, e, c, hl, h, hc => by
    have hx : x.length = s := hl x (by simp)
    rw [List.flatten_cons, List.getElem?_append_right (by rw [hx, Nat.add_mul]; omega), hx]
    rw [show (i + 1) * s + j - s = i * s + j by rw [Nat.add_mul]; omega]
    exact flatten_get es i j e c (fun y hy => hl y (by simp [hy])) (by simpa using h) hc
theorem flatten_len {α : Type} {s : Nat} : ∀ (es : List (List α)), (∀ x ∈ es, x.length = s) → es.flatten.length = es.length * s
  | [], _ => by simp
  | x :: es, hl => by
    rw [List.flatten_cons, List.length_append, hl x (by simp), flatten_len es (fun y hy => hl y (by simp [hy])), List.length_cons, Nat.add_mul]; omega
section
variable {C : Cfg} {E : Env} {H : AHeap} {w : World}
theorem immC_rel {c : AVal} {v : Value} (h : VRel E c v) : VRel E (immC c) v := by
  cases c with
  | sl es tk =>
    cases tk with
    | own t =>
      cases h with
      | sl0 ht ha hs => exact .sl0 trivial ha hs
      | sl f hl hI hm hv hc ht => exact .sl f hl hI hm hv hc trivial
    | _ => exact h
  | _ => exact h
/-- The environment in which block b is fixed. -/
theorem setI_le {b : Nat} (hs : Sim E H w) (hb : w.heap.size ≤ b) (f : Nat → Option Value) : E.le (E.setI b f) := by
  refine ⟨fun _ _ _ h => h, fun _ _ _ h => h, fun b' o v h => ?_⟩
  have : b' ≠ b := fun e => by have := hs.imm_lt h; omega
  simp [Env.setI, this, h]
/-- A row that is laid and fixed. -/
theorem Sim.fixed (hs : Sim E H w) (n : Nat) (us : Array Value) (e : TypeId) (fr : Nat × Nat) :
    let w' : World := { (w.alloc (.cells us e fr)) with drawn := n }
    let E' := E.setI w.heap.size (us[·]?)
    Sim E' H w' ∧ Step E H w E' H w' := by
  intro w' E'
  have hnew : w'.heap[w.heap.size]? = some (.cells us e fr) := by simp [w', World.alloc, -World.alloc_eq]
  refine hs.ext (setI_le hs (Nat.le_refl _) _) (fun _ _ _ h => h) (fun _ _ _ h => h) (fun b hb => ?_) (fun b hb => ?_) (fun b o v hv hb => ?_) rfl rfl rfl (by simp [w', World.alloc, -World.alloc_eq])
  · show (w.heap.push _)[b]? = _
    rw [Array.getElem?_push, if_neg (by omega)]
  · funext o
    simp [E', Env.setI, show b ≠ w.heap.size from by omega]
  · by_cases e' : b = w.heap.size
    · subst e'
      rw [cell_of_cells hnew]
      simpa [E', Env.setI] using hv
    · simp only [E', Env.setI, if_neg e'] at hv
      have := hs.imm_lt hv; omega
theorem fixed_rel {b cap : Nat} {es : List (List AVal)} {tk : Tok} {us : Array Value} {s : Nat} {E' : Env} (hle : E.le E') (hE : ∀ o v, us[o]? = some v → E'.I b o = some v) (hl : ∀ x ∈ es, x.length = s) (him : ∀ x ∈ es, ∀ c ∈ x, isImm c = true)
    (hv : ∀ (k : Nat) (c : AVal), es.flatten[k]? = some c → ∃ u, us[k]? = some u ∧ VRel E c u) (hc : es.length ≤ cap) (ht : tk = .no ∨ (tk = .tight ∧ cap = es.length)) :
    VRel E' (.sl es tk) (.slice (some ⟨b, 0, none⟩) es.length cap) := by
  have key : ∀ (i j : Nat) (e : List AVal) (c : AVal), es[i]? = some e → e[j]? = some c → ∃ u, us[i * s + j]? = some u ∧ VRel E c u := fun i j e c h1 h2 => hv _ _ (flatten_get es i j e c hl h1 h2)
  refine .sl (s := s) (fun i j => (us[i * s + j]?).getD undef) (fun i e h => hl e (List.mem_of_getElem? h)) (fun i j hi hj => ?_) (fun i e j c h1 h2 => him e (List.mem_of_getElem? h1) c (List.mem_of_getElem? h2)) (fun i e j c h1 h2 => ?_) hc ?_
  · have hx := hl _ (List.getElem_mem hi)
    obtain ⟨u, h1, _⟩ := key i j es[i] (es[i][j]'(by omega)) (List.getElem?_eq_getElem hi) (List.getElem?_eq_getElem (by omega))
    rw [Nat.zero_add, hE _ _ h1, h1]; rfl
  · obtain ⟨u, h3, h4⟩ := key i j e c h1 h2
    rw [h3]; exact h4.mono hle
  · rcases ht with rfl | ⟨rfl, h⟩
    · trivial
    · exact h
theorem seq_rel {sz : Nat} : ∀ (xs : List AVal) (vs : List Value) (es : List (List AVal)), VRels E xs vs → seqCells sz xs = some es →
    es.length = xs.length ∧ (∀ x ∈ es, x.length = sz) ∧ (∀ x ∈ es, ∀ c ∈ x, isImm c = true) ∧ (∀ v ∈ vs, v.cells.size = sz) ∧ VRels E es.flatten (vs.flatMap fun v => v.cells.toList)
  | [], [], es, hv, h => by simp only [seqCells, Option.some.injEq] at h; subst h; exact ⟨rfl, by simp, by simp, by simp, .nil E⟩
  | [], _ :: _, es, hv, h => by have := hv.1; simp at this
  | _ :: _, [], es, hv, h => by have := hv.1; simp at this
  | x :: xs, v :: vs, es, hv, h => by
    simp only [seqCells] at h
    cases hc : x.acells with
    | none => simp [hc] at h
    | some cs =>
      simp only [hc, Option.bind_some] at h
      split at h
      · rename_i hcs
        cases hr : seqCells sz xs with
        | none => simp [hr] at h
        | some es' =>
          simp only [hr, Option.map_some, Option.some.injEq] at h
          subst h
          obtain ⟨h1, h2, h3, h4, h5⟩ := seq_rel xs vs es' hv.tail hr
          obtain ⟨k1, _⟩ := acells_rel hv.head hc
          have e1 : cs.length = v.cells.size := by simpa using k1.1
          refine ⟨by simp [h1], ?_, ?_, ?_, ?_⟩
          · intro y hy
            rcases List.mem_cons.1 hy with rfl | hy
            · simpa using hcs.1
            · exact h2 y hy
          · intro y hy c hcy
            rcases List.mem_cons.1 hy with rfl | hy
            · exact (List.all_eq_true.1 hcs.2) c hcy
            · exact h3 y hy c hcy
          · intro u hu
            rcases List.mem_cons.1 hu with rfl | hu
            · omega
            · exact h4 u hu
          · rw [List.flatten_cons, List.flatMap_cons]
            refine VRels.append ⟨by simpa using k1.1, fun i c u h6 h7 => ?_⟩ h5
            rw [List.getElem?_map] at h6
            cases hci : cs[i]? with
            | none => simp [hci] at h6
            | some c' => simp [hci] at h6; subst h6; exact immC_rel (k1.2 i c' u hci h7)
      · cases h
theorem zip_range (xs : List (Nat × Operand)) (n : Nat) (h : xs.map (·.1) = List.range n) (ρ : Operand → Value) : xs.map (fun p => (p.1, ρ p.2)) = ((xs.map fun p => ρ p.2).zipIdx 0).map fun x => (x.2, x.1) := by
  apply List.ext_getElem?
  intro i
  rw [List.getElem?_map, List.getElem?_map, List.getElem?_zipIdx, List.getElem?_map]
  cases hx : xs[i]? with
  | none => simp
  | some p =>
    have hi : i < xs.length := (List.getElem?_eq_some_iff.1 hx).1
    have : (xs.map (·.1))[i]? = some p.1 := by rw [List.getElem?_map, hx]; rfl
    rw [h, List.getElem?_range (by have := congrArg List.length h; simp at this; omega)] at this
    simp at this
    simp [this]
theorem buildSlice_ok {t e : TypeId} {d : TypeDesc} {len : Nat} {parts : Array (Nat × Operand)} {r : Operand → AVal} {ρ : Operand → Value} {z : AVal} (hu : C.P.underlying t = some (.slice e)) (hd : C.P.underlying e = some d) (hz : (C.P.info? e).bind (·.zero) ≠ none) (hz1 : ∀ zz, (C.P.info? e).bind (·.zero) = some zz → zz.cells.size = sizeT C.P e) (hs : Sim E H w) (hr : ∀ x, VRel E (r x) (ρ x)) (hp : parts.toList.map (·.1) = List.range len) (hpos : 0 < sizeT C.P e) (hsm : len * sizeT C.P e ≤ 16777216)
    (h : buildSl (sizeT C.P e) (parts.toList.map fun p => r p.2) = some z) :
    ∃ v w' E', (Instr.buildSlice t len (parts.map fun p => (p.1, ρ p.2))).run C.P w = .ok v w' ∧ VRel E' z v ∧ Sim E' H w' ∧ Step E H w E' H w' := by
  unfold buildSl at h
  cases hsq : seqCells (sizeT C.P e) (parts.toList.map fun p => r p.2) with
  | none => simp [hsq] at h
  | some es =>
    simp only [hsq, Option.map_some, Option.some.injEq] at h
    subst h
    have hvr : VRels E (parts.toList.map fun p => r p.2) (parts.toList.map fun p => ρ p.2) := VRels.map _ _ _ (fun x _ => hr x.2)
    obtain ⟨h1, h2, h3, h4, h5⟩ := seq_rel _ _ es hvr hsq
    have hlen : es.length = len := by
      have := congrArg List.length hp
      simp at this h1; omega
    obtain ⟨i, hi, hsz⟩ := info_of_underlying hd
    have fin : ∀ us : Array Value, us = ((parts.toList.map fun p => ρ p.2).flatMap fun v => v.cells.toList).toArray →
        (Instr.buildSlice t len (parts.map fun p => (p.1, ρ p.2))).run C.P w = .ok (.slice (some ⟨w.heap.size, 0, none⟩) len len) (w.alloc (.cells us e)) →
        ∃ v w' E', (Instr.buildSlice t len (parts.map fun p => (p.1, ρ p.2))).run C.P w = .ok v w' ∧ VRel E' (.sl es .tight) v ∧ Sim E' H w' ∧ Step E H w E' H w' := by
      intro us hus hrun
      obtain ⟨k1, k2⟩ := hs.fixed w.drawn us e (0, 0)
      refine ⟨_, _, _, hrun, ?_, k1, k2⟩
      have := fixed_rel (E := E) (b := w.heap.size) (cap := len) (tk := .tight) (us := us) k2.le (fun o v ho => by simp [Env.setI, ho]) h2 h3 (fun k c hk => ?_) (by omega) (.inr ⟨rfl, hlen.symm⟩)
      · rw [hlen] at this; exact this
      · obtain ⟨u, g1, g2⟩ := h5.get hk
        exact ⟨u, by rw [hus]; simpa using g1, g2⟩
    cases hzz : i.zero with
    | none => simp [hi, hzz] at hz
    | some zz =>
      have hzs := hz1 zz (by simp [hi, hzz])
      by_cases h0 : len = 0
      · subst h0
        have hnil : parts.toList = [] := by
          have := congrArg List.length hp
          simp at this; simpa using this
        have hpe : parts = #[] := by cases parts; simp_all
        refine fin #[] (by simp [hnil]) ?_
        subst hpe
        have hr0 : Array.range 0 = #[] := by apply Array.ext'; simp
        simp [Instr.buildSlice, run_underlying hu, sizeOf, typeInfo, hi, Instr.fill, newRow, hr0]
      · refine fin _ rfl (run_buildSlice w t e len _ _ i zz hu hi hzz ?_ ?_ ?_)
        · rw [hsz]; omega
        · rw [hsz]
          intro hm
          rcases Nat.mul_eq_zero.1 hm with h | h <;> omega
        · rw [hsz, Array.toList_map, zip_range _ _ hp]
          refine Great.fill_whole hpos _ _ h4 ?_
          have := congrArg List.length hp
          simp at this
          simp [this]
theorem bytesOf_rel {b o : Nat} (hs : Sim E H w) : ∀ (es : List (List AVal)) (l : List UInt8), bytesOf es = some l → ∃ xs : List Int, es = xs.map (fun n => [AVal.int .u8 n]) ∧ l = xs.map fun n => UInt8.ofNat n.toNat
  | [], l, h => by simp only [bytesOf, Option.some.injEq] at h; subst h; exact ⟨[], rfl, rfl⟩
  | e :: es, l, h => by
    unfold bytesOf at h
    split at h
    · rename_i h1; cases h1
    · rename_i n r h1
      cases h1
      cases hr : bytesOf es with
      | none => simp [hr] at h
      | some l' =>
        simp only [hr, Option.map_some, Option.some.injEq] at h
        subst h
        obtain ⟨xs, rfl, rfl⟩ := bytesOf_rel (b := b) (o := o) hs es l' hr
        exact ⟨n :: xs, rfl, rfl⟩
    · cases h
theorem bytesOfCells_rel : ∀ (es : List AVal) (l : List UInt8), bytesOfCells es = some l → ∃ xs : List Int, es = xs.map (fun n => AVal.int .u8 n) ∧ l = xs.map fun n => UInt8.ofNat n.toNat
  | [], l, h => by simp only [bytesOfCells, Option.some.injEq] at h; subst h; exact ⟨[], rfl, rfl⟩
  | e :: es, l, h => by
    unfold bytesOfCells at h
    split at h
    · rename_i h1; cases h1
    · rename_i n r h1
      cases h1
      cases hr : bytesOfCells es with
      | none => simp [hr] at h
      | some l' =>
        simp only [hr, Option.map_some, Option.some.injEq] at h
        subst h
        obtain ⟨xs, rfl, rfl⟩ := bytesOfCells_rel es l' hr
        exact ⟨n :: xs, rfl, rfl⟩
    · cases h
theorem toStr_ok {src dst e : TypeId} (h1 : C.P.underlying src = some (.slice e)) (h2 : C.P.underlying e = some (.int .u8)) (h3 : C.P.underlying dst = some .string) (hs : Sim E H w) {x z : AVal} {v : Value} (hx : VRel E x v) (h : convToStr x H = some z) :
    PureOk E C.P w (convert src dst v) z := by
  unfold convToStr at h
  split at h
  · rename_i es tk
    cases hb : bytesOf es with
    | none => simp [hb] at h
    | some l =>
      simp only [hb, Option.map_some, Option.some.injEq] at h
      subst h
      obtain ⟨xs, rfl, rfl⟩ := bytesOf_rel (b := 0) (o := 0) hs es l hb
      have e0 : strOfNums xs = ⟨(xs.map fun n => UInt8.ofNat n.toNat).toArray⟩ := rfl
      generalize hes : xs.map (fun n => [AVal.int .u8 n]) = es at hx
      cases hx with
      | sl0 ht ha hsp =>
        rename_i a cap
        have hxs : xs = [] := by simpa using hes
        subst hxs
        cases a with
        | none => exact ⟨_, run_convert_bytes_nil w src e h1 h2 _ _ dst h3, .str _⟩
        | some ad =>
          have := hsp ad rfl
          obtain ⟨b, o, sp⟩ := ad
          simp at this; subst this
          exact ⟨_, run_convert_bytes_arg w src e h1 h2 b o 0 cap [] rfl (fun i hi => by omega) dst h3, .str _⟩
      | sl f hl hI hm hv hc ht =>
        rename_i b o s cap
        have hlen : es.length = xs.length := by rw [← hes]; simp
        refine ⟨_, run_convert_bytes_arg w src e h1 h2 b o es.length cap xs hlen.symm (fun i hi => ?_) dst h3, .str _⟩
        have hxi : i < xs.length := by omega
        have hei : es[i]? = some [AVal.int .u8 xs[i]] := by rw [← hes, List.getElem?_map, List.getElem?_eq_getElem hxi]; rfl
        have hs1 : s = 1 := by rw [← hl _ _ hei]; rfl
        subst hs1
        have hc' := hs.imm _ _ _ (hI i 0 hi (by omega))
        have hv' := (hv i _ 0 _ hei rfl).int_inv
        rw [hv'] at hc'
        simp only [Nat.mul_one, Nat.add_zero] at hc'
        rw [hc']
        simp [List.getD, List.getElem?_eq_getElem hxi]
  · rename_i id g off len cap sz ex
    split at h
    · cases hg : getCells H id g with
      | none => simp [hg] at h
      | some cs =>
        simp only [hg, Option.bind_some] at h
        split at h
        · rename_i hle
          cases hb : bytesOfCells ((cs.drop off).take len) with
          | none => simp [hb] at h
          | some l =>
            simp only [hb, Option.map_some, Option.some.injEq] at h
            subst h
            obtain ⟨xs, hxs, rfl⟩ := bytesOfCells_rel _ l hb
            obtain ⟨_, b, vs, t, q1, q2, q3, _⟩ := getCells_rel hs hg
            have hlen : xs.length = len := by
              have := congrArg List.length hxs
              simp at this; omega
            cases hx with
            | ms p1 p2 p3 p4 p5 =>
              rename_i off' cap' b'
              rw [q1] at p1; cases p1
              refine ⟨_, run_convert_bytes_arg w src e h1 h2 b off' len cap' xs hlen (fun i hi => ?_) dst h3, .str _⟩
              rw [p5 (by omega)]
              have hxi : i < xs.length := by omega
              have hci : cs[off + i]? = some (.int .u8 xs[i]) := by
                have : ((cs.drop off).take len)[i]? = some (.int .u8 xs[i]) := by rw [hxs, List.getElem?_map, List.getElem?_eq_getElem hxi]; rfl
                have := take_get this
                rwa [List.getElem?_drop] at this
              obtain ⟨u, r1, r2⟩ := q3.get hci
              rw [cell_of_cells q2]
              rw [r2.int_inv] at r1
              simpa [List.getD, List.getElem?_eq_getElem hxi] using r1
        · cases h
    · cases h
  · cases h
end
end Go.Gm
