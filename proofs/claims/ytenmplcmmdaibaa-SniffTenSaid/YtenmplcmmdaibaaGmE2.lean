/- Operations that act: stores, walks over strings, maps, panics, calls. -/
import Derived.Test.YtenmplcmmdaibaaGmE1
namespace Go.Gm
set_option linter.unusedVariables false
set_option linter.unusedSimpArgs false
def EndRel (E : Env) : Res → Ending → Prop
  | .ret x, .returned v => VRel E x v
  | .pan x, .panicked chain => ∃ v, chain = [{ v, recovered := false }] ∧ VRel E x v
  | _, _ => False
/-- A called function, or a row of the model's own in its place. -/
def CallTo (P : Program) (g : FuncId) (vs : Array Value) (w : World) (R : Ending → World → Prop) : Prop :=
  ((callFunc g vs).run P w = .ok (.enter g vs) w ∧ Calls P g vs w R) ∨ ∃ v w', (callFunc g vs).run P w = .ok (.value v) w' ∧ R (.returned v) w'
/-- The package-level variables that read as something fixed. -/
def GlobOk (G : Glob) (E : Env) : Prop := ∀ g cs, G g = some cs → VRel E (.cptr cs 0) (.pointer (some ⟨g, 0, none⟩))
theorem GlobOk.mono {G : Glob} {E E' : Env} (h : GlobOk G E) (hle : E.le E') : GlobOk G E' := fun g cs hg => (h g cs hg).mono hle
def CallA (P : Program) (G : Glob) (g : FuncId) (args : List AVal) (H : AHeap) (res : Res) (H' : AHeap) : Prop :=
  ∀ (E : Env) (w : World) (vs : Array Value), GlobOk G E → Sim E H w → VRels E args vs.toList → CallTo P g vs w fun e w' => ∃ E', EndRel E' res e ∧ Sim E' H' w' ∧ Step E H w E' H' w'
def OrcOk (P : Program) (G : Glob) (orc : Orc) : Prop := ∀ g args H res H', orc g args H = some (res, H') → CallA P G g args H res H'
section
variable {C : Cfg} {E : Env} {H : AHeap} {w : World}
theorem heap_setCells (b : Nat) : ∀ (vs : List Value) (o : Nat) (w : World) (x : Nat), x ≠ b → (w.setCells b o vs).heap[x]? = w.heap[x]?
  | [], _, _, _, _ => rfl
  | v :: r, o, w, x, h => by
    rw [World.setCells, heap_setCells b r (o + 1) _ x h]
    simp [World.setCell, Array.getElem?_modify, Ne.symm h]
theorem setCells_frame (b : Nat) : ∀ (vs : List Value) (o : Nat) (w : World), (w.setCells b o vs).os = w.os ∧ (w.setCells b o vs).tape = w.tape ∧ (w.setCells b o vs).output = w.output ∧ (w.setCells b o vs).heap.size = w.heap.size
  | [], _, _ => ⟨rfl, rfl, rfl, rfl⟩
  | v :: r, o, w => by
    obtain ⟨h1, h2, h3, h4⟩ := setCells_frame b r (o + 1) (w.setCell ⟨b, o, none⟩ v)
    rw [World.setCells, h1, h2, h3, h4]
    exact ⟨rfl, rfl, rfl, by simp [World.setCell]⟩
theorem setCells_block (b : Nat) (t : TypeId) (fr : Nat × Nat) : ∀ (vs : List Value) (o : Nat) (w : World) (cs : Array Value), w.heap[b]? = some (.cells cs t fr) → ∃ cs' : Array Value, (w.setCells b o vs).heap[b]? = some (.cells cs' t fr) ∧ cs'.size = cs.size
  | [], _, w, cs, h => ⟨cs, h, rfl⟩
  | v :: r, o, w, cs, h => by
    have h1 : (w.setCell ⟨b, o, none⟩ v).heap[b]? = some (.cells (cs.setIfInBounds o v) t fr) := by
      simp [World.setCell, Array.getElem?_modify, h]
    obtain ⟨cs', h2, h3⟩ := setCells_block b t fr r (o + 1) _ _ h1
    exact ⟨cs', by rw [World.setCells]; exact h2, by rw [h3]; simp⟩
theorem storeVar_ok {t : TypeId} (hz : sizeT C.P t ≠ 0) {b o : Nat} {v : Value} {cs : Array Value} {tt : TypeId} (hb : w.heap[b]? = some (.cells cs tt (0, 0))) (hn : v.cells.size = sizeT C.P t) (hle : o + v.cells.size ≤ cs.size) (h1 : ∀ u ∈ v.cells.toList, u.oneCell' = true) :
    (Instr.storeAt t (.pointer (some ⟨b, o, none⟩)) v).run C.P w = .ok () (w.setCells b o v.cells.toList) := by
  have hs := run_storeCells_cells (P := C.P) b o v.cells.toList 0 w (fun j hj => by rw [cell_of_cells hb]; simp at hj; simp; omega)
    (fun j hj => by simp [World.frozen?, hb]) h1
  simp only [Nat.add_zero] at hs
  simp only [Instr.storeAt, Instr.sureAddr, Sem.run_bind, Sem.run_pure, Result.andThen_ok, storeVar, run_sizeOf' hz, hn, ne_eq, not_true_eq_false, if_false, hs]
theorem store_ok (hs : Sim E H w) {t : TypeId} (hz : sizeT C.P t ≠ 0) {x y : AVal} {u v : Value} {H' : AHeap} (hx : VRel E x u) (hy : VRel E y v) (h : storeA (sizeT C.P t) x y H = some H') :
    ∃ w', (Instr.storeAt t u v).run C.P w = .ok () w' ∧ Sim E H' w' ∧ Step E H w E H' w' := by
  unfold storeA at h
  split at h
  · rename_i id g o
    cases hc : getCells H id g with
    | none => simp [hc] at h
    | some cs =>
      simp only [hc, Option.bind_some] at h
      cases ha : y.acells with
      | none => simp [ha] at h
      | some ys =>
        simp only [ha, Option.bind_some] at h
        split at h
        · rename_i hle
          injection h with h; subst h
          obtain ⟨hH, b, vs, tt, h1, h2, h3, h4⟩ := getCells_rel hs hc
          obtain ⟨b', h5, rfl⟩ := hx.ptr_inv
          rw [h1] at h5; cases h5
          obtain ⟨k1, k2⟩ := acells_rel hy ha
          have e1 : ys.length = v.cells.size := by simpa using k1.1
          have e2 : cs.length = vs.size := by simpa using h3.1
          have hone : ∀ q ∈ v.cells.toList, q.oneCell' = true := by
            intro q hq
            obtain ⟨i, hi, hqi⟩ := List.getElem_of_mem hq
            have hi' : i < ys.length := by rw [k1.1]; exact hi
            exact ((k1.2 i ys[i] q (List.getElem?_eq_getElem hi') (by rw [List.getElem?_eq_getElem hi, hqi])).one (k2 _ (List.getElem_mem hi'))).1
          refine ⟨_, storeVar_ok hz h2 (by omega) (by omega) hone, ?_⟩
          obtain ⟨cs', q1, q2⟩ := setCells_block b tt (0, 0) v.cells.toList o w vs h2
          obtain ⟨f1, f2, f3, f4⟩ := setCells_frame b v.cells.toList o w
          have hcell : ∀ i, cs'[i]? = if o ≤ i ∧ i < o + v.cells.size then v.cells[i - o]? else vs[i]? := by
            intro i
            rw [← cell_of_cells q1 i]
            split
            · rename_i hi
              have := World.cell?_setCells_in b v.cells.toList o w (fun j hj => by rw [cell_of_cells h2]; simp at hj; simp; omega) (i - o) (by simp; omega)
              rw [show o + (i - o) = i from by omega] at this
              rw [this]
              simp [show i - o < v.cells.size from by omega]
            · rename_i hi
              rw [World.cell?_setCells_out b v.cells.toList o w ⟨b, i, none⟩ (fun _ _ => by simp; omega), cell_of_cells h2]
          refine hs.upd hH (.refl E) ⟨b, cs', tt, h1, q1, ⟨?_, fun i c q hc hq => ?_⟩, h4⟩ (fun _ _ _ _ h => h) (fun _ _ _ _ h => h) (fun x hx hne => heap_setCells b _ _ _ _ (fun e => hne (by rw [e]; exact h1))) (fun _ _ _ => rfl)
            (fun x oo vv hv hcase => ?_) (fun x hx => .inl hx) (fun n e sz hB => by cases hB) f1 f2 f3 (by omega)
          · have e3 : cs'.toList.length = vs.size := by simpa using q2
            rw [e3]; unfold putN; simp; omega
          · rw [Array.getElem?_toList, hcell i] at hq
            unfold putN at hc
            rw [List.append_assoc, List.getElem?_append] at hc
            split at hc
            · rename_i hi
              rw [List.length_take] at hi
              rw [if_neg (by omega)] at hq
              rw [List.getElem?_take_of_lt (by omega)] at hc
              exact h3.2 i c q hc (by simpa using hq)
            · rename_i hi
              rw [List.length_take, Nat.min_eq_left (by omega)] at hi hc
              rw [List.getElem?_append] at hc
              split at hc
              · rename_i hi2
                rw [if_pos (by omega)] at hq
                exact k1.2 _ c q hc (by simpa using hq)
              · rename_i hi2
                rw [if_neg (by omega)] at hq
                rw [List.getElem?_drop, show o + sizeT C.P t + (i - o - ys.length) = i from by omega] at hc
                exact h3.2 i c q hc (by simpa using hq)
          · rcases hcase with hcase | hcase
            · have := hs.imm_lt hv; omega
            · simp only [locB] at hcase
              rw [h1] at hcase; cases hcase
              rw [h4] at hv; cases hv
        · cases h
  · cases h
theorem range_ok (hs : Sim E H w) {t : TypeId} {x z : AVal} {v : Value} {H' : AHeap} (hu : C.P.underlying t = some .string) (hx : VRel E x v) (h : rangeA x H = some (z, H')) :
    ∃ u w' E', (Instr.range t v).run C.P w = .ok u w' ∧ VRel E' z u ∧ Sim E' H' w' ∧ Step E H w E' H' w' := by
  unfold rangeA at h
  split at h
  · rename_i s
    injection h with h
    simp only [Prod.mk.injEq] at h
    obtain ⟨rfl, rfl⟩ := h
    rw [hx.str_inv]
    have hno : ∀ g x, E.φ H.length g = some x → False := fun g x hx => by have := hs.dom _ _ _ hx; omega
    have hle : E.le (E.setφ H.length 0 w.heap.size) := by
      refine ⟨fun i g x hx => ?_, fun _ _ _ h => h, fun _ _ _ h => h⟩
      have : ¬ (i = H.length ∧ g = 0) := fun ⟨e1, e2⟩ => hno g x (e1 ▸ hx)
      simp [Env.setφ, this, hx]
    refine ⟨.pointer (some ⟨w.heap.size, 0, none⟩), w.alloc (.stringIter ⟨s.toArray⟩ 0), E.setφ H.length 0 w.heap.size, ?_, .ptr (by simp [Env.setφ]), ?_⟩
    · simp [Instr.range, Sem.run_bind, run_underlying hu, Result.andThen_ok, newObj, Sem.run, -World.alloc_eq, World.alloc]
    · refine hs.push hle ⟨w.heap.size, by simp [Env.setφ], World.heap_new w _⟩ (fun i g b hi hb => by simpa [Env.setφ, hi] using hb) (fun _ _ _ _ h => h) (fun b hb => World.heap_old w _ hb) (fun _ _ => rfl) (fun b o v hv hb => by have := hs.imm_lt hv; omega)
        (fun b hb => by simp [locB, Env.setφ] at hb; omega) (fun n e sz hB => by cases hB) rfl rfl rfl (by simp [World.alloc, -World.alloc_eq])
  · cases h
theorem next_ok (hs : Sim E H w) {ty : TypeId} {x z : AVal} {v : Value} {H' : AHeap} (hx : VRel E x v) (h : nextA x H = some (z, H')) :
    ∃ u w', (Instr.next v true ty).run C.P w = .ok u w' ∧ VRel E z u ∧ Sim E H' w' ∧ Step E H w E H' w' := by
  unfold nextA at h
  split at h
  · rename_i id
    split at h
    · rename_i s pos hH
      obtain ⟨b, h1, rfl⟩ := hx.ptr_inv
      obtain ⟨b', h2, h3⟩ := hs.blk id _ hH
      rw [h1] at h2; cases h2
      have hget : ∀ (k : Obj → Sem Value), (Sem.bind (getObj b) k).run C.P w = (k (.stringIter ⟨s.toArray⟩ pos)).run C.P w := by
        intro k
        simp [getObj, Sem.bind, Sem.run, h3]
      split at h
      · rename_i hlt
        injection h with h
        simp only [Prod.mk.injEq] at h
        obtain ⟨rfl, rfl⟩ := h
        have hbl : b < w.heap.size := (Array.getElem?_eq_some_iff.1 h3).1
        refine ⟨.tuple #[.bool true, goInt pos, .int .i32 (Utf8.decode ⟨s.toArray⟩ pos).1], { w with heap := w.heap.setIfInBounds b (.stringIter ⟨s.toArray⟩ (pos + (Utf8.decode ⟨s.toArray⟩ pos).2)) }, ?_, ?_, ?_⟩
        · unfold Instr.next
          simp only [bind]
          erw [hget]
          simp only [size_mk, hlt, if_true]
          simp [setObj, Sem.bind, Sem.run, h3, bind]
        · exact .tup_of (.cons (.bool true) (.cons (.int _ _) (.cons (.int _ _) (.nil E))))
        · refine hs.upd hH (.refl E) ⟨b, h1, by simp [hbl]⟩ (fun _ _ _ _ h => h) (fun _ _ _ _ h => h) (fun y hy hne => ?_) (fun _ _ _ => rfl) (fun y o vv hv hcase => ?_) (fun y hy => .inl hy) (fun n e sz hB => by cases hB) rfl rfl rfl (by simp)
          · have : b ≠ y := fun e => hne (by rw [← e]; exact h1)
            simp [Array.getElem?_setIfInBounds_ne this]
          · exfalso
            rcases hcase with hcase | hcase
            · have := hs.imm_lt hv; omega
            · simp only [locB] at hcase
              rw [h1] at hcase; cases hcase
              have := hs.imm _ _ _ hv
              simp [World.cell?, h3] at this
      · rename_i hlt
        injection h with h
        simp only [Prod.mk.injEq] at h
        obtain ⟨rfl, rfl⟩ := h
        refine ⟨.tuple #[.bool false], w, ?_, .tup_of (.cons (.bool false) (.nil E)), hs, .refl _ _ _⟩
        unfold Instr.next
        simp only [bind]
        erw [hget]
        simp [size_mk, hlt]
    · cases h
  · cases h
end
end Go.Gm
