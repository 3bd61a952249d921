/- The reading operations of the abstract machine are the model's. -/
import Derived.Test.YtenmplcmmdaibaaGmD
import Derived.Laws.IdiomCopy
import Derived.Laws.Append
namespace Go.Gm
set_option linter.unusedVariables false
set_option linter.unusedSimpArgs false

theorem add_plain (b o n : Nat) : (⟨b, o, none⟩ : Addr).add n = ⟨b, o + n, none⟩ := by unfold Addr.add; split <;> simp_all

theorem info_of_size {P : Program} {t : TypeId} (h : sizeT P t ≠ 0) : ∃ i, P.info? t = some i ∧ i.size = sizeT P t := by
  unfold sizeT at h ⊢
  cases hi : P.info? t with
  | none => simp [hi] at h
  | some i => exact ⟨i, rfl, by simp⟩
theorem run_sizeOf' {P : Program} {t : TypeId} (h : sizeT P t ≠ 0) (w : World) : (sizeOf t).run P w = .ok (sizeT P t) w := by
  obtain ⟨i, h1, h2⟩ := info_of_size h
  simp [sizeOf, typeInfo, h1, h2, program, Sem.run_bind, Sem.run, Result.andThen]
theorem info_of_underlying {P : Program} {t : TypeId} {d : TypeDesc} (h : P.underlying t = some d) : ∃ i, P.info? t = some i ∧ i.size = sizeT P t := by
  unfold Program.underlying at h
  unfold sizeT
  cases hi : P.info? t with
  | none => simp [hi] at h
  | some i => exact ⟨i, rfl, by simp⟩
theorem run_sizeOf_u {P : Program} {t : TypeId} {d : TypeDesc} (h : P.underlying t = some d) (w : World) : (sizeOf t).run P w = .ok (sizeT P t) w := by
  obtain ⟨i, h1, h2⟩ := info_of_underlying h
  simp [sizeOf, typeInfo, h1, h2, program, Sem.run_bind, Sem.run, Result.andThen]
theorem run_isAgg {P : Program} {t : TypeId} {d : TypeDesc} (h : P.underlying t = some d) (w : World) : (isAgg t).run P w = .ok (isAggT P t) w := by
  unfold isAgg isAggT
  rw [h]
  simp only [Sem.run_bind, run_underlying h, Result.andThen_ok]
  cases d <;> simp

/-- Cells of one block, in a row. -/
def RowAt (w : World) (b o : Nat) (vs : List Value) : Prop := ∀ (j : Nat) (v : Value), vs[j]? = some v → w.cell? ⟨b, o + j, none⟩ = some v
theorem run_loadVar_row' {P : Program} {t : TypeId} {d : TypeDesc} (hu : P.underlying t = some d) (w : World) (b o : Nat) (vs : List Value) (h : RowAt w b o vs) (hl : vs.length = sizeT P t) (ha : isAggT P t = true) :
    (loadVar t ⟨b, o, none⟩).run P w = .ok (.agg vs.toArray) w := by
  have h1 : (loadCells ⟨b, o, none⟩ vs.length).run P w = .ok vs.toArray w := run_loadCells_list (P := P) w ⟨b, o, none⟩ vs (fun j v hv => by rw [add_plain]; exact h j v hv)
  unfold loadVar
  simp only [Sem.run_bind, run_isAgg hu, Result.andThen_ok, ha, if_true, run_sizeOf_u hu, ← hl, h1, Sem.run_pure]
theorem run_loadVar_one {P : Program} {t : TypeId} {d : TypeDesc} (hu : P.underlying t = some d) (w : World) (a : Addr) (v : Value) (h : w.cell? a = some v) (ha : isAggT P t = false) : (loadVar t a).run P w = .ok v w := by
  unfold loadVar
  simp only [Sem.run_bind, run_isAgg hu, Result.andThen_ok, ha, Bool.false_eq_true, if_false]
  simp [load, Sem.run, h]

section
variable {C : Cfg} {E : Env} {H : AHeap} {w : World}
theorem getCells_rel (hs : Sim E H w) {id g : Nat} {cs : List AVal} (h : getCells H id g = some cs) :
    H[id]? = some (.cel g cs) ∧ ∃ b vs t, E.φ id g = some b ∧ w.heap[b]? = some (.cells vs t (0, 0)) ∧ VRels E cs vs.toList ∧ ∀ o, E.I b o = none := by
  unfold getCells at h
  split at h
  · rename_i g' cs' hH
    split at h
    · rename_i hg
      subst hg
      injection h with h; subst h
      exact ⟨hH, hs.blk id _ hH⟩
    · cases h
  · cases h
theorem cell_of_cells {b : Nat} {vs : Array Value} {t : TypeId} {fr : Nat × Nat} (h : w.heap[b]? = some (.cells vs t fr)) (o : Nat) : w.cell? ⟨b, o, none⟩ = vs[o]? := by
  unfold World.cell?; rw [h]; rfl
/-- What a pointer's cells are in the model: a row of related cells. -/
theorem cells_at (hs : Sim E H w) {x : AVal} {v : Value} (hx : VRel E x v) {cs : List AVal} {o : Nat}
    (h : (∃ id g, x = .ptr id g o ∧ getCells H id g = some cs) ∨ x = .cptr cs o) :
    ∃ b o', v = .pointer (some ⟨b, o' + o, none⟩) ∧ ∀ (j : Nat) (c : AVal), cs[o + j]? = some c → ∃ u, w.cell? ⟨b, o' + o + j, none⟩ = some u ∧ VRel E c u := by
  rcases h with ⟨id, g, rfl, hc⟩ | rfl
  · obtain ⟨_, b, vs, t, h1, h2, h3, _⟩ := getCells_rel hs hc
    obtain ⟨b', h4, h5⟩ := hx.ptr_inv
    rw [h1] at h4; cases h4
    refine ⟨b, 0, by simpa using h5, fun j c hj => ?_⟩
    obtain ⟨u, h6, h7⟩ := h3.get hj
    refine ⟨u, ?_, h7⟩
    rw [cell_of_cells h2]
    simpa using h6
  · cases hx with
    | cptr f hI hm hv =>
      rename_i b o'
      refine ⟨b, o', rfl, fun j c hj => ⟨f (o + j), ?_, hv _ _ hj⟩⟩
      have := hs.imm b _ _ (hI (o + j) (List.getElem?_eq_some_iff.1 hj).1)
      rw [← Nat.add_assoc] at this; exact this
theorem row_of_rel {b o : Nat} : ∀ (cs : List AVal), (∀ (j : Nat) (c : AVal), cs[j]? = some c → ∃ u, w.cell? ⟨b, o + j, none⟩ = some u ∧ VRel E c u) → ∃ vs : List Value, vs.length = cs.length ∧ RowAt w b o vs ∧ VRels E cs vs
  | [], _ => ⟨[], rfl, fun j v h => by simp at h, .nil E⟩
  | c :: cs, h => by
    obtain ⟨u, h1, h2⟩ := h 0 c rfl
    obtain ⟨vs, h3, h4, h5⟩ := row_of_rel (b := b) (o := o + 1) cs (fun j c' hj => by
      obtain ⟨u', h6, h7⟩ := h (j + 1) c' (by simpa using hj)
      exact ⟨u', by rw [← h6]; congr 2; omega, h7⟩)
    refine ⟨u :: vs, by simp [h3], fun j v hj => ?_, .cons h2 h5⟩
    cases j with
    | zero => simp at hj; subst hj; exact h1
    | succ j => simp at hj; rw [← h4 j v hj]; congr 2; omega
theorem load_ok {t : TypeId} {d : TypeDesc} (hu : C.P.underlying t = some d) (hs : Sim E H w) {x z : AVal} {v : Value} (hx : VRel E x v) (h : loadA (isAggT C.P t) (sizeT C.P t) x H = some z) :
    PureOk E C.P w (Instr.loadAt t v) z := by
  have key : ∃ cs o, ((∃ id g, x = .ptr id g o ∧ getCells H id g = some cs) ∨ x = .cptr cs o) ∧ (if isAggT C.P t = true then (if o + sizeT C.P t ≤ cs.length then some (AVal.agg ((cs.drop o).take (sizeT C.P t))) else none) else cs[o]?) = some z := by
    unfold loadA at h
    split at h
    · rename_i id g o
      cases hc : getCells H id g with
      | none => simp [hc] at h
      | some cs => rw [hc] at h; exact ⟨cs, o, .inl ⟨id, g, rfl, hc⟩, h⟩
    · rename_i cs o; exact ⟨cs, o, .inr rfl, h⟩
    · cases h
  obtain ⟨cs, o, hk, hz⟩ := key
  obtain ⟨b, o', rfl, hcells⟩ := cells_at hs hx hk
  have hrun : ∀ r, (loadVar t ⟨b, o' + o, none⟩).run C.P w = r → (Instr.loadAt t (.pointer (some ⟨b, o' + o, none⟩))).run C.P w = r := by
    intro r hr
    simp only [Instr.loadAt, Instr.sureAddr, Sem.run_bind, Sem.run_pure, Result.andThen_ok, hr]
  split at hz
  · rename_i ha
    split at hz
    · rename_i hle
      injection hz with hz; subst hz
      obtain ⟨vs, h1, h2, h3⟩ := row_of_rel (E := E) (w := w) (b := b) (o := o' + o) ((cs.drop o).take (sizeT C.P t)) (fun j c hj => by
        rw [List.getElem?_take] at hj
        split at hj
        · rw [List.getElem?_drop] at hj; exact hcells j c hj
        · cases hj)
      refine ⟨_, hrun _ (run_loadVar_row' hu w b _ vs h2 ?_ ha), .agg_of (by simpa using h3)⟩
      rw [h1, List.length_take, List.length_drop]; omega
    · cases hz
  · rename_i ha
    obtain ⟨u, h1, h2⟩ := hcells 0 z (by simpa using hz)
    exact ⟨u, hrun _ (run_loadVar_one hu w _ u (by simpa using h1) (by simpa using ha)), h2⟩
end
end Go.Gm
