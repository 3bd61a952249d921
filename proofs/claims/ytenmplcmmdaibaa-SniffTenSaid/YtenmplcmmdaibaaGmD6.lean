/- Conversions; aggregates and slices that are built. -/
import Derived.Test.YtenmplcmmdaibaaGmD5
import Derived.Laws.BytesArg
import Derived.Laws.IdiomStrings
import Derived.Laws.Tables
import Derived.Great.FillDense
import Derived.Great.BuildSlice
namespace Go.Gm
set_option linter.unusedVariables false
set_option linter.unusedSimpArgs false
section
variable {C : Cfg} {E : Env} {H : AHeap} {w : World}
theorem VRel.one {x : AVal} {v : Value} (h : VRel E x v) (hs : x.isScal = true) : v.oneCell' = true ∧ v.cells = #[v] := by
  cases h <;> first | exact ⟨rfl, rfl⟩ | simp [AVal.isScal] at hs
theorem isImm_scal {x : AVal} (h : isImm x = true) : x.isScal = true := by
  cases x <;> first | rfl | simp [isImm] at h
theorem acells_rel {x : AVal} {v : Value} {cs : List AVal} (h : VRel E x v) (hc : x.acells = some cs) : VRels E cs v.cells.toList ∧ ∀ c ∈ cs, c.isScal = true := by
  unfold AVal.acells at hc
  split at hc
  · rename_i cs'
    split at hc
    · rename_i hall
      injection hc with hc; subst hc
      obtain ⟨vs, rfl, hv⟩ := h.agg_cells
      exact ⟨hv, by simpa using hall⟩
    · cases hc
  · cases hc
  · cases hc
  · rename_i h1 h2 h3
    injection hc with hc; subst hc
    have hs : x.isScal = true := by
      cases x <;> first | rfl | exact absurd rfl h2 | exact absurd rfl (h1 _) | exact absurd rfl (h3 _)
    rw [(h.one hs).2]
    exact ⟨.cons h (.nil E), by simpa using hs⟩
theorem putN_rel {cs : List AVal} {vs : Array Value} {xs : List AVal} {us : Array Value} {o n : Nat} (h : VRels E cs vs.toList) (k : VRels E xs us.toList) (hn : xs.length = n) (hle : o + n ≤ cs.length) :
    VRels E (putN cs o n xs) ((us.toList.zipIdx 0).foldl (fun cs (x : Value × Nat) => cs.setIfInBounds (o + x.2) x.1) vs).toList := by
  obtain ⟨h1, h2⟩ := Great.foldl_set o us.toList 0 vs
  have e1 : cs.length = vs.size := by simpa using h.1
  have e2 : xs.length = us.size := by simpa using k.1
  revert h1 h2
  generalize (us.toList.zipIdx 0).foldl (fun cs (x : Value × Nat) => cs.setIfInBounds (o + x.2) x.1) vs = F
  intro h1 h2
  have e3 : F.toList.length = vs.size := by simpa using h1
  refine ⟨by rw [e3]; unfold putN; simp; omega, fun i c v hc hv => ?_⟩
  rw [Array.getElem?_toList, h2 i] at hv
  unfold putN at hc
  rw [List.append_assoc, List.getElem?_append] at hc
  split at hc
  · rename_i hi
    rw [List.length_take] at hi
    rw [if_neg (by simp; omega)] at hv
    rw [List.getElem?_take_of_lt (by omega)] at hc
    exact h.2 i c v hc (by simpa using hv)
  · rename_i hi
    rw [List.length_take, Nat.min_eq_left (by omega)] at hi hc
    rw [List.getElem?_append] at hc
    split at hc
    · rename_i hi2
      rw [if_pos (by simp; omega)] at hv
      exact k.2 _ c v hc (by simpa using hv)
    · rename_i hi2
      rw [if_neg (by simp; omega)] at hv
      rw [List.getElem?_drop] at hc
      rw [show o + n + (i - o - xs.length) = i from by omega] at hc
      exact h.2 i c v hc (by simpa using hv)
theorem putN_scal {cs xs : List AVal} {o n : Nat} (h : ∀ c ∈ cs, c.isScal = true) (k : ∀ c ∈ xs, c.isScal = true) : ∀ c ∈ putN cs o n xs, c.isScal = true := by
  intro c hc
  unfold putN at hc
  rcases List.mem_append.1 hc with hc | hc
  · rcases List.mem_append.1 hc with hc | hc
    · exact h c (List.mem_of_mem_take hc)
    · exact k c hc
  · exact h c (List.mem_of_mem_drop hc)
theorem fill_rel {place : Nat → Option (Nat × Nat)} {r : Operand → AVal} {ρ : Operand → Value} (hr : ∀ x, VRel E (r x) (ρ x)) :
    ∀ (parts : List (Nat × Operand)) (ps : List (Nat × Nat × AVal)) (cs cs' : List AVal) (vs : Array Value), placeA place r parts = some ps → fillA cs ps = some cs' → VRels E cs vs.toList →
      ∃ vs' : Array Value, Instr.fill place vs (parts.map fun p => (p.1, ρ p.2)) = some vs' ∧ VRels E cs' vs'.toList
  | [], ps, cs, cs', vs, h1, h2, h3 => by
    simp only [placeA, Option.some.injEq] at h1; subst h1
    simp only [fillA, Option.some.injEq] at h2; subst h2
    exact ⟨vs, rfl, h3⟩
  | p :: parts, ps, cs, cs', vs, h1, h2, h3 => by
    simp only [placeA] at h1
    cases hp : place p.1 with
    | none => simp [hp] at h1
    | some x =>
      cases hq : placeA place r parts with
      | none => simp [hp, hq] at h1
      | some qs =>
        simp only [hp, hq, Option.bind_some, Option.map_some, Option.some.injEq] at h1
        subst h1
        simp only [fillA] at h2
        cases hc : (r p.2).acells with
        | none => simp [hc] at h2
        | some us =>
          simp only [hc, Option.bind_some] at h2
          split at h2
          · rename_i hle
            obtain ⟨k1, k2⟩ := acells_rel (hr p.2) hc
            have e1 : us.length = (ρ p.2).cells.size := by simpa using k1.1
            have e2 : cs.length = vs.size := by simpa using h3.1
            obtain ⟨vs', g1, g2⟩ := fill_rel hr parts qs _ cs' _ hq h2 (putN_rel h3 k1 hle.1 hle.2)
            refine ⟨vs', ?_, g2⟩
            simp only [List.map_cons, Instr.fill, hp]
            rw [if_neg (by simp; omega)]
            rw [← g1]
            congr 1
            rw [← Array.foldl_toList, Array.toList_zipIdx]
          · cases h2
theorem zero_rel (z : Value) : VRels E (z.cells.toList.map abs0) z.cells.toList := by
  have := VRels.map (E := E) z.cells.toList abs0 id (fun x _ => abs0_rel E x)
  simpa using this
theorem build_ok {t : TypeId} {parts : Array (Nat × Operand)} {r : Operand → AVal} {ρ : Operand → Value} {z : AVal} (hr : ∀ x, VRel E (r x) (ρ x)) (h : ((partsA C.P t r parts).bind fun ps => buildA (zeroT C.P t) ps) = some z) :
    PureOk E C.P w (Instr.build t (parts.map fun p => (p.1, ρ p.2))) z := by
  cases hp : partsA C.P t r parts with
  | none => simp [hp] at h
  | some ps =>
    simp only [hp, Option.bind_some, buildA] at h
    cases hi : C.P.info? t with
    | none => simp [zeroT, hi] at h
    | some it =>
      cases hz : it.zero with
      | none => simp [zeroT, hi, hz] at h
      | some z0 =>
        have hzT : zeroT C.P t = some (z0.cells.toList.map abs0) := by simp [zeroT, hi, hz]
        simp only [hzT, Option.bind_some] at h
        split at h
        · cases hf : fillA (z0.cells.toList.map abs0) ps with
          | none => simp [hf] at h
          | some cs' =>
            simp only [hf, Option.map_some, Option.some.injEq] at h
            subst h
            unfold partsA at hp
            split at hp
            · rename_i fs hu
              cases hpl : fs.toList.mapM (fun f => (C.P.info? f.type).map fun i => (f.offset, i.size)) with
              | none => simp [hpl] at hp
              | some places =>
                simp only [hpl, Option.bind_some] at hp
                obtain ⟨vs', g1, g2⟩ := fill_rel hr parts.toList ps _ cs' z0.cells hp hf (zero_rel z0)
                refine ⟨_, run_build w t _ vs' ?_, .agg_of g2⟩
                unfold Program.built
                simp only [hi, hu, hz, hpl]
                rw [← g1]
                simp
            · rename_i n e hu
              cases hie : C.P.info? e with
              | none => simp [hie] at hp
              | some ie =>
                simp only [hie, Option.bind_some] at hp
                obtain ⟨vs', g1, g2⟩ := fill_rel hr parts.toList ps _ cs' z0.cells hp hf (zero_rel z0)
                refine ⟨_, run_build w t _ vs' ?_, .agg_of g2⟩
                unfold Program.built
                simp only [hi, hu, hz, hie]
                rw [← g1]
                simp
            · cases hp
        · cases h
end
end Go.Gm
