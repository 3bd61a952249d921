/- Regions that draw their order: what stands ahead of what; the road of the canonical order. -/
import Derived.Test.YtenmplcmmdaibaaGmF5
namespace Go.Gm
set_option linter.unusedVariables false
set_option linter.unusedSimpArgs false
theorem inner_bits (acc : Array Nat) (i : Nat) : ∀ (es : List Edge) (s : Nat), (es.foldl (fun s e => if Region.binds .any e then s ||| 2 ^ e.on ||| acc.getD e.on 0 else s) s).testBit i = true →
    s.testBit i = true ∨ ∃ e ∈ es, Region.binds .any e = true ∧ (i = e.on ∨ (acc.getD e.on 0).testBit i = true)
  | [], s, h => .inl h
  | e :: es, s, h => by
    simp only [List.foldl_cons] at h
    rcases inner_bits acc i es _ h with h1 | ⟨e', h1, h2⟩
    · split at h1
      · rename_i hb
        rw [Nat.testBit_or, Nat.testBit_or, Bool.or_eq_true, Bool.or_eq_true] at h1
        rcases h1 with (h1 | h1) | h1
        · exact .inl h1
        · refine .inr ⟨e, by simp, hb, .inl ?_⟩
          rw [Nat.testBit_two_pow] at h1
          exact (of_decide_eq_true h1).symm
        · exact .inr ⟨e, by simp, hb, .inr h1⟩
      · exact .inl h1
    · exact .inr ⟨e', by simp [h1], h2⟩
theorem before_list : ∀ (l : List Oper), let acc := l.foldl (fun (acc : Array Nat) o => acc.push (o.after.foldl (fun s e => if Region.binds .any e then s ||| 2 ^ e.on ||| acc.getD e.on 0 else s) 0)) #[]
    acc.size = l.length ∧ ∀ j i, (acc.getD j 0).testBit i = true → ∃ o, l[j]? = some o ∧ ∃ e ∈ o.after, Region.binds .any e = true ∧ (i = e.on ∨ (e.on < j ∧ (acc.getD e.on 0).testBit i = true)) := by
  suffices hrev : ∀ (l : List Oper), let acc := l.reverse.foldl (fun (acc : Array Nat) o => acc.push (o.after.foldl (fun s e => if Region.binds .any e then s ||| 2 ^ e.on ||| acc.getD e.on 0 else s) 0)) #[]
      acc.size = l.reverse.length ∧ ∀ j i, (acc.getD j 0).testBit i = true → ∃ o, l.reverse[j]? = some o ∧ ∃ e ∈ o.after, Region.binds .any e = true ∧ (i = e.on ∨ (e.on < j ∧ (acc.getD e.on 0).testBit i = true)) by
    intro l
    have := hrev l.reverse
    rwa [List.reverse_reverse] at this
  intro l
  induction l with
  | nil => exact ⟨rfl, fun j i h => by simp at h⟩
  | cons o l' ih =>
    rw [List.reverse_cons]
    generalize l'.reverse = l at ih ⊢
    simp only [List.foldl_append, List.foldl_cons, List.foldl_nil] at ih ⊢
    generalize l.foldl (fun (acc : Array Nat) o => acc.push (o.after.foldl (fun s e => if Region.binds .any e then s ||| 2 ^ e.on ||| acc.getD e.on 0 else s) 0)) #[] = acc at ih ⊢
    obtain ⟨ih1, ih2⟩ := ih
    have hget : ∀ (v j : Nat), j < acc.size → (acc.push v).getD j 0 = acc.getD j 0 := fun v j hj => by
      rw [Array.getD_eq_getD_getElem?, Array.getD_eq_getD_getElem?, Array.getElem?_push, if_neg (by omega)]
    refine ⟨by simp [ih1], fun j i h => ?_⟩
    rcases Nat.lt_trichotomy j acc.size with hj | hj | hj
    · rw [hget _ j hj] at h
      obtain ⟨o', h1, e, h2, h3, h4⟩ := ih2 j i h
      refine ⟨o', by rw [List.getElem?_append_left (by omega)]; exact h1, e, h2, h3, ?_⟩
      rcases h4 with h4 | ⟨h4, h5⟩
      · exact .inl h4
      · exact .inr ⟨h4, by rw [hget _ e.on (by omega)]; exact h5⟩
    · subst hj
      refine ⟨o, by rw [ih1, List.getElem?_append_right (Nat.le_refl _)]; simp, ?_⟩
      rw [Array.getD_eq_getD_getElem?, Array.getElem?_push, if_pos rfl, Option.getD_some, ← Array.foldl_toList] at h
      rcases inner_bits acc i _ 0 h with h1 | ⟨e, h1, h2, h3⟩
      · simp at h1
      · refine ⟨e, by simpa using h1, h2, ?_⟩
        rcases h3 with h3 | h3
        · exact .inl h3
        · have hlt : e.on < acc.size := by
            rcases Nat.lt_or_ge e.on acc.size with hlt | hge
            · exact hlt
            · rw [Array.getD_eq_getD_getElem?, Array.getElem?_eq_none hge] at h3
              simp at h3
          exact .inr ⟨hlt, by rw [hget _ _ hlt]; exact h3⟩
    · rw [Array.getD_eq_getD_getElem?, Array.getElem?_push, if_neg (by omega), Array.getElem?_eq_none (by omega)] at h
      simp at h
theorem before_spec {ops : Array Oper} {i j : Nat} (h : ((Region.before ops).getD j 0).testBit i = true) :
    ∃ o, ops[j]? = some o ∧ ∃ e ∈ o.after, Region.binds .any e = true ∧ (i = e.on ∨ (e.on < j ∧ ((Region.before ops).getD e.on 0).testBit i = true)) := by
  unfold Region.before at h ⊢
  rw [← Array.foldl_toList] at h ⊢
  obtain ⟨o, h1, h2⟩ := (before_list ops.toList).2 j i h
  exact ⟨o, by simpa using h1, h2⟩
/-- What all direct edges of j lead to is done, and so on: all that stands ahead of j is done. -/
theorem before_done {ops : Array Oper} {S : Nat → Prop} (hS : ∀ j o, S j → ops[j]? = some o → ∀ e ∈ o.after, Region.binds .any e = true → S e.on) :
    ∀ (j i : Nat), (∀ o, ops[j]? = some o → ∀ e ∈ o.after, Region.binds .any e = true → S e.on) → ((Region.before ops).getD j 0).testBit i = true → S i := by
  intro j
  induction j using Nat.strongRecOn with
  | _ j ih =>
    intro i hj h
    obtain ⟨o, h1, e, h2, h3, h4⟩ := before_spec h
    have hs := hj o h1 e h2 h3
    rcases h4 with rfl | ⟨h4, h5⟩
    · exact hs
    · exact ih e.on h4 i (fun o' ho' e' he' hb' => hS e.on o' hs ho' e' he' hb') h5

/-! ### What an operation looks at -/
section
variable {C : Cfg} {H : AHeap} {r r' : Operand → AVal}
theorem placeA_congr {place : Nat → Option (Nat × Nat)} : ∀ (ps : List (Nat × Operand)), (∀ p ∈ ps, r p.2 = r' p.2) → placeA place r ps = placeA place r' ps
  | [], _ => rfl
  | p :: ps, h => by simp only [placeA]; rw [h p (by simp), placeA_congr ps fun q hq => h q (by simp [hq])]
theorem map_congr_mem {α β : Type} {f g : α → β} {l : List α} (h : ∀ x ∈ l, f x = g x) : l.map f = l.map g := List.map_congr_left h
theorem stepR_congr {op : Op} (h : ∀ x ∈ op.operands, r x = r' x) : stepR C op r H = stepR C op r' H := by
  cases op with
  | build t parts =>
    have hp : ∀ p ∈ parts.toList, r p.2 = r' p.2 := fun p hp => h p.2 (by simp [Op.operands]; exact ⟨p.1, by simpa using hp⟩)
    simp only [stepR, partsA]
    split
    · rename_i fs _
      cases hx : fs.toList.mapM (fun f => (C.P.info? f.type).map fun i => (f.offset, i.size)) with
      | none => rfl
      | some places => simp only [Option.bind_some]; rw [placeA_congr _ hp]
    · rename_i n e _
      cases hx : C.P.info? e with
      | none => rfl
      | some i => simp only [Option.bind_some]; rw [placeA_congr _ hp]
    · rfl
  | buildSlice t len parts =>
    have hp : ∀ p ∈ parts.toList, r p.2 = r' p.2 := fun p hp => h p.2 (by simp [Op.operands]; exact ⟨p.1, by simpa using hp⟩)
    simp only [stepR]
    rw [map_congr_mem (f := fun p : Nat × Operand => r p.2) hp]
  | makeFunc fn first caps =>
    have hp : ∀ p ∈ caps.toList, r p = r' p := fun p hp => h p (by simp [Op.operands]; exact .inr (by simpa using hp))
    simp only [stepR]
    rw [map_congr_mem hp]
  | slice t x lo hi mx =>
    have hx := h x (by simp [Op.operands])
    have hl : lo.map r = lo.map r' := by cases lo with | none => rfl | some y => simp [h y (by simp [Op.operands])]
    have hh : hi.map r = hi.map r' := by cases hi with | none => rfl | some y => simp [h y (by simp [Op.operands])]
    have hm : mx.map r = mx.map r' := by cases mx with | none => rfl | some y => simp [h y (by simp [Op.operands])]
    simp only [stepR, hx, hl, hh, hm]
  | call c =>
    have hp : ∀ p ∈ c.args.toList, r p = r' p := fun p hp => h p (by simp [Op.operands, Call.operands]; exact .inr (by simpa using hp))
    simp only [stepR]
    generalize c.args.toList = args at hp
    split <;> first | rfl | skip
    · rw [hp _ (by simp)]
    · rw [hp _ (by simp)]
    · rename_i tl x xs hq
      rw [hp x (by simp), map_congr_mem (l := xs) (f := r) (g := r') fun y hy => hp y (by simp [hy])]
    · rename_i tl x xs hq
      rw [hp x (by simp), map_congr_mem (l := xs) (f := r) (g := r') fun y hy => hp y (by simp [hy])]
  | _ => simp [Op.operands] at h; simp [stepR, h]
theorem stepA_congr {op : Op} (h : ∀ x ∈ op.operands, r x = r' x) : stepA C op r H = stepA C op r' H := by
  cases op with
  | makeMap t x =>
    cases x with
    | none => rfl
    | some y =>
      have hy := h y (by simp [Op.operands])
      cases hu : C.P.underlying t with
      | none => simp [stepA, hu]
      | some d => cases d <;> simp [stepA, hu, hy]
  | _ => simp [Op.operands] at h; simp [stepA, h]
theorem stepE_congr {op : Op} (h : ∀ x ∈ op.operands, r x = r' x) : stepE C op r H = stepE C op r' H := by
  cases op with
  | call c =>
    have hp : ∀ p ∈ c.args.toList, r p = r' p := fun p hp => h p (by simp [Op.operands, Call.operands]; exact .inr (by simpa using hp))
    simp only [stepE]
    split
    · generalize c.args.toList = args at hp
      split <;> first | rfl | skip
      rename_i x y t ty _
      rw [hp x (by simp), hp y (by simp)]
    · rename_i f hf
      rw [h f (by simp [Op.operands, Call.operands, hf]), map_congr_mem hp]
    · rfl
  | _ => simp [Op.operands] at h; simp [stepE, h]
theorem stepR_blind {op : Op} (h : readsH op = false) (H' : AHeap) : stepR C op r H = stepR C op r H' := by
  cases op <;> first | rfl | simp [readsH] at h
theorem getCells_mono {id g : Nat} {cs : List AVal} (p : AHeap) (h : getCells H id g = some cs) : getCells (H ++ p) id g = some cs := by
  unfold getCells at h ⊢
  cases hx : H[id]? with
  | none => simp [hx] at h
  | some B =>
    rw [List.getElem?_append_left (List.getElem?_eq_some_iff.1 hx).1, hx]
    rw [hx] at h; exact h
theorem loadA_mono {a : Bool} {sz : Nat} {x z : AVal} (p : AHeap) (h : loadA a sz x H = some z) : loadA a sz x (H ++ p) = some z := by
  cases x <;> first | exact h | skip
  rename_i id g o
  simp only [loadA] at h ⊢
  cases hg : getCells H id g with
  | none => simp [hg] at h
  | some cs => rw [getCells_mono p hg]; rw [hg] at h; exact h
theorem convToStr_mono {x z : AVal} (p : AHeap) (h : convToStr x H = some z) : convToStr x (H ++ p) = some z := by
  cases x <;> first | exact h | skip
  rename_i id g off len cap sz ex
  simp only [convToStr] at h ⊢
  split at h
  · rename_i hz
    rw [if_pos hz]
    cases hg : getCells H id g with
    | none => simp [hg] at h
    | some cs => rw [getCells_mono p hg]; rw [hg] at h; exact h
  · cases h
theorem lookupA_mono {zz : Option AVal} {ok : Bool} {m k z : AVal} (p : AHeap) (h : lookupA zz ok m k H = some z) : lookupA zz ok m k (H ++ p) = some z := by
  unfold lookupA at h ⊢
  cases zz with
  | none => simp at h
  | some z0 =>
    simp only [Option.bind_some] at h ⊢
    cases hc : k.acells with
    | none => simp [hc] at h
    | some kc =>
      simp only [hc, Option.bind_some] at h ⊢
      cases m <;> first | exact h | skip
      rename_i id
      simp only [] at h ⊢
      cases hH : H[id]? with
      | none => simp [hH] at h
      | some B =>
        rw [List.getElem?_append_left (List.getElem?_eq_some_iff.1 hH).1, hH]
        rw [hH] at h; exact h
theorem stepR_mono {op : Op} {z : AVal} (p : AHeap) (h : stepR C op r H = some z) : stepR C op r (H ++ p) = some z := by
  cases op with
  | load t x =>
    simp only [stepR] at h ⊢
    split
    · rename_i hk; rw [if_pos hk] at h; cases h
    · rename_i hk
      rw [if_neg hk] at h
      exact loadA_mono p h
  | convert src dst x =>
    simp only [stepR, convA] at h ⊢
    split at h <;> first | exact h | skip
    split at h
    · rename_i hk
      rw [if_pos hk]
      exact convToStr_mono p h
    · cases h
  | lookup t m k ok =>
    simp only [stepR] at h ⊢
    split at h
    · split at h
      · rename_i kt e hu hk
        rw [if_pos hk]
        exact lookupA_mono p h
      · cases h
    · cases h
  | _ => exact h
end
end Go.Gm
