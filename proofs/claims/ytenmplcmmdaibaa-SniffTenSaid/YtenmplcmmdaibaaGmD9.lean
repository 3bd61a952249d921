/- Each operation that reads, at most, is the model's: all of them. -/
import Derived.Test.YtenmplcmmdaibaaGmD8
namespace Go.Gm
set_option linter.unusedVariables false
set_option linter.unusedSimpArgs false
section
variable {C : Cfg} {E : Env} {H : AHeap} {w : World}
theorem orel {r : Operand → AVal} {ρ : Operand → Value} (hr : ∀ x, VRel E (r x) (ρ x)) (o : Option Operand) : ORel E (o.map r) (o.map ρ) := by
  cases o with
  | none => exact .inl ⟨rfl, rfl⟩
  | some x => exact .inr ⟨_, _, rfl, rfl, hr x⟩
theorem call_builtin {ρ : Operand → Value} {o : Oper} {c : Call} {b : Builtin} (ho : o.op = .call c) (hb : c.callee = .builtin b) :
    execOp ρ o = builtin b c.argTypes o.type (c.args.map fun | .const _ => true | _ => false) (c.args.map ρ) := by
  unfold execOp
  rw [ho]
  simp only [resolve, hb, pure_bind, invoke]
  rfl
theorem arr1 {α : Type} {a : Array α} {x : α} (h : a.toList = [x]) : a = #[x] := by cases a; simp_all
theorem arr2 {α : Type} {a : Array α} {x y : α} (h : a.toList = [x, y]) : a = #[x, y] := by cases a; simp_all
theorem value_bind {P : Program} {s : Sem Value} {v : Value} {w w' : World} (h : s.run P w = .ok v w') : (do pure (Next.value (← s)) : Sem Next).run P w = .ok (.value v) w' := by simp [Sem.run_bind, h, Result.andThen]
set_option maxHeartbeats 1000000 in
theorem stepR_ok (hC : EqOk C) (hM : MapOk C) (hs : Sim E H w) {r : Operand → AVal} {ρ : Operand → Value} (hr : ∀ x, VRel E (r x) (ρ x)) {o : Oper} {z : AVal} (h : stepR C o.op r H = some z) : ROk E H C.P w (execOp ρ o) z := by
  cases hop : o.op with
  | move x =>
    simp only [hop, stepR, Option.some.injEq] at h; subst h
    exact ⟨ρ x, w, E, by simp only [execOp, hop]; rfl, hr x, hs, .refl _ _ _⟩
  | assign x =>
    simp only [hop, stepR, Option.some.injEq] at h; subst h
    exact ⟨ρ x, w, E, by simp only [execOp, hop]; rfl, hr x, hs, .refl _ _ _⟩
  | pick c a b =>
    simp only [hop, stepR] at h
    obtain ⟨v, h1, h2⟩ := cond_ok (C := C) (w := w) (hr c) (hr a) (hr b) h
    refine ⟨v, w, E, ?_, h2, hs, .refl _ _ _⟩
    simp only [execOp, hop]
    simp only [Sem.run_bind] at h1 ⊢
    cases ha : (asBool (ρ c)).run C.P w with
    | ok b' w1 => rw [ha] at h1; simp only [Result.andThen_ok, Sem.run_pure, Result.ok.injEq] at h1 ⊢; rw [h1.1, h1.2]; exact ⟨rfl, rfl⟩
    | halt x w1 => rw [ha] at h1; simp [Result.andThen] at h1
  | load t x =>
    simp only [hop, stepR] at h
    split at h
    · cases h
    · rename_i hk
      obtain ⟨⟨d, hd⟩, _⟩ := okT_parts (P := C.P) (t := t) (by simpa using hk)
      have := ((load_ok hd hs (hr x) h).sok hs).rok
      simpa only [execOp, hop] using this
  | binOp op t x y yt =>
    simp only [hop, stepR] at h
    have := ((bin_ok (x := x) (y := y) hC hs (hr x) (hr y) h).sok hs).rok
    simpa only [execOp, hop] using this
  | unOp op t x =>
    simp only [hop, stepR] at h
    have := ((un_ok (C := C) (w := w) (hr x) h).sok hs).rok
    simpa only [execOp, hop] using this
  | convert src dst x =>
    simp only [hop, stepR] at h
    have := (conv_ok hs (hr x) h).rok
    simpa only [execOp, hop] using this
  | makeInterface t x =>
    simp only [hop, stepR] at h
    split at h
    · cases h
    · rename_i d hne hd
      have := ((iface_ok (C := C) (w := w) hd (fun m hm => hne m hm) (hr x) h).sok hs).rok
      simpa only [execOp, hop] using this
    · cases h
  | makeFunc fn first caps =>
    simp only [hop, stepR] at h
    split at h
    · rename_i f
      split at h
      · rename_i hf
        injection h with h; subst h
        obtain rfl : first = #[] := by simpa using hf
        refine ⟨.func (.func f) #[] (caps.map ρ), w, E, by simp [execOp, hop, Instr.makeFunc], .fn (by simp) (fun i c v h1 h2 => ?_), hs, .refl _ _ _⟩
        rw [List.getElem?_map] at h1
        rw [Array.getElem?_map] at h2
        rw [Array.getElem?_toList] at h1
        cases hc : caps[i]? with
        | none => simp [hc] at h1
        | some y => simp [hc] at h1 h2; subst h1; subst h2; exact hr y
      · cases h
    · cases h
  | slice t x lo hi mx =>
    simp only [hop, stepR] at h
    have key : SOk E H C.P w (Instr.sliceAt t (ρ x) (lo.map ρ) (hi.map ρ) (mx.map ρ)) z := by
      split at h
      · rename_i hu
        split at h
        · cases h
        · rename_i hmx
          cases mx with
          | some y => simp at hmx
          | none => exact (sliceStr_ok hu (hr x) (orel hr lo) (orel hr hi) h).sok hs
      · rename_i e hu
        split at h
        · cases h
        · rename_i hk
          have hk' : okT C.P e = true := by
            cases hq : okT C.P e
            · exact absurd (.inl (by simp [hq])) hk
            · rfl
          obtain ⟨⟨d, hd⟩, _⟩ := okT_parts hk'
          refine (sliceSl_ok hu hd (hr x) (fun hm => ?_) (orel hr lo) (orel hr hi) (orel hr mx) h).sok hs
          intro hh
          cases hi with
          | some y => simp at hh
          | none =>
            cases mx with
            | none => simp at hm
            | some y => exact hk (.inr ⟨rfl, rfl⟩)
      · rename_i n e hu
        split at h
        · cases h
        · rename_i hk
          have hk' : okT C.P e = true := by
            cases hq : okT C.P e
            · exact absurd (.inr (by simp [hq])) hk
            · rfl
          obtain ⟨⟨d, hd⟩, _⟩ := okT_parts hk'
          cases mx with
          | some y => exact absurd (.inl rfl) hk
          | none => exact (sliceArr_ok hu hd (hr x) (orel hr lo) (orel hr hi) h).sok hs
      · cases h
    have := key.rok
    simpa only [execOp, hop] using this
  | fieldAddr s x f =>
    simp only [hop, stepR] at h
    unfold fieldsT at h
    split at h
    · rename_i fd hfd
      split at h
      · cases h
      · rename_i hk
        obtain ⟨_, hz, _⟩ := okT_parts (P := C.P) (t := fd.type) (by simpa using hk)
        split at hfd
        · rename_i fs hu
          have := ((fieldAddr_ok (C := C) (w := w) hu hfd hz (hr x) h).sok hs).rok
          simpa only [execOp, hop] using this
        · simp at hfd
    · cases h
  | field s x f =>
    simp only [hop, stepR] at h
    unfold fieldsT at h
    split at h
    · rename_i fd hfd
      split at h
      · cases h
      · rename_i hk
        obtain ⟨⟨d, hd⟩, _⟩ := okT_parts (P := C.P) (t := fd.type) (by simpa using hk)
        split at hfd
        · rename_i fs hu
          have := ((field_ok (C := C) (w := w) hu hfd hd (hr x) h).sok hs).rok
          simpa only [execOp, hop] using this
        · simp at hfd
    · cases h
  | indexAddr t x i =>
    simp only [hop, stepR] at h
    split at h
    · rename_i e hu
      split at h
      · cases h
      · rename_i hk
        obtain ⟨⟨d, hd⟩, _⟩ := okT_parts (P := C.P) (t := e) (by simpa using hk)
        have := ((idxSl_ok (C := C) (w := w) hu hd (hr x) (hr i) h).sok hs).rok
        simpa only [execOp, hop] using this
    · rename_i n e hu
      split at h
      · cases h
      · rename_i hk
        obtain ⟨⟨d, hd⟩, _⟩ := okT_parts (P := C.P) (t := e) (by simpa using hk)
        have := ((idxArr_ok (C := C) (w := w) hu hd (hr x) (hr i) h).sok hs).rok
        simpa only [execOp, hop] using this
    · cases h
  | index t x i =>
    simp only [hop, stepR] at h
    split at h
    · rename_i hu
      have := ((idxStr_ok (C := C) (w := w) hu (hr x) (hr i) h).sok hs).rok
      simpa only [execOp, hop] using this
    · rename_i n e hu
      split at h
      · cases h
      · rename_i hk
        obtain ⟨⟨d, hd⟩, _⟩ := okT_parts (P := C.P) (t := e) (by simpa using hk)
        have := ((idxAgg_ok (C := C) (w := w) hu hd (hr x) (hr i) h).sok hs).rok
        simpa only [execOp, hop] using this
    · cases h
  | extract x i =>
    simp only [hop, stepR] at h
    have := ((extract_ok (C := C) (w := w) (hr x) h).sok hs).rok
    simpa only [execOp, hop] using this
  | nilCheck x =>
    simp only [hop, stepR] at h
    obtain ⟨v, h1, h2⟩ := nilCheck_ok (C := C) (w := w) hop (hr x) h
    exact ⟨v, w, E, h1, h2, hs, .refl _ _ _⟩
  | typeAssert x xt t ok =>
    simp only [hop, stepR] at h
    split at h
    · cases h
    · rename_i d hne hd
      have := ((assert_ok (C := C) (w := w) (xt := xt) hd (fun m hm => hne m hm) (hr x) h).sok hs).rok
      simpa only [execOp, hop] using this
    · cases h
  | lookup t m k ok =>
    simp only [hop, stepR] at h
    split at h
    · rename_i kt e hu
      split at h
      · rename_i hk
        have := ((hM.look t kt e ok E H w _ _ z _ _ hu hk hs (hr m) (hr k) h).sok hs).rok
        simpa only [execOp, hop] using this
      · cases h
    · cases h
  | build t parts =>
    simp only [hop, stepR] at h
    have := ((build_ok (C := C) (w := w) hr h).sok hs).rok
    simpa only [execOp, hop] using this
  | buildSlice t len parts =>
    simp only [hop, stepR] at h
    split at h
    · rename_i e hu
      split at h
      · rename_i hk
        obtain ⟨hk1, hk2, hk3⟩ := hk
        obtain ⟨⟨d, hd⟩, hz, hz0, hz1, _⟩ := okT_parts hk1
        have := (SOk.rok (buildSlice_ok (C := C) (w := w) hu hd hz0 hz1 hs hr hk2 (by omega) hk3 h))
        simpa only [execOp, hop] using this
      · cases h
    · cases h
  | call c =>
    simp only [hop, stepR] at h
    split at h
    · rename_i x t hb ha ht
      have ha' := arr1 ha
      have ht' := arr1 ht
      have key : SOk E H C.P w (Builtin.len_ #[t] o.type #[ρ x]) z := by
        split at h
        · rename_i hu; exact (lenStr_ok hu (hr x) h).sok hs
        · rename_i e hu; exact (lenSl_ok hu (hr x) h).sok hs
        · rename_i n e hu; exact (lenArr_ok (E := E) hu h).sok hs
        · cases h
      rw [call_builtin hop hb, ha', ht', show (#[x] : Array Operand).map ρ = #[ρ x] from by simp]
      exact key.rok
    · rename_i x t hb ha ht
      have ha' := arr1 ha
      have ht' := arr1 ht
      split at h
      · rename_i e hu
        rw [call_builtin hop hb, ha', ht', show (#[x] : Array Operand).map ρ = #[ρ x] from by simp]
        exact ((cap_ok hu (hr x) h).sok hs).rok
      · cases h
    · rename_i _ x xs hb ha
      rw [call_builtin hop hb]
      have := fold_ok (C := C) (E := E) (w := w) (f := max2A) (g := Builtin.max2) (fun h1 h2 h3 => max2_ok h1 h2 h3) (xs.map r) (xs.map ρ) (r x) z (ρ x) (hr x) (VRels.map _ _ _ (fun y _ => hr y)) h
      have key : PureOk E C.P w (Builtin.max_ c.argTypes o.type (c.args.map ρ)) z := by
        unfold Builtin.max_
        rw [Array.toList_map, ha]
        exact this
      exact (key.sok hs).rok
    · rename_i _ x xs hb ha
      rw [call_builtin hop hb]
      have := fold_ok (C := C) (E := E) (w := w) (f := min2A) (g := Builtin.min2) (fun h1 h2 h3 => min2_ok h1 h2 h3) (xs.map r) (xs.map ρ) (r x) z (ρ x) (hr x) (VRels.map _ _ _ (fun y _ => hr y)) h
      have key : PureOk E C.P w (Builtin.min_ c.argTypes o.type (c.args.map ρ)) z := by
        unfold Builtin.min_
        rw [Array.toList_map, ha]
        exact this
      exact (key.sok hs).rok
    · cases h
  | _ => simp [hop, stepR] at h
end
end Go.Gm
