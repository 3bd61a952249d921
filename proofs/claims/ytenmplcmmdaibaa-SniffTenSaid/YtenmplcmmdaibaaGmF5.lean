/- Functions. -/
import Derived.Test.YtenmplcmmdaibaaGmF4
namespace Go.Gm
set_option linter.unusedVariables false
set_option linter.unusedSimpArgs false
section
variable {C : Cfg} {E : Env} {H : AHeap} {w : World}
theorem result_ok {n : Nat} {tm : List AVal} {a : Act} (hf : FRel n E H tm a w) {rv : ResultVar} {x : AVal} (h : resultA C tm H rv = some x) :
    ∃ v, ((match rv with
      | .tmp t => pure (a.tmps.getD t undef)
      | .cell ad t => do loadVar t (← asAddr (a.tmps.getD ad undef))) : Sem Value).run C.P w = .ok v w ∧ VRel E x v := by
  cases rv with
  | tmp t =>
    simp only [resultA, Option.some.injEq] at h
    subst h
    exact ⟨_, rfl, getD_rel hf.rel t⟩
  | cell ad t =>
    simp only [resultA] at h
    split at h
    · cases h
    · rename_i hk
      obtain ⟨⟨d, hd⟩, _⟩ := okT_parts (P := C.P) (t := t) (by simpa using hk)
      have hr := getD_rel hf.rel ad
      obtain ⟨v, h1, h2⟩ := load_ok hd hf.sim hr h
      have hp : ∃ p, a.tmps.getD ad undef = .pointer (some p) := by
        unfold loadA at h
        split at h
        · rename_i id g o he; rw [he] at hr; obtain ⟨b, _, h3⟩ := hr.ptr_inv; exact ⟨_, h3⟩
        · rename_i cs o he; rw [he] at hr; obtain ⟨b, o', h3⟩ := hr.cptr_inv; exact ⟨_, h3⟩
        · cases h
      obtain ⟨p, hp⟩ := hp
      refine ⟨v, ?_, h2⟩
      rw [hp] at h1
      show (do loadVar t (← asAddr (a.tmps.getD ad undef)) : Sem Value).run C.P w = _
      rw [hp]
      simpa [Instr.loadAt, Instr.sureAddr, asAddr] using h1
theorem resultsL_ok {n : Nat} {tm : List AVal} {a : Act} (hf : FRel n E H tm a w) : ∀ (rs : List ResultVar) (xs : List AVal), resultsL C tm H rs = some xs →
    ∃ vs : List Value, (rs.mapM (fun | .tmp t => pure (a.tmps.getD t undef) | .cell ad t => do loadVar t (← asAddr (a.tmps.getD ad undef)) : ResultVar → Sem Value)).run C.P w = .ok vs w ∧ VRels E xs vs
  | [], xs, h => by simp only [resultsL, Option.some.injEq] at h; subst h; exact ⟨[], by simp, .nil E⟩
  | r :: rs, xs, h => by
    simp only [resultsL] at h
    cases h1 : resultA C tm H r with
    | none => simp [h1] at h
    | some x =>
      simp only [h1, Option.bind_some] at h
      cases h2 : resultsL C tm H rs with
      | none => simp [h2] at h
      | some xs' =>
        simp only [h2, Option.map_some, Option.some.injEq] at h
        subst h
        obtain ⟨v, g1, g2⟩ := result_ok hf h1
        obtain ⟨vs, g3, g4⟩ := resultsL_ok hf rs xs' h2
        refine ⟨v :: vs, ?_, .cons g2 g4⟩
        rw [List.mapM_cons]
        simp only [Sem.run_bind, g1, Result.andThen_ok, g3, Sem.run_pure]
theorem results_ok {n : Nat} {fn : Func} {tm : List AVal} {a : Act} (hf : FRel n E H tm a w) {x : AVal} (h : resultsA C fn.results.toList tm H = some x) : ∃ v, (results fn a.tmps).run C.P w = .ok v w ∧ VRel E x v := by
  have hrun : ∀ vs : List Value, (fn.results.toList.mapM (fun | .tmp t => pure (a.tmps.getD t undef) | .cell ad t => do loadVar t (← asAddr (a.tmps.getD ad undef)) : ResultVar → Sem Value)).run C.P w = .ok vs w →
      (results fn a.tmps).run C.P w = .ok (if h : vs.toArray.size = 1 then vs.toArray[0] else .tuple vs.toArray) w := by
    intro vs hvs
    unfold results
    rw [Array.mapM_eq_mapM_toList]
    simp only [map_eq_pure_bind, Sem.run_bind, Sem.run_pure]
    erw [hvs]
    rfl
  unfold resultsA at h
  split at h
  · rename_i r hr
    obtain ⟨vs, g1, g2⟩ := resultsL_ok (C := C) hf [r] [x] (by simp [resultsL, h])
    rw [← hr] at g1
    refine ⟨_, hrun vs g1, ?_⟩
    have hl : vs.length = 1 := by rw [← g2.1]; rfl
    obtain ⟨v, rfl⟩ := List.length_eq_one_iff.1 hl
    simpa using g2.head
  · rename_i hne
    cases hx : resultsL C tm H fn.results.toList with
    | none => simp [hx] at h
    | some xs =>
      simp only [hx, Option.map_some, Option.some.injEq] at h
      subst h
      obtain ⟨vs, g1, g2⟩ := resultsL_ok hf _ _ hx
      refine ⟨_, hrun vs g1, ?_⟩
      have hl : ¬ (vs.toArray.size = 1) := by
        have h1 : xs.length = fn.results.toList.length := by
          clear g1 g2 hrun hne
          generalize fn.results.toList = rs at hx
          induction rs generalizing xs with
          | nil => simp only [resultsL, Option.some.injEq] at hx; subst hx; rfl
          | cons r rs ih =>
            simp only [resultsL] at hx
            cases h1 : resultA C tm H r with
            | none => simp [h1] at hx
            | some y =>
              simp only [h1, Option.bind_some] at hx
              cases h2 : resultsL C tm H rs with
              | none => simp [h2] at hx
              | some ys => simp only [h2, Option.map_some, Option.some.injEq] at hx; subst hx; simp [ih _ h2]
        intro hs
        have h2 : fn.results.toList.length = 1 := by rw [← h1, g2.1]; simpa using hs
        obtain ⟨r, hr⟩ := List.length_eq_one_iff.1 h2
        exact hne r hr
      rw [dif_neg hl]
      exact .tup_of (by simpa using g2)
theorem fin_ok {E0 : Env} {H0 : AHeap} {w0 : World} {m : FMode} (hs0 : Sim E0 H0 w0) (st : Step E0 H0 w0 E H w) (hs : Sim E H w) {r : Res} {e : Ending} (hr : EndRel E r e) {out : Res × AHeap} (h : fin m H0 r H = some out) :
    ∃ E', EndRel E' out.1 e ∧ Sim E' out.2 w ∧ Step E0 H0 w0 E' out.2 w := by
  cases m with
  | keep => simp only [fin, Option.some.injEq] at h; subst h; exact ⟨E, hr, hs, st⟩
  | pure =>
    simp only [fin, chk] at h
    split at h
    · rename_i ht
      obtain ⟨k1, k2⟩ := hs0.cut hs st ht
      cases r with
      | ret v =>
        simp only [] at h
        cases hf : frz H H0.length 8 v with
        | none => simp [hf] at h
        | some v' =>
          simp only [hf, Option.map_some, Option.some.injEq] at h
          subst h
          refine ⟨_, ?_, k1, k2⟩
          cases e with
          | returned u => exact (frz_ok hs 8).1 v v' u hf hr
          | panicked c => exact hr.elim
          | outgrown => exact hr.elim
      | pan v =>
        simp only [] at h
        cases hf : frz H H0.length 8 v with
        | none => simp [hf] at h
        | some v' =>
          simp only [hf, Option.map_some, Option.some.injEq] at h
          subst h
          refine ⟨_, ?_, k1, k2⟩
          cases e with
          | returned u => exact hr.elim
          | panicked c => obtain ⟨u, h1, h2⟩ := hr; exact ⟨u, h1, (frz_ok hs 8).1 v v' u hf h2⟩
          | outgrown => exact hr.elim
    · cases h
/-- A function's evaluation is its call. -/
theorem fn_ok (hC : CfgOk C) (hD : DrawOk C) {f : FuncId} {fn : Func} {body : Code} {ann : Ann} {m : FMode} (hf : C.P.funcs[f]? = some fn) (hb : fn.body = some body) (hc : ∀ (vs : Array Value) (w : World), (callFunc f vs).run C.P w = .ok (.enter f vs) w)
    {args : List AVal} {H : AHeap} {res : Res} {H' : AHeap} (h : fnA C fn body ann m args H = some (res, H')) (hn : args.length ≤ fn.ntmps) : CallA C.P C.G f args H res H' := by
  intro E w vs hG hs hv
  refine .inl ⟨hc vs w, calls_of_wp hf hb ?_⟩
  unfold fnA at h
  have hlen : args.length = vs.size := by simpa using hv.1
  have hfr : FRel fn.ntmps E H (args ++ List.replicate (fn.ntmps - args.length) .undef) { tmps := vs ++ Array.replicate (fn.ntmps - vs.size) undef, defers := [] } w := by
    refine ⟨?_, by simp; omega, rfl, hs⟩
    rw [Array.toList_append]
    refine hv.append ⟨by simp [hlen], fun i c v h1 h2 => ?_⟩
    rw [List.getElem?_replicate] at h1
    split at h1
    · simp at h1; subst h1; exact .undef _
    · cases h1
  refine wp_mono (evC_wp hC hD body ann _ E _ H _ w hG (.refl E H w) hfr h) ?_
  rintro e a w' ⟨E', H1, tm, x, hG', st, hf', hx, hk⟩
  have ret : ∀ y, resultsA C fn.results.toList tm H1 = some y → fin m H (.ret y) H1 = some (res, H') → a.defers = [] ∧ ∃ v, (results fn a.tmps).run C.P w' = .ok v w' ∧ ∃ E2, EndRel E2 res (.returned v) ∧ Sim E2 H' w' ∧ Step E H w E2 H' w' := by
    intro y hy hfin
    obtain ⟨v, h1, h2⟩ := results_ok hf' hy
    obtain ⟨E2, g1, g2, g3⟩ := fin_ok (r := .ret y) (e := .returned v) hs st hf'.sim h2 hfin
    exact ⟨hf'.defers, v, h1, E2, g1, g2, g3⟩
  cases x <;> cases e <;> first | exact hx.elim | skip
  · simp only [] at hk
    cases hy : resultsA C fn.results.toList tm H1 with
    | none => simp [hy] at hk
    | some y => simp only [hy, Option.bind_some] at hk; exact ret y hy hk
  · cases hk
  · simp only [] at hk
    cases hy : resultsA C fn.results.toList tm H1 with
    | none => simp [hy] at hk
    | some y => simp only [hy, Option.bind_some] at hk; exact ret y hy hk
  · simp only [] at hk
    obtain ⟨v, rfl, hv'⟩ := hx
    obtain ⟨E2, g1, g2, g3⟩ := fin_ok (r := .pan _) (e := .panicked [{ v, recovered := false }]) hs st hf'.sim ⟨v, rfl, hv'⟩ hk
    exact ⟨hf'.defers, E2, g1, g2, g3⟩
end
end Go.Gm
