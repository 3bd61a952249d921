/- Regions in the order of the text. -/
import Derived.Test.YtenmplcmmdaibaaGmE3
namespace Go.Gm
set_option linter.unusedVariables false
set_option linter.unusedSimpArgs false
/-- All that is asked of what the evaluator was told. -/
structure CfgOk (C : Cfg) : Prop where
  eq : EqOk C
  map : MapOk C
  orc : OrcOk C.P C.G C.orc
section
variable {C : Cfg} {E : Env} {H : AHeap} {w : World}
theorem call_run {ρ : Operand → Value} {o : Oper} {c : Call} {f : Operand} {g : FuncId} {vs : Array Value} (ho : o.op = .call c) (hc : c.callee = .value f) (hf : ρ f = .func (.func g) #[] vs) : execOp ρ o = callFunc g (c.args.map ρ ++ vs) := by
  unfold execOp
  rw [ho]
  simp only [resolve, hc, Deferred.ofValue, hf, pure_bind, invoke]
  congr 1
  simp
theorem elemsA_sl {sz : Nat} {x : AVal} {es : List (List AVal)} (h : elemsA sz x H = some es) (ht : ∀ s, x ≠ .str s) : True := trivial
theorem stepE_wp (hC : CfgOk C) (hG : GlobOk C.G E) (hs : Sim E H w) {a : Act} {r : Operand → AVal} (hr : ∀ x, VRel E (r x) (a.eval x)) {o : Oper} {res : Res} {H' : AHeap} (h : stepE C o.op r H = some (res, H')) {next : Act → World → Prop} {Q : Exit → Act → World → Prop}
    (hn : ∀ E' w' v x, res = .ret x → VRel E' x v → Sim E' H' w' → Step E H w E' H' w' → next (a.put o.dst v) w')
    (hp : ∀ E' w' v x, res = .pan x → VRel E' x v → Sim E' H' w' → Step E H w E' H' w' → Q (.panic [{ v, recovered := false }]) a w') : o.wp C.P a w next Q := by
  unfold Oper.wp
  have skip : ∀ w', (execOp a.eval o).run C.P w = .ok .skip w' → res = .ret .undef → Sim E H' w' → Step E H w E H' w' → o.upon C.P a next Q ((execOp a.eval o).run C.P w) := by
    intro w' hrun hres h1 h2
    rw [hrun, Oper.upon_skip]
    exact hn E w' undef .undef hres (.undef _) h1 h2
  have value : ∀ v w' E' x, (execOp a.eval o).run C.P w = .ok (.value v) w' → res = .ret x → VRel E' x v → Sim E' H' w' → Step E H w E' H' w' → o.upon C.P a next Q ((execOp a.eval o).run C.P w) := by
    intro v w' E' x hrun hres hv h1 h2
    rw [hrun, Oper.upon_value]
    exact hn E' w' v x hres hv h1 h2
  cases hop : o.op with
  | store t x v =>
    simp only [hop, stepE] at h
    split at h
    · cases h
    · rename_i hk
      obtain ⟨_, hz, _⟩ := okT_parts (P := C.P) (t := t) (by simpa using hk)
      cases hst : storeA (sizeT C.P t) (r x) (r v) H with
      | none => simp [hst, retH] at h
      | some H1 =>
        simp only [hst, retH, Option.map_some, Option.some.injEq, Prod.mk.injEq] at h
        obtain ⟨rfl, rfl⟩ := h
        obtain ⟨w', h1, h2, h3⟩ := store_ok hs hz (hr x) (hr v) hst
        exact skip w' (by simp [execOp, hop, Sem.run_bind, h1, Result.andThen]) rfl h2 h3
  | mapUpdate t m k x =>
    simp only [hop, stepE] at h
    split at h
    · rename_i kt e hu
      split at h
      · rename_i hk
        cases hst : updateA (r m) (r k) (r x) H with
        | none => simp [hst, retH] at h
        | some H1 =>
          simp only [hst, retH, Option.map_some, Option.some.injEq, Prod.mk.injEq] at h
          obtain ⟨rfl, rfl⟩ := h
          obtain ⟨w', h1, h2, h3⟩ := hC.map.upd t kt e E H _ w _ _ _ _ _ _ hu hk hs (hr m) (hr k) (hr x) hst
          exact skip w' (by simp [execOp, hop, Sem.run_bind, h1, Result.andThen]) rfl h2 h3
      · cases h
    · cases h
  | insert t m k x =>
    simp only [hop, stepE] at h
    split at h
    · rename_i kt e hu
      split at h
      · rename_i hk
        cases hst : updateA (r m) (r k) (r x) H with
        | none => simp [hst, retH] at h
        | some H1 =>
          simp only [hst, retH, Option.map_some, Option.some.injEq, Prod.mk.injEq] at h
          obtain ⟨rfl, rfl⟩ := h
          obtain ⟨w', h1, h2, h3⟩ := hC.map.upd t kt e E H _ w _ _ _ _ _ _ hu hk hs (hr m) (hr k) (hr x) hst
          exact skip w' (by simp [execOp, hop, Sem.run_bind, h1, Result.andThen]) rfl h2 h3
      · cases h
    · cases h
  | range t x =>
    simp only [hop, stepE] at h
    split at h
    · rename_i hu
      cases hst : rangeA (r x) H with
      | none => simp [hst, retVH] at h
      | some p =>
        obtain ⟨z, H1⟩ := p
        simp only [hst, retVH, Option.map_some, Option.some.injEq, Prod.mk.injEq] at h
        obtain ⟨rfl, rfl⟩ := h
        obtain ⟨u, w', E', h1, h2, h3, h4⟩ := range_ok hs hu (hr x) hst
        exact value u w' E' z (by simp [execOp, hop, Sem.run_bind, h1, Result.andThen]) rfl h2 h3 h4
    · cases h
  | next x isStr =>
    simp only [hop, stepE] at h
    split at h
    · rename_i hstr
      cases hst : nextA (r x) H with
      | none => simp [hst, retVH] at h
      | some p =>
        obtain ⟨z, H1⟩ := p
        simp only [hst, retVH, Option.map_some, Option.some.injEq, Prod.mk.injEq] at h
        obtain ⟨rfl, rfl⟩ := h
        obtain ⟨u, w', h1, h2, h3, h4⟩ := next_ok (ty := o.type) (C := C) hs (hr x) hst
        exact value u w' E z (by simp [execOp, hop, Sem.run_bind, hstr, h1, Result.andThen]) rfl h2 h3 h4
    · cases h
  | panic x =>
    simp only [hop, stepE] at h
    split at h
    · rename_i t y hx
      simp only [Option.some.injEq, Prod.mk.injEq] at h
      obtain ⟨rfl, rfl⟩ := h
      have hx' := hr x
      rw [hx] at hx'
      obtain ⟨u, hu, hv⟩ := hx'.iface_inv
      have hrun : (execOp a.eval o).run C.P w = .halt (.panic (.iface t u)) w := by
        have h0 : (Instr.panic (.iface t u)).run C.P w = .halt (.panic (.iface t u)) w := rfl
        simp [execOp, hop, hu, Sem.run_bind, h0, Result.andThen]
      rw [hrun, Oper.upon_panic]
      exact hp E w _ _ rfl (.iface hv) hs (.refl _ _ _)
    · cases h
  | call c =>
    simp only [hop, stepE] at h
    split at h
    · rename_i hb
      split at h
      · rename_i x y t ty ha ht
        have ha' := arr2 ha
        have ht' := arr2 ht
        split at h
        · rename_i e e' hu hu'
          split at h
          · cases h
          · rename_i hk
            have hk1 : okT C.P e = true := by cases hq : okT C.P e <;> simp_all
            have hk2 : t = ty := by
              by_cases hq : t = ty
              · exact hq
              · exact absurd (.inr hq) hk
            subst hk2
            cases hst : appendA e (sizeT C.P e) (bytesT C.P e) (r x) (r y) H with
            | none => simp [hst, retVH] at h
            | some p =>
              obtain ⟨z, H1⟩ := p
              simp only [hst, retVH, Option.map_some, Option.some.injEq, Prod.mk.injEq] at h
              obtain ⟨rfl, rfl⟩ := h
              have hno : ∀ q s, elemsA (sizeT C.P e) q H ≠ none → q ≠ .str s := fun q s h1 h2 => by subst h2; exact h1 rfl
              have hx1 : elemsA (sizeT C.P e) (r y) H ≠ none := fun hq => by simp [appendA, hq] at hst
              have hx2 : elemsA (sizeT C.P e) (r x) H ≠ none := fun hq => by
                unfold appendA at hst
                rw [hq] at hst
                cases hq1 : elemsA (sizeT C.P e) (r y) H <;> simp [hq1] at hst
              obtain ⟨q, w', E', h1, h2, h3, h4⟩ := append_ok (ty := o.type) hs hu hk1 (hr x) (hr y) (fun s => hno _ s hx2) (fun s => hno _ s hx1) hst
              refine value q w' E' z ?_ rfl h2 h3 h4
              rw [call_builtin hop hb, ha', ht', show (#[x, y] : Array Operand).map a.eval = #[a.eval x, a.eval y] from by simp]
              exact value_bind h1
        · cases h
      · cases h
    · rename_i f hf
      split at h
      · rename_i g caps hg
        have hf' := hr f
        rw [hg] at hf'
        generalize hfe : a.eval f = fv at hf'
        cases hf' with
        | fn hn' hv' =>
          rename_i vs
          have hrun := call_run (ρ := a.eval) hop hf (g := g) (vs := vs) hfe
          have hargs : VRels E (c.args.toList.map r ++ caps) (c.args.map a.eval ++ vs).toList := by
            rw [Array.toList_append, Array.toList_map]
            exact VRels.append (VRels.map _ _ _ fun x _ => hr x) ⟨by simpa using hn', fun i c v h1 h2 => hv' i c v h1 (by simpa using h2)⟩
          rw [hrun]
          rcases hC.orc g _ H res H' h E w _ hG hs hargs with ⟨h1, h2⟩ | ⟨v, w', h1, E', h2, h3, h4⟩
          · rw [h1, Oper.upon_enter]
            refine h2.mono fun e w' hh => ?_
            obtain ⟨E', h3, h4, h5⟩ := hh
            cases e with
            | returned v =>
              cases res with
              | ret x => exact hn E' w' v x rfl h3 h4 h5
              | pan x => exact h3.elim
            | panicked chain =>
              cases res with
              | ret x => exact h3.elim
              | pan x =>
                obtain ⟨v, rfl, hv⟩ := h3
                exact hp E' w' v x rfl hv h4 h5
            | outgrown => cases res <;> exact h3.elim
          · rw [h1, Oper.upon_value]
            cases res with
            | ret x => exact hn E' w' v x rfl h2 h3 h4
            | pan x => exact h2.elim
      · cases h
    · cases h
  | _ => simp [hop, stepE] at h
end
end Go.Gm
