/- Code. -/
import Derived.Test.YtenmplcmmdaibaaGmF2
namespace Go.Gm
set_option linter.unusedVariables false
set_option linter.unusedSimpArgs false
def XRel (E : Env) : AExit → Exit → Prop
  | .normal, .normal => True
  | .exit i, .exit j => i = j
  | .ret, .ret => True
  | .pan x, .panic chain => ∃ v, chain = [{ v, recovered := false }] ∧ VRel E x v
  | _, _ => False
/-- What a continuation is worth. -/
def PostK (C : Cfg) (n : Nat) (E0 : Env) (H0 : AHeap) (w0 : World) (out : Res × AHeap) (K : Kont) (e : Exit) (a : Act) (w : World) : Prop :=
  ∃ E H tm x, GlobOk C.G E ∧ Step E0 H0 w0 E H w ∧ FRel n E H tm a w ∧ XRel E x e ∧ K x tm H = some out
section
variable {C : Cfg} {n : Nat} {E0 : Env} {H0 : AHeap} {w0 : World} {out : Res × AHeap}
theorem PostK.mk {K : Kont} {E : Env} {H : AHeap} {tm : List AVal} {a : Act} {w : World} {x : AExit} {e : Exit} (hG : GlobOk C.G E) (st : Step E0 H0 w0 E H w) (hf : FRel n E H tm a w) (hx : XRel E x e) (h : K x tm H = some out) : PostK C n E0 H0 w0 out K e a w :=
  ⟨E, H, tm, x, hG, st, hf, hx, h⟩
theorem projT_get (L : List Nat) (tm : List AVal) (n i : Nat) : (rebT n L (projT L tm)).getD i .undef = .undef ∨ (rebT n L (projT L tm)).getD i .undef = tm.getD i .undef := by
  unfold rebT projT
  rw [List.getD_eq_getElem?_getD, List.getElem?_map]
  by_cases hi : i < n
  · rw [List.getElem?_range hi]
    simp only [Option.map_some, Option.getD_some]
    cases hL : L.idxOf? i with
    | none => exact .inl rfl
    | some j =>
      right
      simp only []
      have hj : L[j]? = some i := by
        have := List.idxOf?_eq_some_iff.1 hL
        obtain ⟨h1, h2, _⟩ := this
        rw [List.getElem?_eq_getElem h1]
        simpa using h2
      rw [List.getD_eq_getElem?_getD, List.getElem?_map, hj]
      simp
  · rw [List.getElem?_eq_none (by simp; omega)]
    exact .inl rfl
theorem reb_rel {E : Env} {tm : List AVal} {ts : List Value} (h : VRels E tm ts) (L : List Nat) (n : Nat) (hn : tm.length = n) : VRels E (rebT n L (projT L tm)) ts := by
  have hl : (rebT n L (projT L tm)).length = n := by simp [rebT]
  refine ⟨by rw [hl, ← hn]; exact h.1, fun i c v h1 h2 => ?_⟩
  have hc : c = (rebT n L (projT L tm)).getD i .undef := by rw [List.getD_eq_getElem?_getD, h1]; rfl
  rcases projT_get L tm n i with h3 | h3
  · rw [hc, h3]; exact .undef _
  · rw [hc, h3]
    have hi : i < tm.length := by have := (List.getElem?_eq_some_iff.1 h1).1; omega
    rw [List.getD_eq_getElem?_getD, List.getElem?_eq_getElem hi]
    exact h.2 i _ v (List.getElem?_eq_getElem hi) h2
/-- A drawn region: its law is in the next text. -/
def DrawOk (C : Cfg) : Prop :=
  ∀ (n : Nat) (E0 : Env) (H0 : AHeap) (w0 : World) (out : Res × AHeap) (ops : Array Oper) (perm : List Nat) (k : List AVal → AHeap → Out) (kp : AVal → List AVal → AHeap → Out) (Q : Exit → Act → World → Prop) (id : Nat) (E : Env) (tm : List AVal) (H : AHeap) (a : Act) (w : World),
    KOk C n E0 H0 w0 out k (Q .normal) → KPOk C n E0 H0 w0 out kp Q → okDraw ops perm = true → GlobOk C.G E → Step E0 H0 w0 E H w → FRel n E H tm a w →
    evDraw C ops (fun i j => ((Region.before ops).getD j 0).testBit i) k kp perm [] H H tm = some out → (Code.region id ops true).wp C.P Q a w
theorem evOps_region (hC : CfgOk C) {ops : Array Oper} {k : List AVal → AHeap → Out} {kp : AVal → List AVal → AHeap → Out} {Q : Exit → Act → World → Prop} {id : Nat} {E : Env} {tm : List AVal} {H : AHeap} {a : Act} {w : World}
    (hk : KOk C n E0 H0 w0 out k (Q .normal)) (hkp : KPOk C n E0 H0 w0 out kp Q) (hG : GlobOk C.G E) (st : Step E0 H0 w0 E H w) (hf : FRel n E H tm a w) (h : evOps C ops ops.toList k kp tm H = some out) : (Code.region id ops false).wp C.P Q a w := by
  refine wp_region ?_
  have := evOps_wp (Q := Q) hC hk hkp ops.toList 0 E tm H a w (fun j hj => by simp) hG st hf h
  rw [List.range_eq_range']
  simpa using this
theorem wp_loop_fuel {c : Code} {P : Program} {Q : Exit → Act → World → Prop} (J : Nat → Act → World → Prop) (h0 : ∀ a w, ¬ J 0 a w) (step : ∀ n a w, J (n + 1) a w → c.wp P (Exit.then (J n) Q) a w) :
    ∀ (m : Nat) (a : Act) (w : World), J m a w → (Code.loop c).wp P Q a w := by
  intro m a w hJ b k cs
  have key : ∀ n a w, J n a w → ∃ e a' w', Q e a' w' ∧ Arrives P (lone (b.at a (.code c :: .inLoop c :: k)) cs w) b k cs e a' w' := by
    intro n
    induction n with
    | zero => intro a w h; exact absurd h (h0 a w)
    | succ n ih =>
      intro a w h
      obtain ⟨e, a₁, w₁, hq, harr⟩ := step n a w h b (.inLoop c :: k) cs
      cases e with
      | normal =>
        obtain ⟨e₂, a₂, w₂, hq₂, harr₂⟩ := ih a₁ w₁ hq
        exact ⟨e₂, a₂, w₂, hq₂, .of_steps (Steps.trans harr (.one step_inLoop)) harr₂⟩
      | exit id => exact ⟨_, a₁, w₁, hq, .pass (x := .inLoop c) rfl (fun _ _ => .inl (by simp)) harr⟩
      | goto l => exact ⟨_, a₁, w₁, hq, .pass (x := .inLoop c) rfl (fun _ _ => .inl (by simp)) harr⟩
      | ret => exact ⟨_, a₁, w₁, hq, .pass (x := .inLoop c) rfl (fun _ _ => .inl (by simp)) harr⟩
      | panic ch => exact ⟨_, a₁, w₁, hq, .pass (x := .inLoop c) rfl (fun _ _ => .inl (by simp)) harr⟩
      | outgrown => exact ⟨_, a₁, w₁, hq, .pass (x := .inLoop c) rfl (fun _ _ => .inl (by simp)) harr⟩
  obtain ⟨e, a', w', hq, harr⟩ := key m a w hJ
  exact ⟨e, a', w', hq, .of_steps (.one step_loop) harr⟩
theorem kseq_post {k : List AVal → AHeap → Out} {K : Kont} {N : Act → World → Prop} (hN : ∀ E H tm a w, GlobOk C.G E → Step E0 H0 w0 E H w → FRel n E H tm a w → k tm H = some out → N a w) :
    ∀ e a w, PostK C n E0 H0 w0 out (kseq k K) e a w → Exit.then N (PostK C n E0 H0 w0 out K) e a w := by
  rintro e a w ⟨E, H, tm, x, hG, st, hf, hx, h⟩
  cases x <;> cases e <;> first | exact hx.elim | skip
  · exact hN E H tm a w hG st hf h
  · exact ⟨E, H, tm, _, hG, st, hf, hx, h⟩
  · exact ⟨E, H, tm, _, hG, st, hf, hx, h⟩
  · exact ⟨E, H, tm, _, hG, st, hf, hx, h⟩
theorem reb_frel {E : Env} {H : AHeap} {tm : List AVal} {a : Act} {w : World} (hf : FRel n E H tm a w) (L : List Nat) : FRel n E H (rebT n L (projT L tm)) a w :=
  ⟨reb_rel hf.rel L n hf.len, by simp [rebT], hf.defers, hf.sim⟩
theorem evC_wp (hC : CfgOk C) (hD : DrawOk C) : ∀ (c : Code) (ann : Ann) (K : Kont) (E : Env) (tm : List AVal) (H : AHeap) (a : Act) (w : World), GlobOk C.G E → Step E0 H0 w0 E H w → FRel n E H tm a w →
    evC C n c ann K tm H = some out → c.wp C.P (PostK C n E0 H0 w0 out K) a w := by
  intro c
  induction c with
  | skip => intro ann K E tm H a w hG st hf h; exact wp_skip (.mk hG st hf (x := .normal) trivial (by simpa only [evC] using h))
  | label l => intro ann K E tm H a w hG st hf h; exact wp_label (.mk hG st hf (x := .normal) trivial (by simpa only [evC] using h))
  | ret => intro ann K E tm H a w hG st hf h; exact wp_ret (.mk hG st hf (x := .ret) trivial (by simpa only [evC] using h))
  | exit id => intro ann K E tm H a w hG st hf h; exact wp_exit (.mk hG st hf (x := .exit id) rfl (by simpa only [evC] using h))
  | region id ops draw =>
    intro ann K E tm H a w hG st hf h
    have hk : KOk C n E0 H0 w0 out (fun tm H => K .normal tm H) (PostK C n E0 H0 w0 out K .normal) := fun E tm H a w hG st hf h => .mk hG st hf (x := .normal) trivial h
    have hkp : KPOk C n E0 H0 w0 out (fun v tm H => K (.pan v) tm H) (PostK C n E0 H0 w0 out K) := fun E tm H a w x v hG st hf hv h => .mk hG st hf (x := .pan x) ⟨v, rfl, hv⟩ h
    cases draw with
    | false => exact evOps_region hC hk hkp hG st hf (by simpa only [evC] using h)
    | true =>
      cases ann with
      | reg perm =>
        simp only [evC] at h
        split at h
        · rename_i hok
          exact hD n E0 H0 w0 out ops perm _ _ _ id E tm H a w hk hkp hok hG st hf h
        · cases h
      | _ => simp [evC] at h
  | seq x y ihx ihy =>
    intro ann K E tm H a w hG st hf h
    cases ann with
    | two p q =>
      simp only [evC] at h
      refine wp_seq (wp_mono (ihx p _ E tm H a w hG st hf h) (kseq_post fun E H tm a w hG st hf h => ihy q K E tm H a w hG st hf h))
    | join L p q =>
      simp only [evC, joinPt] at h
      refine wp_seq (wp_mono (ihx p _ E tm H a w hG st hf h) (kseq_post fun E H tm a w hG st hf h => ihy q K E _ H a w hG st (reb_frel hf L) h))
    | _ => simp [evC] at h
  | cond c x y ihx ihy =>
    intro ann K E tm H a w hG st hf h
    cases ann with
    | two p q =>
      simp only [evC] at h
      unfold condA at h
      split at h
      · rename_i t ht
        have hr := rho_rel (C := C) hG hf.rel c
        rw [ht] at hr
        have hc := hr.bool_inv
        cases t with
        | true => exact wp_cond hc (ihx p K E tm H a w hG st hf (by simpa using h))
        | false => exact wp_cond hc (ihy q K E tm H a w hG st hf (by simpa using h))
      · cases h
    | _ => simp [evC] at h
  | block id x ih =>
    intro ann K E tm H a w hG st hf h
    cases ann with
    | one p =>
      simp only [evC] at h
      refine wp_block (wp_mono (ih p _ E tm H a w hG st hf h) ?_)
      rintro e a w ⟨E, H, tm, x, hG, st, hf, hx, h⟩
      cases x <;> cases e <;> first | exact hx.elim | skip
      · exact ⟨E, H, tm, .normal, hG, st, hf, trivial, h⟩
      · rename_i i j
        have hx' : i = j := hx
        subst hx'
        simp only [kblock] at h
        simp only [Exit.inBlock]
        split
        · rename_i hid; rw [if_pos hid] at h; exact ⟨E, H, tm, .normal, hG, st, hf, trivial, h⟩
        · rename_i hid; rw [if_neg hid] at h; exact ⟨E, H, tm, .exit i, hG, st, hf, rfl, h⟩
      · exact ⟨E, H, tm, .ret, hG, st, hf, trivial, h⟩
      · exact ⟨E, H, tm, _, hG, st, hf, hx, h⟩
    | _ => simp [evC] at h
  | loop x ih =>
    intro ann K E tm H a w hG st hf h
    cases ann with
    | loop L p =>
      simp only [evC] at h
      let G := fun (rec : List AVal → AHeap → Out) (vs : List AVal) (H : AHeap) => evC C n x p (kseq (fun tm H => rec (projT L tm) H) K) (rebT n L vs) H
      refine wp_loop_fuel (fun m a w => ∃ E tm H, GlobOk C.G E ∧ Step E0 H0 w0 E H w ∧ FRel n E H tm a w ∧ loopGen G m (projT L tm) H = some out) ?_ ?_ FUEL a w ⟨E, tm, H, hG, st, hf, h⟩
      · rintro a w ⟨E, tm, H, _, _, _, h⟩
        simp [loopGen] at h
      · rintro m a w ⟨E, tm, H, hG, st, hf, h⟩
        simp only [loopGen, G] at h
        exact wp_mono (ih p _ E _ H a w hG st (reb_frel hf L) h) (kseq_post fun E H tm a w hG st hf h => ⟨E, tm, H, hG, st, hf, h⟩)
    | _ => simp [evC] at h
  | _ => intro ann K E tm H a w hG st hf h; cases ann <;> simp [evC] at h
end
end Go.Gm
