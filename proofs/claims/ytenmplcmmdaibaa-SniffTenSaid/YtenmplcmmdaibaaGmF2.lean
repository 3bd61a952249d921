/- Regions in the order of the text; frames. -/
import Derived.Test.YtenmplcmmdaibaaGmF1
import Derived.Orders
namespace Go.Gm
set_option linter.unusedVariables false
set_option linter.unusedSimpArgs false
/-- A frame: its temporaries are related, and so is the heap. -/
structure FRel (n : Nat) (E : Env) (H : AHeap) (tm : List AVal) (a : Act) (w : World) : Prop where
  rel : VRels E tm a.tmps.toList
  len : tm.length = n
  defers : a.defers = []
  sim : Sim E H w
section
variable {C : Cfg} {E : Env} {H : AHeap} {w : World}
theorem getD_rel {tm : List AVal} {ts : Array Value} (h : VRels E tm ts.toList) (t : Nat) : VRel E (tm.getD t .undef) (ts.getD t undef) := by
  rw [List.getD_eq_getElem?_getD]
  cases ht : tm[t]? with
  | none => exact .undef _
  | some x =>
    obtain ⟨v, h1, h2⟩ := h.get ht
    have : ts.getD t undef = v := by
      have h1' : ts[t]? = some v := by simpa using h1
      simp [Array.getD_eq_getD_getElem?, h1']
    rw [this]; exact h2
theorem rho_rel (hG : GlobOk C.G E) {tm : List AVal} {a : Act} (h : VRels E tm a.tmps.toList) (x : Operand) : VRel E (rho C.G tm x) (a.eval x) := by
  cases x with
  | tmp t => exact getD_rel h t
  | const v => exact absV_rel E v
  | global g =>
    simp only [rho, Act.eval]
    cases hg : C.G g with
    | none => exact .undef _
    | some cs => exact hG g cs hg
  | func f => exact .fn rfl fun i c v h => by simp at h
theorem put_rel {tm : List AVal} {a : Act} (h : VRels E tm a.tmps.toList) {x : AVal} {v : Value} (hv : VRel E x v) (d : Option Tmp) : VRels E (putT tm d x) (a.put d v).tmps.toList := by
  cases d with
  | none => exact h
  | some d =>
    simp only [putT, Act.put, Array.toList_setIfInBounds]
    exact h.set d hv
theorem put_defers (a : Act) (d : Option Tmp) (v : Value) : (a.put d v).defers = a.defers := by cases d <;> rfl
theorem FRel.put {tm : List AVal} {a : Act} {n : Nat} (h : FRel n E H tm a w) {E' : Env} {H' : AHeap} {w' : World} (hle : E.le E') (hs : Sim E' H' w') {x : AVal} {v : Value} (hv : VRel E' x v) (d : Option Tmp) : FRel n E' H' (putT tm d x) (a.put d v) w' :=
  ⟨put_rel (h.rel.mono hle) hv d, by cases d <;> simp [putT, h.len], by rw [put_defers]; exact h.defers, hs⟩
theorem want_rel {tm : List AVal} {a : Act} (h : VRels E tm a.tmps.toList) {ops : Array Oper} {o : Oper} {b : Bool} (hw : wantA ops o tm = some b) : Region.wanted o (yielded ops a.tmps) = b := by
  unfold wantA at hw
  unfold Region.wanted
  cases hg : o.guard with
  | none => simp [hg] at hw; simp [hw]
  | some p =>
    obtain ⟨j, want⟩ := p
    simp only [hg] at hw
    split at hw
    · rename_i b' hb'
      injection hw with hw; subst hw
      cases hd : (ops[j]?).bind (·.dst) with
      | none => simp [hd] at hb'
      | some d =>
        simp only [hd, Option.map_some, Option.some.injEq] at hb'
        have hr := getD_rel h d
        rw [hb'] at hr
        have hv := hr.bool_inv
        have hlt : d < a.tmps.size := by
          rcases Nat.lt_or_ge d a.tmps.size with hlt | hge
          · exact hlt
          · rw [Array.getD_eq_getD_getElem?, Array.getElem?_eq_none hge] at hv
            cases hv
        have hget : a.tmps[d]? = some (.bool b') := by
          rw [Array.getD_eq_getD_getElem?, Array.getElem?_eq_getElem hlt] at hv
          rw [Array.getElem?_eq_getElem hlt]
          simpa using hv
        simp only [yielded, hd, Option.bind_some, hget]
        cases b' <;> cases want <;> rfl
    · cases hw
/-- What a region's way on is handed. -/
def KOk (C : Cfg) (n : Nat) (E0 : Env) (H0 : AHeap) (w0 : World) (out : Res × AHeap) (k : List AVal → AHeap → Out) (Q : Act → World → Prop) : Prop :=
  ∀ E tm H a w, GlobOk C.G E → Step E0 H0 w0 E H w → FRel n E H tm a w → k tm H = some out → Q a w
def KPOk (C : Cfg) (n : Nat) (E0 : Env) (H0 : AHeap) (w0 : World) (out : Res × AHeap) (k : AVal → List AVal → AHeap → Out) (Q : Exit → Act → World → Prop) : Prop :=
  ∀ E tm H a w x v, GlobOk C.G E → Step E0 H0 w0 E H w → FRel n E H tm a w → VRel E x v → k x tm H = some out → Q (.panic [{ v, recovered := false }]) a w
theorem evOps_wp (hC : CfgOk C) {n : Nat} {E0 : Env} {H0 : AHeap} {w0 : World} {out : Res × AHeap} {ops : Array Oper} {k : List AVal → AHeap → Out} {kp : AVal → List AVal → AHeap → Out} {Q : Exit → Act → World → Prop}
    (hk : KOk C n E0 H0 w0 out k (Q .normal)) (hkp : KPOk C n E0 H0 w0 out kp Q) :
    ∀ (os : List Oper) (i : Nat) (E : Env) (tm : List AVal) (H : AHeap) (a : Act) (w : World), (∀ j, j < os.length → ops[i + j]? = os[j]?) → GlobOk C.G E → Step E0 H0 w0 E H w → FRel n E H tm a w → evOps C ops os k kp tm H = some out →
      wpOps C.P ops Q (List.range' i os.length) a w
  | [], i, E, tm, H, a, w, _, hG, st, hf, h => hk E tm H a w hG st hf h
  | o :: os, i, E, tm, H, a, w, ho, hG, st, hf, h => by
    rw [List.length_cons, List.range'_succ, wpOps_cons]
    have hi : ops[i]? = some o := by have := ho 0 (by simp); simpa using this
    have ho' : ∀ j, j < os.length → ops[i + 1 + j]? = os[j]? := fun j hj => by
      have := ho (j + 1) (by simp; omega)
      rw [show i + 1 + j = i + (j + 1) from by omega, this]; rfl
    have ih := evOps_wp (ops := ops) hC hk hkp os (i + 1)
    unfold wpOp
    simp only [hi]
    simp only [evOps] at h
    cases hw : wantA ops o tm with
    | none => simp [hw] at h
    | some b =>
      simp only [hw, Option.bind_some] at h
      rw [want_rel hf.rel hw]
      have hr := rho_rel (C := C) hG hf.rel
      cases b with
      | false =>
        simp only [Bool.false_eq_true, if_false]
        have hput := hf.put (.refl E) hf.sim (x := .undef) (v := undef) (.undef _) o.dst
        cases hc : cls o.op <;> simp only [hc, gR, gA, gE, Bool.false_eq_true, if_false, Option.bind_some, afterA, afterE] at h <;> exact ih E _ H _ w ho' hG st hput h
      | true =>
        simp only [if_true]
        refine .inl ?_
        cases hc : cls o.op with
        | r =>
          simp only [hc, gR, if_true] at h
          cases hst : stepR C o.op (rho C.G tm) H with
          | none => simp [hst] at h
          | some z =>
            simp only [hst, Option.bind_some] at h
            obtain ⟨v, w', E', h1, h2, h3, h4⟩ := stepR_ok hC.eq hC.map hf.sim hr hst
            unfold Oper.wp
            rw [h1, Oper.upon_value]
            exact ih E' _ H _ w' ho' (hG.mono h4.le) (st.trans h4) (hf.put h4.le h3 h2 o.dst) h
        | a =>
          simp only [hc, gA, if_true] at h
          cases hst : stepA C o.op (rho C.G tm) H with
          | none => simp [hst, afterA] at h
          | some p =>
            obtain ⟨z, H'⟩ := p
            simp only [hst, afterA, Option.bind_some] at h
            obtain ⟨B, v, ob, f, rfl, hz, _, h1, h2, h3⟩ := (stepA_ok hf.sim hr hst).ex
            obtain ⟨l1, l2⟩ := hf.sim.laid ob
            obtain ⟨t1, t2⟩ := h2.take l1 l2 (Nat.le_refl _)
            have g2 := h3 (E.setφ H.length 0 w.heap.size) H.length (by simp [Env.setφ])
            rw [← hz] at g2
            unfold Oper.wp
            rw [h1, Oper.upon_value]
            exact ih _ _ _ _ _ ho' (hG.mono t2.le) (st.trans t2) (hf.put t2.le t1 g2 o.dst) h
        | e =>
          simp only [hc, gE, if_true] at h
          cases hst : stepE C o.op (rho C.G tm) H with
          | none => simp [hst, afterE] at h
          | some p =>
            obtain ⟨res, H'⟩ := p
            simp only [hst, afterE, Option.bind_some] at h
            refine stepE_wp hC hG hf.sim hr hst (fun E' w' v x hres hv h1 h2 => ?_) (fun E' w' v x hres hv h1 h2 => ?_)
            · subst hres
              exact ih E' _ H' _ w' ho' (hG.mono h2.le) (st.trans h2) (hf.put h2.le h1 hv o.dst) h
            · subst hres
              exact hkp E' tm H' a w' x v (hG.mono h2.le) (st.trans h2) ⟨hf.rel.mono h2.le, hf.len, hf.defers, h1⟩ hv h
end
end Go.Gm
