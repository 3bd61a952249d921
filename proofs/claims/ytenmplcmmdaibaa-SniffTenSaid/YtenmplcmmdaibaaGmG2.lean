/- Regions that draw their order: the road of the canonical order. -/
import Derived.Test.YtenmplcmmdaibaaGmG1
namespace Go.Gm
set_option linter.unusedVariables false
set_option linter.unusedSimpArgs false
structure Tr where
  T : Nat → List AVal
  hE : Nat → AHeap
  cur : Nat → AHeap
  hist : Nat → List (Nat × AHeap)
  V : Nat → AVal
  B : Nat → Bool
section
variable {C : Cfg} {ops : Array Oper} {bf : Nat → Nat → Bool} {out : Res × AHeap} {k : List AVal → AHeap → Out} {kp : AVal → List AVal → AHeap → Out}
def StepOk (C : Cfg) (ops : Array Oper) (bf : Nat → Nat → Bool) (perm : List Nat) (t : Tr) (j : Nat) : Prop :=
  ∃ i o, perm[j]? = some i ∧ ops[i]? = some o ∧ wantA ops o (t.T j) = some (t.B j) ∧ t.T (j + 1) = putT (t.T j) o.dst (t.V j) ∧
    ((cls o.op = .r ∧ gR (t.B j) (stepR C o.op (rho C.G (t.T j)) (t.hE j)) = some (t.V j) ∧ (readsH o.op = true → stab (fun e => bf e i) (fun h => gR (t.B j) (stepR C o.op (rho C.G (t.T j)) h)) (t.V j) (t.hist j)) ∧
        t.hE (j + 1) = t.hE j ∧ t.cur (j + 1) = t.cur j ∧ t.hist (j + 1) = t.hist j) ∨
     (cls o.op = .a ∧ gA (t.B j) (t.cur j) (stepA C o.op (rho C.G (t.T j)) (t.cur j)) = some (t.V j, t.cur (j + 1)) ∧ t.hE (j + 1) = t.hE j ∧ t.hist (j + 1) = t.hist j) ∨
     (cls o.op = .e ∧ gE (t.B j) (t.cur j) (stepE C o.op (rho C.G (t.T j)) (t.cur j)) = some (.ret (t.V j), t.cur (j + 1)) ∧ t.hE (j + 1) = t.cur (j + 1) ∧ t.hist (j + 1) = (i, t.hE j) :: t.hist j))
def PanicAt (C : Cfg) (ops : Array Oper) (perm : List Nat) (kp : AVal → List AVal → AHeap → Out) (out : Res × AHeap) (t : Tr) (m : Nat) : Prop :=
  m + 1 = perm.length ∧ ∃ i o x H', perm[m]? = some i ∧ ops[i]? = some o ∧ cls o.op = .e ∧ wantA ops o (t.T m) = some true ∧ stepE C o.op (rho C.G (t.T m)) (t.cur m) = some (.pan x, H') ∧ kp x ((t.T m).map fun _ => .undef) H' = some out
/-- One step ahead of a road. -/
def Tr.cons (T0 : List AVal) (hE0 cur0 : AHeap) (hist0 : List (Nat × AHeap)) (v : AVal) (b : Bool) (t : Tr) : Tr where
  T := fun j => match j with | 0 => T0 | j + 1 => t.T j
  hE := fun j => match j with | 0 => hE0 | j + 1 => t.hE j
  cur := fun j => match j with | 0 => cur0 | j + 1 => t.cur j
  hist := fun j => match j with | 0 => hist0 | j + 1 => t.hist j
  V := fun j => match j with | 0 => v | j + 1 => t.V j
  B := fun j => match j with | 0 => b | j + 1 => t.B j
theorem trace_ex : ∀ (perm : List Nat) (hist0 : List (Nat × AHeap)) (hE0 cur0 : AHeap) (tm0 : List AVal), evDraw C ops bf k kp perm hist0 hE0 cur0 tm0 = some out →
    ∃ (t : Tr) (m : Nat), t.T 0 = tm0 ∧ t.hE 0 = hE0 ∧ t.cur 0 = cur0 ∧ t.hist 0 = hist0 ∧ m ≤ perm.length ∧ (∀ j, j < m → StepOk C ops bf perm t j) ∧
      ((m = perm.length ∧ k (t.T m) (t.cur m) = some out) ∨ PanicAt C ops perm kp out t m)
  | [], hist0, hE0, cur0, tm0, h => by
    simp only [evDraw] at h
    exact ⟨⟨fun _ => tm0, fun _ => hE0, fun _ => cur0, fun _ => hist0, fun _ => .undef, fun _ => true⟩, 0, rfl, rfl, rfl, rfl, Nat.le_refl _, fun j hj => by omega, .inl ⟨rfl, h⟩⟩
  | i :: rest, hist0, hE0, cur0, tm0, h => by
    simp only [evDraw] at h
    cases ho : ops[i]? with
    | none => simp [ho] at h
    | some o =>
      simp only [ho] at h
      cases hw : wantA ops o tm0 with
      | none => simp [hw] at h
      | some b =>
        simp only [hw, Option.bind_some] at h
        have shift : ∀ (t : Tr) (m : Nat) (v : AVal), t.T 0 = putT tm0 o.dst v → m ≤ rest.length → (∀ j, j < m → StepOk C ops bf rest t j) → ((m = rest.length ∧ k (t.T m) (t.cur m) = some out) ∨ PanicAt C ops rest kp out t m) →
            StepOk C ops bf (i :: rest) (Tr.cons tm0 hE0 cur0 hist0 v b t) 0 →
            ∃ (t : Tr) (m : Nat), t.T 0 = tm0 ∧ t.hE 0 = hE0 ∧ t.cur 0 = cur0 ∧ t.hist 0 = hist0 ∧ m ≤ (i :: rest).length ∧ (∀ j, j < m → StepOk C ops bf (i :: rest) t j) ∧
              ((m = (i :: rest).length ∧ k (t.T m) (t.cur m) = some out) ∨ PanicAt C ops (i :: rest) kp out t m) := by
          intro t m v h0 hm hst hfin hhead
          refine ⟨Tr.cons tm0 hE0 cur0 hist0 v b t, m + 1, rfl, rfl, rfl, rfl, by simp; omega, fun j hj => ?_, ?_⟩
          · cases j with
            | zero => exact hhead
            | succ j => exact hst j (by omega)
          · rcases hfin with ⟨h1, h2⟩ | ⟨h1, h2⟩
            · exact .inl ⟨by simp [h1], h2⟩
            · exact .inr ⟨by simp; omega, h2⟩
        cases hc : cls o.op with
        | r =>
          simp only [hc] at h
          cases hg : gR b (stepR C o.op (rho C.G tm0) hE0) with
          | none => simp [hg] at h
          | some v =>
            simp only [hg, Option.bind_some] at h
            have key : (readsH o.op = true → stab (fun e => bf e i) (fun h => gR b (stepR C o.op (rho C.G tm0) h)) v hist0) ∧ evDraw C ops bf k kp rest hist0 hE0 cur0 (putT tm0 o.dst v) = some out := by
              split at h
              · rename_i hr
                unfold chk at h
                split at h
                · rename_i hs; exact ⟨fun _ => hs, h⟩
                · cases h
              · rename_i hr; exact ⟨fun h => absurd h hr, h⟩
            obtain ⟨t, m, q1, q2, q3, q4, q5, q6, q7⟩ := trace_ex rest _ _ _ _ key.2
            exact shift t m v q1 q5 q6 q7 ⟨i, o, rfl, ho, hw, q1, .inl ⟨hc, hg, key.1, q2, q3, q4⟩⟩
        | a =>
          simp only [hc, afterA] at h
          cases hg : gA b cur0 (stepA C o.op (rho C.G tm0) cur0) with
          | none => simp [hg] at h
          | some p =>
            obtain ⟨v, H1⟩ := p
            simp only [hg, Option.bind_some] at h
            obtain ⟨t, m, q1, q2, q3, q4, q5, q6, q7⟩ := trace_ex rest _ _ _ _ h
            exact shift t m v q1 q5 q6 q7 ⟨i, o, rfl, ho, hw, q1, .inr (.inl ⟨hc, by rw [show (Tr.cons tm0 hE0 cur0 hist0 v b t).cur (0 + 1) = H1 from q3]; exact hg, q2, q4⟩)⟩
        | e =>
          simp only [hc, afterE] at h
          cases hg : gE b cur0 (stepE C o.op (rho C.G tm0) cur0) with
          | none => simp [hg] at h
          | some p =>
            obtain ⟨res, H1⟩ := p
            simp only [hg, Option.bind_some] at h
            cases res with
            | ret v =>
              obtain ⟨t, m, q1, q2, q3, q4, q5, q6, q7⟩ := trace_ex rest _ _ _ _ h
              exact shift t m v q1 q5 q6 q7 ⟨i, o, rfl, ho, hw, q1, .inr (.inr ⟨hc, by rw [show (Tr.cons tm0 hE0 cur0 hist0 v b t).cur (0 + 1) = H1 from q3]; exact hg, q2.trans q3.symm, q4⟩)⟩
            | pan x =>
              simp only [] at h
              cases rest with
              | nil =>
                simp only [] at h
                have hb : b = true := by
                  cases b with
                  | true => rfl
                  | false => simp [gE] at hg
                subst hb
                refine ⟨⟨fun _ => tm0, fun _ => hE0, fun _ => cur0, fun _ => hist0, fun _ => .undef, fun _ => true⟩, 0, rfl, rfl, rfl, rfl, Nat.zero_le _, fun j hj => by omega, .inr ⟨rfl, i, o, x, H1, rfl, ho, hc, hw, by simpa [gE] using hg, h⟩⟩
              | cons _ _ => cases h
/-- What 'okDraw' says. -/
theorem okFrom_spec : ∀ (rest done : List Nat), okDraw.okFrom ops bf done rest = true →
    (∀ (a : Nat) (j : Nat), rest[a]? = some j → ∃ oj, ops[j]? = some oj ∧ (∀ e ∈ oj.after, Region.binds .any e = true → e.on ∈ done ∨ ∃ b, b < a ∧ rest[b]? = some e.on) ∧
      ∀ i, (i ∈ done ∨ ∃ b, b < a ∧ rest[b]? = some i) → ∃ oi, ops[i]? = some oi ∧ i ≠ j ∧ (bf i j = true ∨ (isE oj = false ∧ oi.apart ops oj = true ∧ oj.apart ops oi = true)) ∧
        (isA oi = true → isE oj = false → ∀ d, oi.dst = some d → d ∉ oj.looksAt ops))
  | [], done, _ => fun a j h => by simp at h
  | x :: rest, done, h => by
    simp only [okDraw.okFrom, Bool.and_eq_true] at h
    obtain ⟨h1, h2⟩ := h
    have ih := okFrom_spec rest (x :: done) h2
    intro a j haj
    cases a with
    | zero =>
      simp at haj; subst haj
      cases ho : ops[x]? with
      | none => simp [ho] at h1
      | some oj =>
        simp only [ho, Bool.and_eq_true] at h1
        obtain ⟨h3, h4⟩ := h1
        refine ⟨oj, rfl, fun e he hb => ?_, fun i hi => ?_⟩
        · have := Array.all_eq_true_iff_forall_mem.1 h3 e he
          simp only [hb, Bool.not_true, Bool.false_or] at this
          exact .inl (by simpa using this)
        · have hi' : i ∈ done := hi.resolve_right (fun ⟨b, hb, _⟩ => by omega)
          have := List.all_eq_true.1 h4 i hi'
          cases hoi : ops[i]? with
          | none => simp [hoi] at this
          | some oi =>
            simp only [hoi, Bool.and_eq_true, bne_iff_ne, Bool.or_eq_true, Bool.not_eq_true'] at this
            obtain ⟨⟨q1, q2⟩, q3⟩ := this
            refine ⟨oi, rfl, q1, ?_, fun ha he d hd => ?_⟩
            · rcases q2 with q2 | ⟨⟨q2, q4⟩, q5⟩
              · exact .inl q2
              · exact .inr ⟨q2, q4, q5⟩
            · rcases q3 with (q3 | q3) | q3
              · rw [ha] at q3; cases q3
              · rw [he] at q3; cases q3
              · simpa [hd] using q3
    | succ a =>
      simp at haj
      obtain ⟨oj, q1, q2, q3⟩ := ih a j haj
      refine ⟨oj, q1, fun e he hb => ?_, fun i hi => q3 i ?_⟩
      · rcases q2 e he hb with q | ⟨b, hb1, hb2⟩
        · rcases List.mem_cons.1 q with q | q
          · exact .inr ⟨0, by omega, by simp [q]⟩
          · exact .inl q
        · exact .inr ⟨b + 1, by omega, by simpa using hb2⟩
      · rcases hi with hi | ⟨b, hb1, hb2⟩
        · exact .inl (by simp [hi])
        · cases b with
          | zero => simp at hb2; exact .inl (by simp [hb2])
          | succ b => exact .inr ⟨b, by omega, by simpa using hb2⟩
end
end Go.Gm
