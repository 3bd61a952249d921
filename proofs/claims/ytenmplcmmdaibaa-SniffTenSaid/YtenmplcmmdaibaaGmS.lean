/- Names for what the evaluator comes to at a given function. -/
import Derived.Test.YtenmplcmmdaibaaGmG6
namespace Go.Gm
set_option linter.unusedVariables false
def wantV (v : AVal) (want : Bool) : Option Bool :=
  match (some v : Option AVal) with
  | some (.bool b) => some (b == want)
  | _ => none
noncomputable def bindK (m : FMode) (H0 : AHeap) (x : Out) (k : AVal → AHeap → Out) : Out := afterE x k (fun v H => fin m H0 (.pan v) H)
noncomputable def bindN (x : Out) (k : AVal → AHeap → Out) : Out := afterE x k (fun _ _ => none)
def boxA (b : Bool) (sz : Nat) (x : AVal) (H : AHeap) : Option (AVal × AHeap) :=
  match x.acells with
  | some cs => if !b ∨ cs.length ≠ sz then none else allocA (some cs) H
  | none => none
def panA (x : AVal) (H : AHeap) : Out :=
  match x with
  | .iface t v => some (.pan (.iface t v), H)
  | _ => none
def callV (orc : Orc) (f : AVal) (args : List AVal) (H : AHeap) : Out :=
  match f with
  | .fn g caps => orc g (args ++ caps) H
  | _ => none
def noO : Orc := fun _ _ _ => none
def ent (g : FuncId) (f : List AVal → AHeap → Out) (o : Orc) : Orc := fun h a H => if h = g then f a H else o h a H
def ap0 (f : AHeap → Out) : List AVal → AHeap → Out
  | [], H => f H
  | _, _ => none
def ap1 (f : AVal → AHeap → Out) : List AVal → AHeap → Out
  | [a], H => f a H
  | _, _ => none
def ap2 (f : AVal → AVal → AHeap → Out) : List AVal → AHeap → Out
  | [a, b], H => f a b H
  | _, _ => none
def ap3 (f : AVal → AVal → AVal → AHeap → Out) : List AVal → AHeap → Out
  | [a, b, c], H => f a b c H
  | _, _ => none
def ap4 (f : AVal → AVal → AVal → AVal → AHeap → Out) : List AVal → AHeap → Out
  | [a, b, c, d], H => f a b c d H
  | _, _ => none
def ap5 (f : AVal → AVal → AVal → AVal → AVal → AHeap → Out) : List AVal → AHeap → Out
  | [a, b, c, d, e], H => f a b c d e H
  | _, _ => none
def ap6 (f : AVal → AVal → AVal → AVal → AVal → AVal → AHeap → Out) : List AVal → AHeap → Out
  | [a, b, c, d, e, g], H => f a b c d e g H
  | _, _ => none
def bodyOf (fn : Func) : Code := fn.body.getD .skip
/-- A function's contract: what its form comes to, the call comes to. -/
def FnOk (P : Program) (g : FuncId) (f : List AVal → AHeap → Out) : Prop := ∀ args H res H', f args H = some (res, H') → CallA P (fun _ => none) g args H res H'
theorem orc_no (P : Program) : OrcOk P (fun _ => none) noO := fun g a H res H' h => by cases h
theorem orc_ent {P : Program} {g : FuncId} {f : List AVal → AHeap → Out} {o : Orc} (hf : FnOk P g f) (ho : OrcOk P (fun _ => none) o) : OrcOk P (fun _ => none) (ent g f o) := by
  intro h a H res H' hx
  unfold ent at hx
  split at hx
  · rename_i e; subst e; exact hf a H res H' hx
  · exact ho h a H res H' hx
def mkC (P : Program) (orc : Orc) : Cfg := ⟨P, fun _ => none, fun _ => false, orc⟩
theorem mk_ok {P : Program} {orc : Orc} (ho : OrcOk P (fun _ => none) orc) : CfgOk (mkC P orc) :=
  ⟨⟨fun t h => (by cases h), fun t h => (by cases h)⟩, ⟨fun t kt e ok E H w m k z u v _ h => (by cases h), fun t kt e E H H' w m k x u v y _ h => (by cases h)⟩, ho⟩
theorem enter_run {P : Program} {f : FuncId} {fn : Func} (hf : P.funcs[f]? = some fn) (hb : fn.body.isNone = false) (hn : (fn.name == "runtime.NumGoroutine") = false) (vs : Array Value) (w : World) : (callFunc f vs).run P w = .ok (.enter f vs) w := by
  have h2 : ¬ fn.name = "runtime.NumGoroutine" := fun h => by rw [h] at hn; simp at hn
  have h3 : ¬ fn.body = none := fun h => by rw [h] at hb; cases hb
  simp [callFunc, program, Sem.run_bind, Sem.run, Result.andThen, hf, h2, h3]
theorem fn_call {P : Program} {orc : Orc} (ho : OrcOk P (fun _ => none) orc) (hm : P.follows .mixedOrders = true) {f : FuncId} {fn : Func} {ann : Ann} {m : FMode} (hf : P.funcs[f]? = some fn) (hb : fn.body.isNone = false) (hn : (fn.name == "runtime.NumGoroutine") = false)
    {args : List AVal} {H : AHeap} {res : Res} {H' : AHeap} (h : fnA (mkC P orc) fn (bodyOf fn) ann m args H = some (res, H')) (hl : args.length ≤ fn.ntmps) : CallA P (fun _ => none) f args H res H' := by
  have hb' : fn.body = some (bodyOf fn) := by
    unfold bodyOf
    cases hx : fn.body with
    | none => rw [hx] at hb; cases hb
    | some b => rfl
  exact fn_ok (C := mkC P orc) (mk_ok ho) (draw_ok (mk_ok ho) hm) hf hb' (enter_run hf hb hn) h hl
section
variable {P : Program} {orc : Orc} {f : FuncId} {fn : Func} {ann : Ann} {m : FMode}
theorem fn_ok0 (hm : P.follows .mixedOrders = true) (ho : OrcOk P (fun _ => none) orc) {F : AHeap → Out} (hf : P.funcs[f]? = some fn) (hb : fn.body.isNone = false) (hn : (fn.name == "runtime.NumGoroutine") = false)
    (hl : decide (0 ≤ fn.ntmps) = true) (h : ∀ H, fnA (mkC P orc) fn (bodyOf fn) ann m [] H = F H) : FnOk P f (ap0 F) := by
  intro args H res H' hx
  unfold ap0 at hx
  split at hx
  · exact fn_call ho hm hf hb hn (by rw [h]; exact hx) (of_decide_eq_true hl)
  · cases hx
theorem fn_ok1 (hm : P.follows .mixedOrders = true) (ho : OrcOk P (fun _ => none) orc) {F : AVal → AHeap → Out} (hf : P.funcs[f]? = some fn) (hb : fn.body.isNone = false) (hn : (fn.name == "runtime.NumGoroutine") = false)
    (hl : decide (1 ≤ fn.ntmps) = true) (h : ∀ a H, fnA (mkC P orc) fn (bodyOf fn) ann m [a] H = F a H) : FnOk P f (ap1 F) := by
  intro args H res H' hx
  unfold ap1 at hx
  split at hx
  · exact fn_call ho hm hf hb hn (by rw [h]; exact hx) (of_decide_eq_true hl)
  · cases hx
theorem fn_ok2 (hm : P.follows .mixedOrders = true) (ho : OrcOk P (fun _ => none) orc) {F : AVal → AVal → AHeap → Out} (hf : P.funcs[f]? = some fn) (hb : fn.body.isNone = false) (hn : (fn.name == "runtime.NumGoroutine") = false)
    (hl : decide (2 ≤ fn.ntmps) = true) (h : ∀ a b H, fnA (mkC P orc) fn (bodyOf fn) ann m [a, b] H = F a b H) : FnOk P f (ap2 F) := by
  intro args H res H' hx
  unfold ap2 at hx
  split at hx
  · exact fn_call ho hm hf hb hn (by rw [h]; exact hx) (of_decide_eq_true hl)
  · cases hx
theorem fn_ok3 (hm : P.follows .mixedOrders = true) (ho : OrcOk P (fun _ => none) orc) {F : AVal → AVal → AVal → AHeap → Out} (hf : P.funcs[f]? = some fn) (hb : fn.body.isNone = false) (hn : (fn.name == "runtime.NumGoroutine") = false)
    (hl : decide (3 ≤ fn.ntmps) = true) (h : ∀ a b c H, fnA (mkC P orc) fn (bodyOf fn) ann m [a, b, c] H = F a b c H) : FnOk P f (ap3 F) := by
  intro args H res H' hx
  unfold ap3 at hx
  split at hx
  · exact fn_call ho hm hf hb hn (by rw [h]; exact hx) (of_decide_eq_true hl)
  · cases hx
theorem fn_ok4 (hm : P.follows .mixedOrders = true) (ho : OrcOk P (fun _ => none) orc) {F : AVal → AVal → AVal → AVal → AHeap → Out} (hf : P.funcs[f]? = some fn) (hb : fn.body.isNone = false) (hn : (fn.name == "runtime.NumGoroutine") = false)
    (hl : decide (4 ≤ fn.ntmps) = true) (h : ∀ a b c d H, fnA (mkC P orc) fn (bodyOf fn) ann m [a, b, c, d] H = F a b c d H) : FnOk P f (ap4 F) := by
  intro args H res H' hx
  unfold ap4 at hx
  split at hx
  · exact fn_call ho hm hf hb hn (by rw [h]; exact hx) (of_decide_eq_true hl)
  · cases hx
end
end Go.Gm
