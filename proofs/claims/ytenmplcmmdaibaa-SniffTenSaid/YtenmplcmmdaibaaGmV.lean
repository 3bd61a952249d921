/- How the forms are worked out on values that are known. -/
import Derived.Test.YtenmplcmmdaibaaGmS
namespace Go.Gm
set_option linter.unusedVariables false
section
variable {m : FMode} {H0 H G : AHeap} {k : AVal → AHeap → Out}
@[simp] theorem bindK_ret (v : AVal) : bindK m H0 (some (.ret v, H)) k = k v H := rfl
@[simp] theorem bindN_ret (v : AVal) : bindN (some (.ret v, H)) k = k v H := rfl
@[simp] theorem bindK_pan (v : AVal) : bindK m H0 (some (.pan v, H)) k = fin m H0 (.pan v) H := rfl
@[simp] theorem afterA_some (v : AVal) : afterA (some (v, H)) k = k v H := rfl
@[simp] theorem wantV_bool (b w : Bool) : wantV (.bool b) w = some (b == w) := rfl
@[simp] theorem gR_true (x : Option AVal) : gR true x = x := rfl
@[simp] theorem gR_false (x : Option AVal) : gR false x = some .undef := rfl
@[simp] theorem gE_true (x : Out) : gE true H x = x := rfl
@[simp] theorem gE_false (x : Out) : gE false H x = some (.ret .undef, H) := rfl
@[simp] theorem gA_true (x : Option (AVal × AHeap)) : gA true H x = x := rfl
@[simp] theorem gA_false (x : Option (AVal × AHeap)) : gA false H x = some (.undef, H) := rfl
@[simp] theorem condV_true (a b : AVal) : condV (.bool true) a b = some a := rfl
@[simp] theorem condV_false (a b : AVal) : condV (.bool false) a b = some b := rfl
theorem condV_bool (t : Bool) (a b : AVal) : condV (.bool t) a b = some (if t then a else b) := rfl
@[simp] theorem condA_true (a b : Out) : condA (.bool true) a b = a := rfl
@[simp] theorem condA_false (a b : Out) : condA (.bool false) a b = b := rfl
theorem condA_bool (t : Bool) (a b : Out) : condA (.bool t) a b = if t then a else b := rfl
@[simp] theorem fin_keep (r : Res) : fin .keep H0 r H = some (r, H) := rfl
theorem fin_pure_ret {v : AVal} (h : H.take H0.length = H0) : fin .pure H0 (.ret v) H = (frz H H0.length 8 v).map fun v => (.ret v, H0) := by
  simp only [fin, chk, h, if_true]
@[simp] theorem fin_pure_int {K : IntKind} {n : Int} : fin .pure H0 (.ret (.int K n)) (H0 ++ G) = some (.ret (.int K n), H0) := by
  rw [fin_pure_ret (by simp)]; simp [frz]
@[simp] theorem fin_pure_bool {b : Bool} : fin .pure H0 (.ret (.bool b)) (H0 ++ G) = some (.ret (.bool b), H0) := by
  rw [fin_pure_ret (by simp)]; simp [frz]
@[simp] theorem fin_pure_str {s : List UInt8} : fin .pure H0 (.ret (.str s)) (H0 ++ G) = some (.ret (.str s), H0) := by
  rw [fin_pure_ret (by simp)]; simp [frz]
@[simp] theorem fin_pure_int0 {K : IntKind} {n : Int} : fin .pure H0 (.ret (.int K n)) H0 = some (.ret (.int K n), H0) := by
  rw [fin_pure_ret (by simp)]; simp [frz]
@[simp] theorem fin_pure_bool0 {b : Bool} : fin .pure H0 (.ret (.bool b)) H0 = some (.ret (.bool b), H0) := by
  rw [fin_pure_ret (by simp)]; simp [frz]
@[simp] theorem fin_pure_str0 {s : List UInt8} : fin .pure H0 (.ret (.str s)) H0 = some (.ret (.str s), H0) := by
  rw [fin_pure_ret (by simp)]; simp [frz]
@[simp] theorem retV_some (v : AVal) : retV (some v) H = some (.ret v, H) := rfl
@[simp] theorem retH_some : retH (some H) = some (.ret .undef, H) := rfl
@[simp] theorem retVH_some (v : AVal) : retVH (some (v, H)) = some (.ret v, H) := rfl
end
section
variable {ek : EqK} {k : IntKind} {a b : Int}
@[simp] theorem bin_add : binA ek .add (.int k a) (.int k b) = some (.int k (k.wrap (a + b))) := by simp [binA, isShift, intBin]
@[simp] theorem bin_sub : binA ek .sub (.int k a) (.int k b) = some (.int k (k.wrap (a - b))) := by simp [binA, isShift, intBin]
@[simp] theorem bin_mul : binA ek .mul (.int k a) (.int k b) = some (.int k (k.wrap (a * b))) := by simp [binA, isShift, intBin]
@[simp] theorem bin_eql : binA ek .eql (.int k a) (.int k b) = some (.bool (a == b)) := by simp [binA, isShift, intBin]
@[simp] theorem bin_neq : binA ek .neq (.int k a) (.int k b) = some (.bool (a != b)) := by simp [binA, isShift, intBin]
@[simp] theorem bin_lss : binA ek .lss (.int k a) (.int k b) = some (.bool (decide (a < b))) := by simp [binA, isShift, intBin]
@[simp] theorem bin_leq : binA ek .leq (.int k a) (.int k b) = some (.bool (decide (a ≤ b))) := by simp [binA, isShift, intBin]
@[simp] theorem bin_gtr : binA ek .gtr (.int k a) (.int k b) = some (.bool (decide (a > b))) := by simp [binA, isShift, intBin]
@[simp] theorem bin_geq : binA ek .geq (.int k a) (.int k b) = some (.bool (decide (a ≥ b))) := by simp [binA, isShift, intBin]
variable {s u : List UInt8}
@[simp] theorem bin_seql : binA ek .eql (.str s) (.str u) = some (.bool (s == u)) := rfl
@[simp] theorem bin_sneq : binA ek .neq (.str s) (.str u) = some (.bool (!(s == u))) := rfl
@[simp] theorem un_not {c : Bool} : unA .not (.bool c) = some (.bool (!c)) := rfl
@[simp] theorem len_str : lenStr (.str s) = some (.int .i64 s.length) := rfl
@[simp] theorem len_sl {es : List (List AVal)} {tk : Tok} : lenSl (.sl es tk) = some (.int .i64 es.length) := rfl
@[simp] theorem len_ms {id g off len cap sz : Nat} {ex : Bool} : lenSl (.ms id g off len cap sz ex) = some (.int .i64 len) := rfl
@[simp] theorem fieldAddr_ptr {off id g o : Nat} : fieldAddrA off (.ptr id g o) = some (.ptr id g (o + off)) := rfl
@[simp] theorem fieldAddr_cptr {off o : Nat} {cs : List AVal} : fieldAddrA off (.cptr cs o) = some (.cptr cs (o + off)) := rfl
end
theorem get_last {H : AHeap} {i g : Nat} {cs : List AVal} (h : i = H.length) : getCells (H ++ [.cel g cs]) i g = some cs := by
  subst h; simp [getCells]
theorem wrap_i64 {n : Int} (h0 : -9223372036854775808 ≤ n) (h : n ≤ 9223372036854775807) : IntKind.i64.wrap n = n := by
  have h1 : IntKind.i64.bits = 64 := rfl
  have h2 : IntKind.i64.signed = true := rfl
  unfold IntKind.wrap
  simp only [h1, h2, Bool.true_and, decide_eq_true_eq]
  split <;> omega
/-- A loop's turn. -/
theorem loop_turn {G : (List AVal → AHeap → Out) → List AVal → AHeap → Out} {n : Nat} (h : 0 < n) (vs : List AVal) (H : AHeap) : loopGen G n vs H = G (loopGen G (n - 1)) vs H := by
  cases n with
  | zero => omega
  | succ n => rfl
theorem fuel_pos : 0 < FUEL := by decide
end Go.Gm
