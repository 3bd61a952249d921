/- What the forms of the sniffing functions come to. -/
import Derived.Test.YtenmplcmmdaibaaSh
import Derived.Test.YtenmplcmmdaibaaGmV
namespace Go.Gm
set_option linter.unusedVariables false
theorem take_eq_prefix (s p : List UInt8) : (s.take p.length == p) = p.isPrefixOf s := by
  induction p generalizing s with
  | nil => simp
  | cons a p ih =>
    cases s with
    | nil => simp
    | cons b s =>
      simp only [List.length_cons, List.take_succ_cons, List.isPrefixOf, ← ih s]
      rw [Bool.eq_iff_iff]
      simp
      intro _
      exact eq_comm
theorem hasPrefix_len {s p : List UInt8} (h : ¬ p.length ≤ s.length) : p.isPrefixOf s = false := by
  rw [← take_eq_prefix]
  cases hx : s.take p.length == p with
  | false => rfl
  | true =>
    exfalso
    have := congrArg List.length (eq_of_beq hx)
    simp at this; omega
theorem hasPrefix_ok (s p : List UInt8) (H : AHeap) : Sh.stringslite_HasPrefix (.str s) (.str p) H = some (.ret (.bool (p.isPrefixOf s)), H) := by
  unfold Sh.stringslite_HasPrefix
  by_cases h : p.length ≤ s.length
  · have h' : (p.length : Int) ≤ s.length := by omega
    simp [h', sliceStr, boundA, h, take_eq_prefix]
  · have h' : ¬ (p.length : Int) ≤ s.length := by omega
    simp [h', hasPrefix_len h]
theorem hasPrefix2_ok (s p : List UInt8) (H : AHeap) : Sh.strings_HasPrefix (.str s) (.str p) H = some (.ret (.bool (p.isPrefixOf s)), H) := by
  unfold Sh.strings_HasPrefix
  simp [hasPrefix_ok]
theorem begins_ok (s p : List UInt8) (H : AHeap) : Sh.gliderref20_begins (.str s) (.str p) H = some (.ret (.bool (p.isPrefixOf s)), H) := by
  unfold Sh.gliderref20_begins
  by_cases h : p.length ≤ s.length
  · have h' : (p.length : Int) ≤ s.length := by omega
    simp [h', sliceStr, boundA, h, take_eq_prefix]
  · have h' : ¬ (p.length : Int) ≤ s.length := by omega
    simp [h', hasPrefix_len h]
/-- The first byte's part. -/
def headL (s : List UInt8) : Int :=
  match s with
  | [] => 0
  | b :: _ => if b = 35 ∨ b = 120 then 4 else if b = 33 ∨ b = 46 ∨ b = 79 ∨ b = 10 ∨ b = 13 then 1 else 0
def ofL (s : List UInt8) : Int :=
  if [91, 77, 50, 93].isPrefixOf s then 5
  else if [35, 76, 105, 102, 101, 32, 49, 46, 48, 53].isPrefixOf s then 2
  else if [35, 76, 105, 102, 101, 32, 49, 46, 48, 54].isPrefixOf s then 3
  else headL s
theorem prefix1 (a : UInt8) (s : List UInt8) : [a].isPrefixOf s = (match s with | [] => false | b :: _ => a == b) := by
  cases s with
  | nil => rfl
  | cons b s => simp [List.isPrefixOf]
theorem refOf_ok (s : List UInt8) (H : AHeap) : Sh.gliderref20_Of (.str s) H = some (.ret (.int .i64 (ofL s)), H) := by
  unfold Sh.gliderref20_Of ofL
  simp only [begins_ok, bindK_ret, fin_keep]
  cases h1 : [91, 77, 50, 93].isPrefixOf s with
  | true => simp
  | false =>
    cases h2 : [35, 76, 105, 102, 101, 32, 49, 46, 48, 53].isPrefixOf s with
    | true => simp
    | false =>
      cases h3 : [35, 76, 105, 102, 101, 32, 49, 46, 48, 54].isPrefixOf s with
      | true => simp
      | false =>
        simp only [condA_false, prefix1, Bool.false_eq_true, if_false]
        cases s with
        | nil => simp [begins_ok, prefix1, headL]
        | cons b r =>
          simp only [headL]
          by_cases q1 : b = 35
          · subst q1; simp
          by_cases q2 : b = 120
          · subst q2; simp [begins_ok, prefix1]
          by_cases q3 : b = 33
          · subst q3; simp [begins_ok, prefix1]
          by_cases q4 : b = 46
          · subst q4; simp [begins_ok, prefix1]
          by_cases q5 : b = 79
          · subst q5; simp [begins_ok, prefix1]
          by_cases q6 : b = 10
          · subst q6; simp [begins_ok, prefix1]
          by_cases q7 : b = 13
          · subst q7; simp [begins_ok, prefix1]
          have e : ∀ a : UInt8, b ≠ a → (a == b) = false := fun a h => by simpa using fun x => h x.symm
          simp [begins_ok, prefix1, q1, q2, q3, q4, q5, q6, q7, e 35 q1, e 120 q2, e 33 q3, e 46 q4, e 79 q5, e 10 q6, e 13 q7]
def namesV : List AVal := [.str [], .str [112, 108, 97, 105, 110], .str [108, 105, 102, 101, 49, 48, 53], .str [108, 105, 102, 101, 49, 48, 54], .str [114, 108, 101], .str [109, 99]]
theorem names_ok (H : AHeap) : Sh.sniff_names H = some (.ret (.agg namesV), H) := by
  unfold Sh.sniff_names
  simp [allocA, buildA, fillA, AVal.acells, AVal.isScal, putN, storeA, getCells, loadA, namesV]
  rw [fin_pure_ret (by simp)]
  simp [frz, frzL]
end Go.Gm
