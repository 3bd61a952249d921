/- The laws of layer 20 on the forms. -/
import Derived.Test.YtenmplcmmdaibaaL2
namespace Go.Gm
set_option linter.unusedVariables false
set_option linter.unusedSimpArgs false
theorem alive_ok (H : AHeap) : Sh.gliderlaw20_alive H = some (.ret (.bool true), H) := by
  unfold Sh.gliderlaw20_alive
  have h1 : ofL [35, 78, 32, 103, 108, 105, 100, 101, 114] = 4 := by decide
  have h2 : ofL [91, 77, 50, 93] = 5 := by decide
  have h3 : ofL [35, 76, 105, 102, 101, 32, 49, 46, 48, 53] = 2 := by decide
  have h4 : ofL [35, 76, 105, 102, 101, 32, 49, 46, 48, 54, 120] = 3 := by decide
  have h5 : ofL [35, 76, 105, 102, 101, 32, 49, 46, 48] = 4 := by decide
  have h6 : ofL [79] = 1 := by decide
  have h7 : ofL [] = 0 := by decide
  have h8 : ofL [111] = 0 := by decide
  have h9 : nameL 4 = [114, 108, 101] := by decide
  have h10 : nameL 6 = [] := by decide
  have h11 : namedL [109, 99] = 5 := by decide
  have h12 : namedL [77, 67] = 0 := by decide
  simp [of_ok, name_ok, named_ok, h1, h2, h3, h4, h5, h6, h7, h8, h9, h10, h11, h12]
theorem tells_ok (b : List UInt8) (n : Int) (H : AHeap) : Sh.gliderlaw20_SniffTells (.str b) (.int .i64 n) H = some (.ret (.bool true), H) := by
  unfold Sh.gliderlaw20_SniffTells
  simp [alive_ok, of_ok, refOf_ok, name_ok, refName_ok, named_ok, refNamed_ok]
theorem prefix_append {p s : List UInt8} (t : List UInt8) (h : p.length ≤ s.length) : p.isPrefixOf (s ++ t) = p.isPrefixOf s := by
  rw [← take_eq_prefix, ← take_eq_prefix, List.take_append_of_le_length h]
theorem prefix_take {p s : List UInt8} (n : Nat) (h : p.length ≤ n) : p.isPrefixOf (s.take n) = p.isPrefixOf s := by
  rw [← take_eq_prefix, ← take_eq_prefix, List.take_take, Nat.min_eq_left h]
theorem of_append {s : List UInt8} (t : List UInt8) (h : 10 ≤ s.length) : ofL (s ++ t) = ofL s := by
  unfold ofL
  rw [prefix_append t (by simp; omega), prefix_append t (by simp; omega), prefix_append t (by simp; omega)]
  cases s with
  | nil => simp at h
  | cons b r => rfl
theorem of_take {s : List UInt8} (h : 10 ≤ s.length) : ofL (s.take 10) = ofL s := by
  unfold ofL
  rw [prefix_take 10 (by simp), prefix_take 10 (by simp), prefix_take 10 (by simp)]
  cases s with
  | nil => simp at h
  | cons b r => rfl
theorem ten_ok (b more : List UInt8) (H : AHeap) (hl : b.length + more.length ≤ 1152921504606846976) : Sh.gliderlaw20_SniffTen (.str b) (.str more) H = some (.ret (.bool true), H) := by
  unfold Sh.gliderlaw20_SniffTen
  by_cases h : b.length < 10
  · have h' : ((b.length : Int) < 10) := by omega
    simp [alive_ok, h']
  · have h' : ¬ ((b.length : Int) < 10) := by omega
    have hs : sliceStr (.str b) none (some (.int .i64 10)) = some (.str (b.take 10)) := by
      simp [sliceStr, boundA]; omega
    have ha : binA .none .add (.str b) (.str more) = some (.str (b ++ more)) := by simp [binA, strBin, hl]
    have hm : min 10 b.length = 10 := by omega
    have ha2 : binA .none .add (.str (b.take 10)) (.str more) = some (.str (b.take 10 ++ more)) := by
      simp [binA, strBin]; omega
    have e1 : ofL (b ++ more) = ofL b := of_append more (by omega)
    have e2 : ofL (b.take 10) = ofL b := of_take (by omega)
    have e3 : ofL (b.take 10 ++ more) = ofL b := by rw [of_append more (by simp; omega), e2]
    simp [alive_ok, h', hs, ha, ha2, of_ok, e1, e2, e3]
end Go.Gm
