/-
  No cell of these rows narrows 'for every input' (looked for: loops, veiled, ifaces, maps, wideKeys, modest, calm, conditions, laid).
  DERIVED. THE GIVEN ROWS OF THIS SEAT. 3 by the template 'for every input the law returns true; each argument reads behind the call as it read before'; 0 by the template 'total and deterministic' (their statements: YtenmplcmmdaibaaTotals.lean).
  GIVEN WITH THE SEED: the statements are not yours to turn. If you find one false, say at which input.
  Laid BY PROGRAM, IN A SANDBOX (cutbox-rows.mjs): the forced cells as the released guide's own fill.sh prints them over the translation a82a9df914570956… (all of the seat's roots in one cut). By AI agents, Wed Nov 11 2026. No macro, syntax, notation, axiom, sorry.
-/
import Derived.Test.YtenmplcmmdaibaaChecked
import GoSem.Claim
import GoSem.ClaimJoined
import GoSem.ClaimMapViews
import Derived.JoinedTies
import Derived.KernelRfl
namespace Go.Proofs.Ytenmplcmmdaibaa
/- THE CELL 'sum', in the pinned program and in every row, IS THE sha256 OF THE DUMP (.gsa) THAT YtenmplcmmdaibaaProg.lean LOADS. Nothing in Lean hashes anything: it is a label: what it is worth is what the hold of that sum in a sandbox is worth. -/
noncomputable def Try.pinned : Pinned := { name := "ytenmplcmmdaibaa", sum := "a82a9df914570956e7453bf9231617f90ec98ff2bac414c011ed642342217e61", checked := Try.checked }
namespace Rows
def none {H : Type} : Left H := { results := [], args := [] }

/-- 'gliderlaw20.SniffTells': WHATEVER THE INPUT: true; the input reads as it did. -/
def sniffTellsSpec : ChangeSpec := { name := "sniffTells", fn := fun _ => fun
  | [d1, d2] => { results := [.lit (.bool true)], args := [d1, d2] }
  | _ => none }
def sniffTellsRow : OpenClaim := { program := "ytenmplcmmdaibaa", sum := "a82a9df914570956e7453bf9231617f90ec98ff2bac414c011ed642342217e61", func := "glider/gliderlaw20.SniffTells", spec := "sniffTells", apart := false }
def SniffTellsSaid : Prop := sniffTellsRow.holds Try.pinned (OpenSpec.ofChange sniffTellsSpec)

/-- ITS FALSE NEIGHBOUR: 'it returns false'. Refute it at one input. -/
def sniffTellsWrong : ChangeSpec := { name := "sniffTells", fn := fun _ => fun
  | [d1, d2] => { results := [.lit (.bool false)], args := [d1, d2] }
  | _ => none }
def SniffTellsWrongFalsely : Prop := sniffTellsRow.holds Try.pinned (OpenSpec.ofChange sniffTellsWrong)

/-- 'gliderlaw20.SniffTen': WHATEVER THE INPUT: true; the input reads as it did. -/
def sniffTenSpec : ChangeSpec := { name := "sniffTen", fn := fun _ => fun
  | [d1, d2] => { results := [.lit (.bool true)], args := [d1, d2] }
  | _ => none }
def sniffTenRow : OpenClaim := { program := "ytenmplcmmdaibaa", sum := "a82a9df914570956e7453bf9231617f90ec98ff2bac414c011ed642342217e61", func := "glider/gliderlaw20.SniffTen", spec := "sniffTen", apart := false }
def SniffTenSaid : Prop := sniffTenRow.holds Try.pinned (OpenSpec.ofChange sniffTenSpec)

/-- ITS FALSE NEIGHBOUR: 'it returns false'. Refute it at one input. -/
def sniffTenWrong : ChangeSpec := { name := "sniffTen", fn := fun _ => fun
  | [d1, d2] => { results := [.lit (.bool false)], args := [d1, d2] }
  | _ => none }
def SniffTenWrongFalsely : Prop := sniffTenRow.holds Try.pinned (OpenSpec.ofChange sniffTenWrong)

/-- 'gliderlaw20.SniffWritten': WHATEVER THE INPUT: true; the input reads as it did. -/
def sniffWrittenSpec : ChangeSpec := { name := "sniffWritten", fn := fun _ => fun
  | [d1, d2] => { results := [.lit (.bool true)], args := [d1, d2] }
  | _ => none }
def sniffWrittenRow : OpenClaim := { program := "ytenmplcmmdaibaa", sum := "a82a9df914570956e7453bf9231617f90ec98ff2bac414c011ed642342217e61", func := "glider/gliderlaw20.SniffWritten", spec := "sniffWritten", recurses := true, apart := false }
def SniffWrittenSaid : Prop := sniffWrittenRow.holds Try.pinned (OpenSpec.ofChange sniffWrittenSpec)

/-- ITS FALSE NEIGHBOUR: 'it returns false'. Refute it at one input. -/
def sniffWrittenWrong : ChangeSpec := { name := "sniffWritten", fn := fun _ => fun
  | [d1, d2] => { results := [.lit (.bool false)], args := [d1, d2] }
  | _ => none }
def SniffWrittenWrongFalsely : Prop := sniffWrittenRow.holds Try.pinned (OpenSpec.ofChange sniffWrittenWrong)

/- THE SECOND FORM. 'bulk': how many values and letters a reading holds, each counted each time it is reached (what is shared counts as often as it is met; a slice's spare places count too). A statement '..UptoSaid' is the law's where the arguments, and the package variables that the reading takes, are together of bulk at most 1048576: NARROWER than '..Said'. Prove '..Said' where nothing that the law and all that it calls make is longer than what came in: it says more and counts as full. Else prove '..UptoSaid'. A law counts once. -/
mutual
def uptoBulk {H : Type} : DataW H → Nat
  | .lit (.string bytes) => bytes.length + 1
  | .lit _ => 1
  | .nil => 1
  | .ptr d => uptoBulk d + 1
  | .slice elems spare => uptoBulkAll elems + uptoBulkAll spare + 1
  | .agg parts => uptoBulkAll parts + 1
  | .iface _ d => uptoBulk d + 1
  | .map entries => uptoBulkEntries entries + 1
  | .held _ => 1
def uptoBulkAll {H : Type} : List (DataW H) → Nat
  | [] => 0
  | d :: r => uptoBulk d + uptoBulkAll r
def uptoBulkEntries {H : Type} : List (Lit × DataW H) → Nat
  | [] => 0
  | x :: r => uptoBulkEntry x + uptoBulkEntries r
def uptoBulkEntry {H : Type} : Lit × DataW H → Nat
  | (.string bytes, d) => bytes.length + uptoBulk d + 1
  | (_, d) => uptoBulk d + 1
 end
def uptoSmall : (H : Type) → List (DataW H) → Bool := fun _ ds => decide (uptoBulkAll ds ≤ 1048576)
def OpenSpec.upto (s : _root_.Go.ChangeSpec) : _root_.Go.OpenSpec := { _root_.Go.OpenSpec.ofChange s with cond := some uptoSmall }

/-- 'gliderlaw20.SniffTells', WHERE WHAT IT READS IS OF BULK AT MOST 1048576: true; the input reads as it did. -/
def sniffTellsUptoRow : OpenClaim := { program := "ytenmplcmmdaibaa", sum := "a82a9df914570956e7453bf9231617f90ec98ff2bac414c011ed642342217e61", func := "glider/gliderlaw20.SniffTells", spec := "sniffTells", apart := false, narrowed := true }
def SniffTellsUptoSaid : Prop := sniffTellsUptoRow.holds Try.pinned (OpenSpec.upto sniffTellsSpec)

/-- 'gliderlaw20.SniffTen', WHERE WHAT IT READS IS OF BULK AT MOST 1048576: true; the input reads as it did. -/
def sniffTenUptoRow : OpenClaim := { program := "ytenmplcmmdaibaa", sum := "a82a9df914570956e7453bf9231617f90ec98ff2bac414c011ed642342217e61", func := "glider/gliderlaw20.SniffTen", spec := "sniffTen", apart := false, narrowed := true }
def SniffTenUptoSaid : Prop := sniffTenUptoRow.holds Try.pinned (OpenSpec.upto sniffTenSpec)

/-- 'gliderlaw20.SniffWritten', WHERE WHAT IT READS IS OF BULK AT MOST 1048576: true; the input reads as it did. -/
def sniffWrittenUptoRow : OpenClaim := { program := "ytenmplcmmdaibaa", sum := "a82a9df914570956e7453bf9231617f90ec98ff2bac414c011ed642342217e61", func := "glider/gliderlaw20.SniffWritten", spec := "sniffWritten", recurses := true, apart := false, narrowed := true }
def SniffWrittenUptoSaid : Prop := sniffWrittenUptoRow.holds Try.pinned (OpenSpec.upto sniffWrittenSpec)

end Rows
end Go.Proofs.Ytenmplcmmdaibaa
