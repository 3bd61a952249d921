/-
  No cell of these rows narrows 'for every input' (looked for: loops, veiled, ifaces, maps, wideKeys, modest, calm, conditions, laid).
  DERIVED. THE GIVEN ROWS OF THIS SEAT. 9 by the template 'for every input the law returns true; each argument reads behind the call as it read before'; 0 by the template 'total and deterministic' (their statements: YtagddbecnkbcdaaGreatTotals.lean).
  GIVEN WITH THE SEED: the statements are not yours to turn. If you find one false, say at which input.
  Laid BY PROGRAM, IN A SANDBOX (cutbox-rows.mjs): the forced cells as the released guide's own fill.sh prints them over the translation 6049d97f6f231fca… (all of the seat's roots in one cut). By AI agents, Wed Nov 11 2026. No macro, syntax, notation, axiom, sorry.
-/
import Derived.Test.YtagddbecnkbcdaaGreatChecked
import GoSem.Claim
import GoSem.ClaimJoined
import GoSem.ClaimMapViews
import Derived.JoinedTies
import Derived.KernelRfl
namespace Go.Proofs.YtagddbecnkbcdaaGreat
/- THE CELL 'sum', in the pinned program and in every row, IS THE sha256 OF THE DUMP (.gsa) THAT YtagddbecnkbcdaaGreatProg.lean LOADS. Nothing in Lean hashes anything: it is a label: what it is worth is what the hold of that sum in a sandbox is worth. -/
noncomputable def Tryz.pinned : Pinned := { name := "ytagddbecnkbcdaagreat", sum := "6049d97f6f231fcab48f5c506a3efe09301269a14aef8c728dd1e7458edd0043", checked := Tryz.checked }
namespace Rows
def none {H : Type} : Left H := { results := [], args := [] }

/-- 'gliderlaw17.SpotReads': WHATEVER THE INPUT: true; the input reads as it did. -/
def spotReadsSpec : ChangeSpec := { name := "spotReads", fn := fun _ => fun
  | [d1, d2] => { results := [.lit (.bool true)], args := [d1, d2] }
  | _ => none }
def spotReadsRow : OpenClaim := { program := "ytagddbecnkbcdaagreat", sum := "6049d97f6f231fcab48f5c506a3efe09301269a14aef8c728dd1e7458edd0043", func := "glider/gliderlaw17.SpotReads", spec := "spotReads", inPlace := ["internal/bytealg.IndexByteString"], unfollowed := true, recurses := true, plainKeys := false, apart := false }
def SpotReadsSaid : Prop := spotReadsRow.holds Tryz.pinned (OpenSpec.ofChange spotReadsSpec)

/-- ITS FALSE NEIGHBOUR: 'it returns false'. Refute it at one input. -/
def spotReadsWrong : ChangeSpec := { name := "spotReads", fn := fun _ => fun
  | [d1, d2] => { results := [.lit (.bool false)], args := [d1, d2] }
  | _ => none }
def SpotReadsWrongFalsely : Prop := spotReadsRow.holds Tryz.pinned (OpenSpec.ofChange spotReadsWrong)

/-- 'gliderlaw17.SpotBack': WHATEVER THE INPUT: true; the input reads as it did. -/
def spotBackSpec : ChangeSpec := { name := "spotBack", fn := fun _ => fun
  | [d1, d2] => { results := [.lit (.bool true)], args := [d1, d2] }
  | _ => none }
def spotBackRow : OpenClaim := { program := "ytagddbecnkbcdaagreat", sum := "6049d97f6f231fcab48f5c506a3efe09301269a14aef8c728dd1e7458edd0043", func := "glider/gliderlaw17.SpotBack", spec := "spotBack", inPlace := ["internal/bytealg.IndexByteString"], unfollowed := true, recurses := true, plainKeys := false, apart := false }
def SpotBackSaid : Prop := spotBackRow.holds Tryz.pinned (OpenSpec.ofChange spotBackSpec)

/-- ITS FALSE NEIGHBOUR: 'it returns false'. Refute it at one input. -/
def spotBackWrong : ChangeSpec := { name := "spotBack", fn := fun _ => fun
  | [d1, d2] => { results := [.lit (.bool false)], args := [d1, d2] }
  | _ => none }
def SpotBackWrongFalsely : Prop := spotBackRow.holds Tryz.pinned (OpenSpec.ofChange spotBackWrong)

/-- 'gliderlaw17.SpotTurn': WHATEVER THE INPUT: true; the input reads as it did. -/
def spotTurnSpec : ChangeSpec := { name := "spotTurn", fn := fun _ => fun
  | [d1, d2] => { results := [.lit (.bool true)], args := [d1, d2] }
  | _ => none }
def spotTurnRow : OpenClaim := { program := "ytagddbecnkbcdaagreat", sum := "6049d97f6f231fcab48f5c506a3efe09301269a14aef8c728dd1e7458edd0043", func := "glider/gliderlaw17.SpotTurn", spec := "spotTurn", inPlace := ["internal/bytealg.IndexByteString"], unfollowed := true, recurses := true, plainKeys := false, apart := false }
def SpotTurnSaid : Prop := spotTurnRow.holds Tryz.pinned (OpenSpec.ofChange spotTurnSpec)

/-- ITS FALSE NEIGHBOUR: 'it returns false'. Refute it at one input. -/
def spotTurnWrong : ChangeSpec := { name := "spotTurn", fn := fun _ => fun
  | [d1, d2] => { results := [.lit (.bool false)], args := [d1, d2] }
  | _ => none }
def SpotTurnWrongFalsely : Prop := spotTurnRow.holds Tryz.pinned (OpenSpec.ofChange spotTurnWrong)

/-- 'gliderlaw16.BlockReads': WHATEVER THE INPUT: true; the input reads as it did. -/
def blockReadsSpec : ChangeSpec := { name := "blockReads", fn := fun _ => fun
  | [d1, d2] => { results := [.lit (.bool true)], args := [d1, d2] }
  | _ => none }
def blockReadsRow : OpenClaim := { program := "ytagddbecnkbcdaagreat", sum := "6049d97f6f231fcab48f5c506a3efe09301269a14aef8c728dd1e7458edd0043", func := "glider/gliderlaw16.BlockReads", spec := "blockReads", inPlace := ["internal/bytealg.IndexByteString"], unfollowed := true, recurses := true, plainKeys := false, apart := false }
def BlockReadsSaid : Prop := blockReadsRow.holds Tryz.pinned (OpenSpec.ofChange blockReadsSpec)

/-- ITS FALSE NEIGHBOUR: 'it returns false'. Refute it at one input. -/
def blockReadsWrong : ChangeSpec := { name := "blockReads", fn := fun _ => fun
  | [d1, d2] => { results := [.lit (.bool false)], args := [d1, d2] }
  | _ => none }
def BlockReadsWrongFalsely : Prop := blockReadsRow.holds Tryz.pinned (OpenSpec.ofChange blockReadsWrong)

/-- 'gliderlaw16.BlockBack': WHATEVER THE INPUT: true; the input reads as it did. -/
def blockBackSpec : ChangeSpec := { name := "blockBack", fn := fun _ => fun
  | [d1, d2] => { results := [.lit (.bool true)], args := [d1, d2] }
  | _ => none }
def blockBackRow : OpenClaim := { program := "ytagddbecnkbcdaagreat", sum := "6049d97f6f231fcab48f5c506a3efe09301269a14aef8c728dd1e7458edd0043", func := "glider/gliderlaw16.BlockBack", spec := "blockBack", inPlace := ["internal/bytealg.IndexByteString"], unfollowed := true, recurses := true, plainKeys := false, apart := false }
def BlockBackSaid : Prop := blockBackRow.holds Tryz.pinned (OpenSpec.ofChange blockBackSpec)

/-- ITS FALSE NEIGHBOUR: 'it returns false'. Refute it at one input. -/
def blockBackWrong : ChangeSpec := { name := "blockBack", fn := fun _ => fun
  | [d1, d2] => { results := [.lit (.bool false)], args := [d1, d2] }
  | _ => none }
def BlockBackWrongFalsely : Prop := blockBackRow.holds Tryz.pinned (OpenSpec.ofChange blockBackWrong)

/-- 'gliderlaw16.BlockTurn': WHATEVER THE INPUT: true; the input reads as it did. -/
def blockTurnSpec : ChangeSpec := { name := "blockTurn", fn := fun _ => fun
  | [d1, d2] => { results := [.lit (.bool true)], args := [d1, d2] }
  | _ => none }
def blockTurnRow : OpenClaim := { program := "ytagddbecnkbcdaagreat", sum := "6049d97f6f231fcab48f5c506a3efe09301269a14aef8c728dd1e7458edd0043", func := "glider/gliderlaw16.BlockTurn", spec := "blockTurn", inPlace := ["internal/bytealg.IndexByteString"], unfollowed := true, recurses := true, plainKeys := false, apart := false }
def BlockTurnSaid : Prop := blockTurnRow.holds Tryz.pinned (OpenSpec.ofChange blockTurnSpec)

/-- ITS FALSE NEIGHBOUR: 'it returns false'. Refute it at one input. -/
def blockTurnWrong : ChangeSpec := { name := "blockTurn", fn := fun _ => fun
  | [d1, d2] => { results := [.lit (.bool false)], args := [d1, d2] }
  | _ => none }
def BlockTurnWrongFalsely : Prop := blockTurnRow.holds Tryz.pinned (OpenSpec.ofChange blockTurnWrong)

/-- 'gliderlaw18.RleReads': WHATEVER THE INPUT: true; the input reads as it did. -/
def rleReadsSpec : ChangeSpec := { name := "rleReads", fn := fun _ => fun
  | [d1, d2] => { results := [.lit (.bool true)], args := [d1, d2] }
  | _ => none }
def rleReadsRow : OpenClaim := { program := "ytagddbecnkbcdaagreat", sum := "6049d97f6f231fcab48f5c506a3efe09301269a14aef8c728dd1e7458edd0043", func := "glider/gliderlaw18.RleReads", spec := "rleReads", inPlace := ["internal/bytealg.IndexByteString"], unfollowed := true, recurses := true, plainKeys := false, apart := false }
def RleReadsSaid : Prop := rleReadsRow.holds Tryz.pinned (OpenSpec.ofChange rleReadsSpec)

/-- ITS FALSE NEIGHBOUR: 'it returns false'. Refute it at one input. -/
def rleReadsWrong : ChangeSpec := { name := "rleReads", fn := fun _ => fun
  | [d1, d2] => { results := [.lit (.bool false)], args := [d1, d2] }
  | _ => none }
def RleReadsWrongFalsely : Prop := rleReadsRow.holds Tryz.pinned (OpenSpec.ofChange rleReadsWrong)

/-- 'gliderlaw18.RleBack': WHATEVER THE INPUT: true; the input reads as it did. -/
def rleBackSpec : ChangeSpec := { name := "rleBack", fn := fun _ => fun
  | [d1, d2] => { results := [.lit (.bool true)], args := [d1, d2] }
  | _ => none }
def rleBackRow : OpenClaim := { program := "ytagddbecnkbcdaagreat", sum := "6049d97f6f231fcab48f5c506a3efe09301269a14aef8c728dd1e7458edd0043", func := "glider/gliderlaw18.RleBack", spec := "rleBack", inPlace := ["internal/bytealg.IndexByteString"], unfollowed := true, recurses := true, plainKeys := false, apart := false }
def RleBackSaid : Prop := rleBackRow.holds Tryz.pinned (OpenSpec.ofChange rleBackSpec)

/-- ITS FALSE NEIGHBOUR: 'it returns false'. Refute it at one input. -/
def rleBackWrong : ChangeSpec := { name := "rleBack", fn := fun _ => fun
  | [d1, d2] => { results := [.lit (.bool false)], args := [d1, d2] }
  | _ => none }
def RleBackWrongFalsely : Prop := rleBackRow.holds Tryz.pinned (OpenSpec.ofChange rleBackWrong)

/-- 'gliderlaw18.RleBlanks': WHATEVER THE INPUT: true; the input reads as it did. -/
def rleBlanksSpec : ChangeSpec := { name := "rleBlanks", fn := fun _ => fun
  | [d1, d2, d3] => { results := [.lit (.bool true)], args := [d1, d2, d3] }
  | _ => none }
def rleBlanksRow : OpenClaim := { program := "ytagddbecnkbcdaagreat", sum := "6049d97f6f231fcab48f5c506a3efe09301269a14aef8c728dd1e7458edd0043", func := "glider/gliderlaw18.RleBlanks", spec := "rleBlanks", inPlace := ["internal/bytealg.IndexByteString"], unfollowed := true, recurses := true, plainKeys := false, apart := false }
def RleBlanksSaid : Prop := rleBlanksRow.holds Tryz.pinned (OpenSpec.ofChange rleBlanksSpec)

/-- ITS FALSE NEIGHBOUR: 'it returns false'. Refute it at one input. -/
def rleBlanksWrong : ChangeSpec := { name := "rleBlanks", fn := fun _ => fun
  | [d1, d2, d3] => { results := [.lit (.bool false)], args := [d1, d2, d3] }
  | _ => none }
def RleBlanksWrongFalsely : Prop := rleBlanksRow.holds Tryz.pinned (OpenSpec.ofChange rleBlanksWrong)

/- THE SECOND FORM. 'bulk': how many values and letters a reading holds, each counted each time it is reached (what is shared counts as often as it is met; a slice's spare places count too). A statement '..UptoSaid' is the law's where the arguments, and the package variables that the reading takes, are together of bulk at most 1048576: NARROWER than '..Said'. Prove '..Said' where nothing that the law and all that it calls make is longer than what came in: it says more and counts as full. Else prove '..UptoSaid'. A law counts once. -/
mutual
def uptoBulk {H : Type} : DataW H → Nat
  | .lit (.string bytes) => bytes.length + 1
  | .lit _ => 1
  | .nil => 1
  | .ptr d => uptoBulk d + 1
  | .slice elems spare => uptoBulkAll elems + uptoBulkAll spare + 1
  | .agg parts => uptoBulkAll parts + 1
  | .iface _ d => uptoBulk d + 1
  | .map entries => uptoBulkEntries entries + 1
  | .held _ => 1
def uptoBulkAll {H : Type} : List (DataW H) → Nat
  | [] => 0
  | d :: r => uptoBulk d + uptoBulkAll r
def uptoBulkEntries {H : Type} : List (Lit × DataW H) → Nat
  | [] => 0
  | x :: r => uptoBulkEntry x + uptoBulkEntries r
def uptoBulkEntry {H : Type} : Lit × DataW H → Nat
  | (.string bytes, d) => bytes.length + uptoBulk d + 1
  | (_, d) => uptoBulk d + 1
 end
def uptoSmall : (H : Type) → List (DataW H) → Bool := fun _ ds => decide (uptoBulkAll ds ≤ 1048576)
def OpenSpec.upto (s : _root_.Go.ChangeSpec) : _root_.Go.OpenSpec := { _root_.Go.OpenSpec.ofChange s with cond := some uptoSmall }

/-- 'gliderlaw17.SpotReads', WHERE WHAT IT READS IS OF BULK AT MOST 1048576: true; the input reads as it did. -/
def spotReadsUptoRow : OpenClaim := { program := "ytagddbecnkbcdaagreat", sum := "6049d97f6f231fcab48f5c506a3efe09301269a14aef8c728dd1e7458edd0043", func := "glider/gliderlaw17.SpotReads", spec := "spotReads", inPlace := ["internal/bytealg.IndexByteString"], unfollowed := true, recurses := true, plainKeys := false, apart := false, narrowed := true }
def SpotReadsUptoSaid : Prop := spotReadsUptoRow.holds Tryz.pinned (OpenSpec.upto spotReadsSpec)

/-- 'gliderlaw17.SpotBack', WHERE WHAT IT READS IS OF BULK AT MOST 1048576: true; the input reads as it did. -/
def spotBackUptoRow : OpenClaim := { program := "ytagddbecnkbcdaagreat", sum := "6049d97f6f231fcab48f5c506a3efe09301269a14aef8c728dd1e7458edd0043", func := "glider/gliderlaw17.SpotBack", spec := "spotBack", inPlace := ["internal/bytealg.IndexByteString"], unfollowed := true, recurses := true, plainKeys := false, apart := false, narrowed := true }
def SpotBackUptoSaid : Prop := spotBackUptoRow.holds Tryz.pinned (OpenSpec.upto spotBackSpec)

/-- 'gliderlaw17.SpotTurn', WHERE WHAT IT READS IS OF BULK AT MOST 1048576: true; the input reads as it did. -/
def spotTurnUptoRow : OpenClaim := { program := "ytagddbecnkbcdaagreat", sum := "6049d97f6f231fcab48f5c506a3efe09301269a14aef8c728dd1e7458edd0043", func := "glider/gliderlaw17.SpotTurn", spec := "spotTurn", inPlace := ["internal/bytealg.IndexByteString"], unfollowed := true, recurses := true, plainKeys := false, apart := false, narrowed := true }
def SpotTurnUptoSaid : Prop := spotTurnUptoRow.holds Tryz.pinned (OpenSpec.upto spotTurnSpec)

/-- 'gliderlaw16.BlockReads', WHERE WHAT IT READS IS OF BULK AT MOST 1048576: true; the input reads as it did. -/
def blockReadsUptoRow : OpenClaim := { program := "ytagddbecnkbcdaagreat", sum := "6049d97f6f231fcab48f5c506a3efe09301269a14aef8c728dd1e7458edd0043", func := "glider/gliderlaw16.BlockReads", spec := "blockReads", inPlace := ["internal/bytealg.IndexByteString"], unfollowed := true, recurses := true, plainKeys := false, apart := false, narrowed := true }
def BlockReadsUptoSaid : Prop := blockReadsUptoRow.holds Tryz.pinned (OpenSpec.upto blockReadsSpec)

/-- 'gliderlaw16.BlockBack', WHERE WHAT IT READS IS OF BULK AT MOST 1048576: true; the input reads as it did. -/
def blockBackUptoRow : OpenClaim := { program := "ytagddbecnkbcdaagreat", sum := "6049d97f6f231fcab48f5c506a3efe09301269a14aef8c728dd1e7458edd0043", func := "glider/gliderlaw16.BlockBack", spec := "blockBack", inPlace := ["internal/bytealg.IndexByteString"], unfollowed := true, recurses := true, plainKeys := false, apart := false, narrowed := true }
def BlockBackUptoSaid : Prop := blockBackUptoRow.holds Tryz.pinned (OpenSpec.upto blockBackSpec)

/-- 'gliderlaw16.BlockTurn', WHERE WHAT IT READS IS OF BULK AT MOST 1048576: true; the input reads as it did. -/
def blockTurnUptoRow : OpenClaim := { program := "ytagddbecnkbcdaagreat", sum := "6049d97f6f231fcab48f5c506a3efe09301269a14aef8c728dd1e7458edd0043", func := "glider/gliderlaw16.BlockTurn", spec := "blockTurn", inPlace := ["internal/bytealg.IndexByteString"], unfollowed := true, recurses := true, plainKeys := false, apart := false, narrowed := true }
def BlockTurnUptoSaid : Prop := blockTurnUptoRow.holds Tryz.pinned (OpenSpec.upto blockTurnSpec)

/-- 'gliderlaw18.RleReads', WHERE WHAT IT READS IS OF BULK AT MOST 1048576: true; the input reads as it did. -/
def rleReadsUptoRow : OpenClaim := { program := "ytagddbecnkbcdaagreat", sum := "6049d97f6f231fcab48f5c506a3efe09301269a14aef8c728dd1e7458edd0043", func := "glider/gliderlaw18.RleReads", spec := "rleReads", inPlace := ["internal/bytealg.IndexByteString"], unfollowed := true, recurses := true, plainKeys := false, apart := false, narrowed := true }
def RleReadsUptoSaid : Prop := rleReadsUptoRow.holds Tryz.pinned (OpenSpec.upto rleReadsSpec)

/-- 'gliderlaw18.RleBack', WHERE WHAT IT READS IS OF BULK AT MOST 1048576: true; the input reads as it did. -/
def rleBackUptoRow : OpenClaim := { program := "ytagddbecnkbcdaagreat", sum := "6049d97f6f231fcab48f5c506a3efe09301269a14aef8c728dd1e7458edd0043", func := "glider/gliderlaw18.RleBack", spec := "rleBack", inPlace := ["internal/bytealg.IndexByteString"], unfollowed := true, recurses := true, plainKeys := false, apart := false, narrowed := true }
def RleBackUptoSaid : Prop := rleBackUptoRow.holds Tryz.pinned (OpenSpec.upto rleBackSpec)

/-- 'gliderlaw18.RleBlanks', WHERE WHAT IT READS IS OF BULK AT MOST 1048576: true; the input reads as it did. -/
def rleBlanksUptoRow : OpenClaim := { program := "ytagddbecnkbcdaagreat", sum := "6049d97f6f231fcab48f5c506a3efe09301269a14aef8c728dd1e7458edd0043", func := "glider/gliderlaw18.RleBlanks", spec := "rleBlanks", inPlace := ["internal/bytealg.IndexByteString"], unfollowed := true, recurses := true, plainKeys := false, apart := false, narrowed := true }
def RleBlanksUptoSaid : Prop := rleBlanksUptoRow.holds Tryz.pinned (OpenSpec.upto rleBlanksSpec)

end Rows
end Go.Proofs.YtagddbecnkbcdaaGreat
