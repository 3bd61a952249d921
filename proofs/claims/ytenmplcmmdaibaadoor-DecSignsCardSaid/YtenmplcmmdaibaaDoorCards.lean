/-
  DERIVED. GIVEN WITH THE SEED: THE CARDS: each row of YtenmplcmmdaibaaDoorRows.lean that lists a variable, with what it lists TIED to the program's text (the seventh form; the later family's looks); each row that meets fmt, with fmt's text TOLD by the authors' own Lean function (tested against real Go, not proved from fmt's source: count such statements apart). THE CARD IS WHAT COUNTS. Prove the row's statement (the work); the ties are given (YtenmplcmmdaibaaDoorTie.lean); close each card by the builder's one call (the guide's Derived/Test/ToyasCard.lean, 'card_holds'). Laid BY PROGRAM, IN A SANDBOX (cutbox-door.mjs). By AI agents, Wed Nov 11 2026. No macro, syntax, notation, axiom, sorry.
-/
import Derived.Test.YtenmplcmmdaibaaDoorRows
import GoSem.ClaimSeven
namespace Go.Proofs.YtenmplcmmdaibaaDoor
namespace Rows

/-- THE TIED CARD OF 'gliderlaw03.DecTexts'. -/
def decTextsCard : Claim7 := { stood := { row := decTextsRow, standIns := [], harness := (true, "3ea7c73eac72133bd0b4e12334d6dfa644c7ee30f7a0b5c30147153d1063da53"), looks := false }, kinds := [], alts := [], laidByText := true, laidKinds := [.data, .data, .data, .data, .pinned], laidTests := true, laidLooks := .later }
def DecTextsCardSaid : Prop := Claim7.holds Tryd.pinned (.plain (OpenSpec.ofChange decTextsSpec)) decTextsCard

/-- THE TIED CARD OF 'gliderlaw03.DecBack'. -/
def decBackCard : Claim7 := { stood := { row := decBackRow, standIns := [], harness := (true, "3ea7c73eac72133bd0b4e12334d6dfa644c7ee30f7a0b5c30147153d1063da53"), looks := false }, kinds := [], alts := [], laidByText := true, laidKinds := [.data, .data, .data, .data, .pinned], laidTests := true, laidLooks := .later }
def DecBackCardSaid : Prop := Claim7.holds Tryd.pinned (.plain (OpenSpec.ofChange decBackSpec)) decBackCard

/-- THE TIED CARD OF 'gliderlaw03.DecLong'. -/
def decLongCard : Claim7 := { stood := { row := decLongRow, standIns := [], harness := (true, "3ea7c73eac72133bd0b4e12334d6dfa644c7ee30f7a0b5c30147153d1063da53"), looks := false }, kinds := [], alts := [], laidByText := true, laidKinds := [.data, .data, .data, .data, .pinned], laidTests := true, laidLooks := .later }
def DecLongCardSaid : Prop := Claim7.holds Tryd.pinned (.plain (OpenSpec.ofChange decLongSpec)) decLongCard

/-- THE TIED CARD OF 'gliderlaw03.DecSigns'. -/
def decSignsCard : Claim7 := { stood := { row := decSignsRow, standIns := [], harness := (true, "3ea7c73eac72133bd0b4e12334d6dfa644c7ee30f7a0b5c30147153d1063da53"), looks := false }, kinds := [], alts := [], laidByText := true, laidKinds := [.data, .data, .data, .data, .pinned], laidTests := true, laidLooks := .later }
def DecSignsCardSaid : Prop := Claim7.holds Tryd.pinned (.plain (OpenSpec.ofChange decSignsSpec)) decSignsCard

/-- THE SECOND FORM's CARD OF 'gliderlaw03.DecTexts'. -/
def decTextsUptoCard : Claim7 := { stood := { row := decTextsUptoRow, standIns := [], harness := (true, "3ea7c73eac72133bd0b4e12334d6dfa644c7ee30f7a0b5c30147153d1063da53"), looks := false }, kinds := [], alts := [], laidByText := true, laidKinds := [.data, .data, .data, .data, .pinned], laidTests := true, laidLooks := .later }
def DecTextsUptoCardSaid : Prop := Claim7.holds Tryd.pinned (.plain (OpenSpec.upto decTextsSpec)) decTextsUptoCard

/-- THE SECOND FORM's CARD OF 'gliderlaw03.DecBack'. -/
def decBackUptoCard : Claim7 := { stood := { row := decBackUptoRow, standIns := [], harness := (true, "3ea7c73eac72133bd0b4e12334d6dfa644c7ee30f7a0b5c30147153d1063da53"), looks := false }, kinds := [], alts := [], laidByText := true, laidKinds := [.data, .data, .data, .data, .pinned], laidTests := true, laidLooks := .later }
def DecBackUptoCardSaid : Prop := Claim7.holds Tryd.pinned (.plain (OpenSpec.upto decBackSpec)) decBackUptoCard

/-- THE SECOND FORM's CARD OF 'gliderlaw03.DecLong'. -/
def decLongUptoCard : Claim7 := { stood := { row := decLongUptoRow, standIns := [], harness := (true, "3ea7c73eac72133bd0b4e12334d6dfa644c7ee30f7a0b5c30147153d1063da53"), looks := false }, kinds := [], alts := [], laidByText := true, laidKinds := [.data, .data, .data, .data, .pinned], laidTests := true, laidLooks := .later }
def DecLongUptoCardSaid : Prop := Claim7.holds Tryd.pinned (.plain (OpenSpec.upto decLongSpec)) decLongUptoCard

/-- THE SECOND FORM's CARD OF 'gliderlaw03.DecSigns'. -/
def decSignsUptoCard : Claim7 := { stood := { row := decSignsUptoRow, standIns := [], harness := (true, "3ea7c73eac72133bd0b4e12334d6dfa644c7ee30f7a0b5c30147153d1063da53"), looks := false }, kinds := [], alts := [], laidByText := true, laidKinds := [.data, .data, .data, .data, .pinned], laidTests := true, laidLooks := .later }
def DecSignsUptoCardSaid : Prop := Claim7.holds Tryd.pinned (.plain (OpenSpec.upto decSignsSpec)) decSignsUptoCard
end Rows
end Go.Proofs.YtenmplcmmdaibaaDoor
