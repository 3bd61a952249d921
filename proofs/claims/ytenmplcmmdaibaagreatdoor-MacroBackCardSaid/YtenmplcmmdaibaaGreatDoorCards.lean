/-
  DERIVED. GIVEN WITH THE SEED: THE CARDS: each row of YtenmplcmmdaibaaGreatDoorRows.lean that lists a variable, with what it lists TIED to the program's text (the seventh form; the later family's looks); each row that meets fmt, with fmt's text TOLD by the authors' own Lean function (tested against real Go, not proved from fmt's source: count such statements apart). THE CARD IS WHAT COUNTS. Prove the row's statement (the work); the ties are given (YtenmplcmmdaibaaGreatDoorTie.lean); close each card by the builder's one call (the guide's Derived/Test/ToyasCard.lean, 'card_holds'). Laid BY PROGRAM, IN A SANDBOX (cutbox-door.mjs). By AI agents, Wed Nov 11 2026. No macro, syntax, notation, axiom, sorry.
-/
import Derived.Test.YtenmplcmmdaibaaGreatDoorRows
import GoSem.ClaimSeven
namespace Go.Proofs.YtenmplcmmdaibaaGreatDoor
namespace Rows

/-- THE TIED CARD OF 'gliderlaw19.MacroReads'. -/
def macroReadsCard : Claim7 := { stood := { row := macroReadsRow, standIns := [], harness := (true, "6ac1897fa151fbd8b32007692cd3c82d0528b476b84f1c0dcd4211ed98f3eceb"), looks := true }, kinds := [], alts := [], laidByText := true, laidKinds := [.data, .data, .data], laidTests := true, laidLooks := .later }
def MacroReadsCardSaid : Prop := Claim7.holds Tryz.pinned (.plain (OpenSpec.ofChange macroReadsSpec)) macroReadsCard

/-- THE TIED CARD OF 'gliderlaw19.MacroBack'. -/
def macroBackCard : Claim7 := { stood := { row := macroBackRow, standIns := [], harness := (true, "6ac1897fa151fbd8b32007692cd3c82d0528b476b84f1c0dcd4211ed98f3eceb"), looks := true }, kinds := [], alts := [], laidByText := true, laidKinds := [.data, .data, .data], laidTests := true, laidLooks := .later }
def MacroBackCardSaid : Prop := Claim7.holds Tryz.pinned (.plain (OpenSpec.ofChange macroBackSpec)) macroBackCard

/-- THE TIED CARD OF 'gliderlaw19.MacroLoose'. -/
def macroLooseCard : Claim7 := { stood := { row := macroLooseRow, standIns := [], harness := (true, "6ac1897fa151fbd8b32007692cd3c82d0528b476b84f1c0dcd4211ed98f3eceb"), looks := true }, kinds := [], alts := [], laidByText := true, laidKinds := [.data, .data, .data], laidTests := true, laidLooks := .later }
def MacroLooseCardSaid : Prop := Claim7.holds Tryz.pinned (.plain (OpenSpec.ofChange macroLooseSpec)) macroLooseCard

/-- THE TIED CARD OF 'gliderlaw19.MacroIdle'. -/
def macroIdleCard : Claim7 := { stood := { row := macroIdleRow, standIns := [], harness := (true, "6ac1897fa151fbd8b32007692cd3c82d0528b476b84f1c0dcd4211ed98f3eceb"), looks := true }, kinds := [], alts := [], laidByText := true, laidKinds := [.data, .data, .data], laidTests := true, laidLooks := .later }
def MacroIdleCardSaid : Prop := Claim7.holds Tryz.pinned (.plain (OpenSpec.ofChange macroIdleSpec)) macroIdleCard

/-- THE SECOND FORM's CARD OF 'gliderlaw19.MacroReads'. -/
def macroReadsUptoCard : Claim7 := { stood := { row := macroReadsUptoRow, standIns := [], harness := (true, "6ac1897fa151fbd8b32007692cd3c82d0528b476b84f1c0dcd4211ed98f3eceb"), looks := true }, kinds := [], alts := [], laidByText := true, laidKinds := [.data, .data, .data], laidTests := true, laidLooks := .later }
def MacroReadsUptoCardSaid : Prop := Claim7.holds Tryz.pinned (.plain (OpenSpec.upto macroReadsSpec)) macroReadsUptoCard

/-- THE SECOND FORM's CARD OF 'gliderlaw19.MacroBack'. -/
def macroBackUptoCard : Claim7 := { stood := { row := macroBackUptoRow, standIns := [], harness := (true, "6ac1897fa151fbd8b32007692cd3c82d0528b476b84f1c0dcd4211ed98f3eceb"), looks := true }, kinds := [], alts := [], laidByText := true, laidKinds := [.data, .data, .data], laidTests := true, laidLooks := .later }
def MacroBackUptoCardSaid : Prop := Claim7.holds Tryz.pinned (.plain (OpenSpec.upto macroBackSpec)) macroBackUptoCard

/-- THE SECOND FORM's CARD OF 'gliderlaw19.MacroLoose'. -/
def macroLooseUptoCard : Claim7 := { stood := { row := macroLooseUptoRow, standIns := [], harness := (true, "6ac1897fa151fbd8b32007692cd3c82d0528b476b84f1c0dcd4211ed98f3eceb"), looks := true }, kinds := [], alts := [], laidByText := true, laidKinds := [.data, .data, .data], laidTests := true, laidLooks := .later }
def MacroLooseUptoCardSaid : Prop := Claim7.holds Tryz.pinned (.plain (OpenSpec.upto macroLooseSpec)) macroLooseUptoCard

/-- THE SECOND FORM's CARD OF 'gliderlaw19.MacroIdle'. -/
def macroIdleUptoCard : Claim7 := { stood := { row := macroIdleUptoRow, standIns := [], harness := (true, "6ac1897fa151fbd8b32007692cd3c82d0528b476b84f1c0dcd4211ed98f3eceb"), looks := true }, kinds := [], alts := [], laidByText := true, laidKinds := [.data, .data, .data], laidTests := true, laidLooks := .later }
def MacroIdleUptoCardSaid : Prop := Claim7.holds Tryz.pinned (.plain (OpenSpec.upto macroIdleSpec)) macroIdleUptoCard
end Rows
end Go.Proofs.YtenmplcmmdaibaaGreatDoor
