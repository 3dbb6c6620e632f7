/-
  DERIVED. GIVEN WITH THE SEED: THE CARDS: each row of YtbcjhpgkodeoeaaGreatDoorRows.lean that lists a variable, with what it lists TIED to the program's text (the seventh form; the later family's looks); each row that meets fmt, with fmt's text TOLD by the authors' own Lean function (tested against real Go, not proved from fmt's source: count such statements apart). THE CARD IS WHAT COUNTS. Prove the row's statement (the work); the ties are given (YtbcjhpgkodeoeaaGreatDoorTie.lean); close each card by the builder's one call (the guide's Derived/Test/ToyasCard.lean, 'card_holds'). Laid BY PROGRAM, IN A SANDBOX (cutbox-door.mjs). By AI agents, Wed Nov 11 2026. No macro, syntax, notation, axiom, sorry.
-/
import Derived.Test.YtbcjhpgkodeoeaaGreatDoorRows
import GoSem.ClaimSeven
namespace Go.Proofs.YtbcjhpgkodeoeaaGreatDoor
namespace Rows

/-- THE TIED CARD OF 'laws.FnFormKept'. -/
def fnFormKeptCard : Claim7 := { stood := { row := fnFormKeptRow, standIns := [], harness := (true, "0d30e33317e6f76e7e91335140520b7d220eb4f2588ff2d471fcc6785c370572"), looks := false }, kinds := [], alts := [], laidByText := true, laidKinds := [.data, .pinned], laidTests := true, laidLooks := .later }
def FnFormKeptCardSaid : Prop := Claim7.holds Tryz.pinned (.plain (OpenSpec.ofChange fnFormKeptSpec)) fnFormKeptCard

/-- THE TIED CARD OF 'laws.FnInvariants'. -/
def fnInvariantsCard : Claim7 := { stood := { row := fnInvariantsRow, standIns := [], harness := (true, "0d30e33317e6f76e7e91335140520b7d220eb4f2588ff2d471fcc6785c370572"), looks := false }, kinds := [], alts := [], laidByText := true, laidKinds := [.data, .pinned], laidTests := true, laidLooks := .later }
def FnInvariantsCardSaid : Prop := Claim7.holds Tryz.pinned (.plain (OpenSpec.ofChange fnInvariantsSpec)) fnInvariantsCard

/-- THE TIED CARD OF 'laws.FnFieldText'. -/
def fnFieldTextCard : Claim7 := { stood := { row := fnFieldTextRow, standIns := [], harness := (true, "0d30e33317e6f76e7e91335140520b7d220eb4f2588ff2d471fcc6785c370572"), looks := false }, kinds := [], alts := [], laidByText := true, laidKinds := [.data, .pinned], laidTests := true, laidLooks := .later }
def FnFieldTextCardSaid : Prop := Claim7.holds Tryz.pinned (.plain (OpenSpec.ofChange fnFieldTextSpec)) fnFieldTextCard

/-- THE SECOND FORM's CARD OF 'laws.FnFormKept'. -/
def fnFormKeptUptoCard : Claim7 := { stood := { row := fnFormKeptUptoRow, standIns := [], harness := (true, "0d30e33317e6f76e7e91335140520b7d220eb4f2588ff2d471fcc6785c370572"), looks := false }, kinds := [], alts := [], laidByText := true, laidKinds := [.data, .pinned], laidTests := true, laidLooks := .later }
def FnFormKeptUptoCardSaid : Prop := Claim7.holds Tryz.pinned (.plain (OpenSpec.upto fnFormKeptSpec)) fnFormKeptUptoCard

/-- THE SECOND FORM's CARD OF 'laws.FnInvariants'. -/
def fnInvariantsUptoCard : Claim7 := { stood := { row := fnInvariantsUptoRow, standIns := [], harness := (true, "0d30e33317e6f76e7e91335140520b7d220eb4f2588ff2d471fcc6785c370572"), looks := false }, kinds := [], alts := [], laidByText := true, laidKinds := [.data, .pinned], laidTests := true, laidLooks := .later }
def FnInvariantsUptoCardSaid : Prop := Claim7.holds Tryz.pinned (.plain (OpenSpec.upto fnInvariantsSpec)) fnInvariantsUptoCard

/-- THE SECOND FORM's CARD OF 'laws.FnFieldText'. -/
def fnFieldTextUptoCard : Claim7 := { stood := { row := fnFieldTextUptoRow, standIns := [], harness := (true, "0d30e33317e6f76e7e91335140520b7d220eb4f2588ff2d471fcc6785c370572"), looks := false }, kinds := [], alts := [], laidByText := true, laidKinds := [.data, .pinned], laidTests := true, laidLooks := .later }
def FnFieldTextUptoCardSaid : Prop := Claim7.holds Tryz.pinned (.plain (OpenSpec.upto fnFieldTextSpec)) fnFieldTextUptoCard
end Rows
end Go.Proofs.YtbcjhpgkodeoeaaGreatDoor
