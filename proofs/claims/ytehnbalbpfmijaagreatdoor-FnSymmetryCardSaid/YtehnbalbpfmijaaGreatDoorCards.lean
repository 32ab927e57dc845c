/-
  DERIVED. GIVEN WITH THE SEED: THE CARDS: each row of YtehnbalbpfmijaaGreatDoorRows.lean that lists a variable, with what it lists TIED to the program's text (the seventh form; the later family's looks); each row that meets fmt, with fmt's text TOLD by the authors' own Lean function (tested against real Go, not proved from fmt's source: count such statements apart). THE CARD IS WHAT COUNTS. Prove the row's statement (the work); the ties are given (YtehnbalbpfmijaaGreatDoorTie.lean); close each card by the builder's one call (the guide's Derived/Test/ToyasCard.lean, 'card_holds'). Laid BY PROGRAM, IN A SANDBOX (cutbox-door.mjs). By AI agents, Wed Nov 11 2026. No macro, syntax, notation, axiom, sorry.
-/
import Derived.Test.YtehnbalbpfmijaaGreatDoorRows
import GoSem.ClaimSeven
namespace Go.Proofs.YtehnbalbpfmijaaGreatDoor
namespace Rows

/-- THE TIED CARD OF 'laws.FnSymmetry'. -/
def fnSymmetryCard : Claim7 := { stood := { row := fnSymmetryRow, standIns := [], harness := (true, "a7dfe5487005aa34260056fa978edb9ac90f4ffdbafb196a1b3042784f6f7bbb"), looks := false }, kinds := [], alts := [], laidByText := true, laidKinds := [.data, .data, .data], laidTests := true, laidLooks := .later }
def FnSymmetryCardSaid : Prop := Claim7.holds Tryz.pinned (.plain (OpenSpec.ofChange fnSymmetrySpec)) fnSymmetryCard

/-- THE SECOND FORM's CARD OF 'laws.FnSymmetry'. -/
def fnSymmetryUptoCard : Claim7 := { stood := { row := fnSymmetryUptoRow, standIns := [], harness := (true, "a7dfe5487005aa34260056fa978edb9ac90f4ffdbafb196a1b3042784f6f7bbb"), looks := false }, kinds := [], alts := [], laidByText := true, laidKinds := [.data, .data, .data], laidTests := true, laidLooks := .later }
def FnSymmetryUptoCardSaid : Prop := Claim7.holds Tryz.pinned (.plain (OpenSpec.upto fnSymmetrySpec)) fnSymmetryUptoCard
end Rows
end Go.Proofs.YtehnbalbpfmijaaGreatDoor
