/-
  DERIVED. GIVEN WITH THE SEED: THE CARDS: each row of YtehnbalbpfmijaaDoorRows.lean that lists a variable, with what it lists TIED to the program's text (the seventh form; the later family's looks); each row that meets fmt, with fmt's text TOLD by the authors' own Lean function (tested against real Go, not proved from fmt's source: count such statements apart). THE CARD IS WHAT COUNTS. Prove the row's statement (the work); the ties are given (YtehnbalbpfmijaaDoorTie.lean); close each card by the builder's one call (the guide's Derived/Test/ToyasCard.lean, 'card_holds'). Laid BY PROGRAM, IN A SANDBOX (cutbox-door.mjs). By AI agents, Wed Nov 11 2026. No macro, syntax, notation, axiom, sorry.
-/
import Derived.Test.YtehnbalbpfmijaaDoorRows
import GoSem.ClaimSeven
namespace Go.Proofs.YtehnbalbpfmijaaDoor
namespace Rows

/-- THE TIED CARD OF 'laws.FnExactCountClasses'. -/
def fnExactCountClassesCard : Claim7 := { stood := { row := fnExactCountClassesRow, standIns := [], harness := (true, "90ff08c01e39f784007aeef995243a2b3126e744205412d5efca737a580c56cc"), looks := false }, kinds := [], alts := [], laidByText := true, laidKinds := [.data, .data, .data], laidTests := true, laidLooks := .later }
def FnExactCountClassesCardSaid : Prop := Claim7.holds Tryd.pinned (.plain (OpenSpec.ofChange fnExactCountClassesSpec)) fnExactCountClassesCard

/-- THE SECOND FORM's CARD OF 'laws.FnExactCountClasses'. -/
def fnExactCountClassesUptoCard : Claim7 := { stood := { row := fnExactCountClassesUptoRow, standIns := [], harness := (true, "90ff08c01e39f784007aeef995243a2b3126e744205412d5efca737a580c56cc"), looks := false }, kinds := [], alts := [], laidByText := true, laidKinds := [.data, .data, .data], laidTests := true, laidLooks := .later }
def FnExactCountClassesUptoCardSaid : Prop := Claim7.holds Tryd.pinned (.plain (OpenSpec.upto fnExactCountClassesSpec)) fnExactCountClassesUptoCard
end Rows
end Go.Proofs.YtehnbalbpfmijaaDoor
