/-
  No cell of these rows narrows 'for every input' (looked for: loops, veiled, ifaces, maps, wideKeys, modest, calm, conditions, laid).
  DERIVED. THE GIVEN ROWS OF THIS SEAT. 12 by the template 'for every input the law returns true; each argument reads behind the call as it read before'; 0 by the template 'total and deterministic' (their statements: YtbaghclblnialaaTotals.lean).
  GIVEN WITH THE SEED: the statements are not yours to turn. If you find one false, say at which input.
  Laid BY PROGRAM, IN A SANDBOX (cutbox-rows.mjs): the forced cells as the released guide's own fill.sh prints them over the translation bd1d6a1390bf8b81… (all of the seat's roots in one cut). By AI agents, Wed Nov 11 2026. No macro, syntax, notation, axiom, sorry.
-/
import Derived.Test.YtbaghclblnialaaChecked
import GoSem.Claim
import GoSem.ClaimJoined
import GoSem.ClaimMapViews
import Derived.JoinedTies
import Derived.KernelRfl
namespace Go.Proofs.Ytbaghclblnialaa
/- THE CELL 'sum', in the pinned program and in every row, IS THE sha256 OF THE DUMP (.gsa) THAT YtbaghclblnialaaProg.lean LOADS. Nothing in Lean hashes anything: it is a label: what it is worth is what the hold of that sum in a sandbox is worth. -/
noncomputable def Try.pinned : Pinned := { name := "ytbaghclblnialaa", sum := "bd1d6a1390bf8b8154c59fb67af28bc697cbe1d203c0f0af63fb59616cf19cc5", checked := Try.checked }
namespace Rows
def none {H : Type} : Left H := { results := [], args := [] }

/-- 'laws.FnExactGridOk': WHATEVER THE INPUT: true; the input reads as it did. -/
def fnExactGridOkSpec : ChangeSpec := { name := "fnExactGridOk", fn := fun _ => fun
  | [d1, d2] => { results := [.lit (.bool true)], args := [d1, d2] }
  | _ => none }
def fnExactGridOkRow : OpenClaim := { program := "ytbaghclblnialaa", sum := "bd1d6a1390bf8b8154c59fb67af28bc697cbe1d203c0f0af63fb59616cf19cc5", func := "loop.example/g03300/laws.FnExactGridOk", spec := "fnExactGridOk", apart := false }
def FnExactGridOkSaid : Prop := fnExactGridOkRow.holds Try.pinned (OpenSpec.ofChange fnExactGridOkSpec)

/-- ITS FALSE NEIGHBOUR: 'it returns false'. Refute it at one input. -/
def fnExactGridOkWrong : ChangeSpec := { name := "fnExactGridOk", fn := fun _ => fun
  | [d1, d2] => { results := [.lit (.bool false)], args := [d1, d2] }
  | _ => none }
def FnExactGridOkWrongFalsely : Prop := fnExactGridOkRow.holds Try.pinned (OpenSpec.ofChange fnExactGridOkWrong)

/-- 'laws.FnExactBoxOk': WHATEVER THE INPUT: true; the input reads as it did. -/
def fnExactBoxOkSpec : ChangeSpec := { name := "fnExactBoxOk", fn := fun _ => fun
  | [d1, d2, d3] => { results := [.lit (.bool true)], args := [d1, d2, d3] }
  | _ => none }
def fnExactBoxOkRow : OpenClaim := { program := "ytbaghclblnialaa", sum := "bd1d6a1390bf8b8154c59fb67af28bc697cbe1d203c0f0af63fb59616cf19cc5", func := "loop.example/g03300/laws.FnExactBoxOk", spec := "fnExactBoxOk", apart := false }
def FnExactBoxOkSaid : Prop := fnExactBoxOkRow.holds Try.pinned (OpenSpec.ofChange fnExactBoxOkSpec)

/-- ITS FALSE NEIGHBOUR: 'it returns false'. Refute it at one input. -/
def fnExactBoxOkWrong : ChangeSpec := { name := "fnExactBoxOk", fn := fun _ => fun
  | [d1, d2, d3] => { results := [.lit (.bool false)], args := [d1, d2, d3] }
  | _ => none }
def FnExactBoxOkWrongFalsely : Prop := fnExactBoxOkRow.holds Try.pinned (OpenSpec.ofChange fnExactBoxOkWrong)

/-- 'laws.FnExactChooseOf': WHATEVER THE INPUT: true; the input reads as it did. -/
def fnExactChooseOfSpec : ChangeSpec := { name := "fnExactChooseOf", fn := fun _ => fun
  | [d1, d2] => { results := [.lit (.bool true)], args := [d1, d2] }
  | _ => none }
def fnExactChooseOfRow : OpenClaim := { program := "ytbaghclblnialaa", sum := "bd1d6a1390bf8b8154c59fb67af28bc697cbe1d203c0f0af63fb59616cf19cc5", func := "loop.example/g03300/laws.FnExactChooseOf", spec := "fnExactChooseOf", apart := false }
def FnExactChooseOfSaid : Prop := fnExactChooseOfRow.holds Try.pinned (OpenSpec.ofChange fnExactChooseOfSpec)

/-- ITS FALSE NEIGHBOUR: 'it returns false'. Refute it at one input. -/
def fnExactChooseOfWrong : ChangeSpec := { name := "fnExactChooseOf", fn := fun _ => fun
  | [d1, d2] => { results := [.lit (.bool false)], args := [d1, d2] }
  | _ => none }
def FnExactChooseOfWrongFalsely : Prop := fnExactChooseOfRow.holds Try.pinned (OpenSpec.ofChange fnExactChooseOfWrong)

/-- 'laws.FnExactCountPaths': WHATEVER THE INPUT: true; the input reads as it did. -/
def fnExactCountPathsSpec : ChangeSpec := { name := "fnExactCountPaths", fn := fun _ => fun
  | [d1, d2] => { results := [.lit (.bool true)], args := [d1, d2] }
  | _ => none }
def fnExactCountPathsRow : OpenClaim := { program := "ytbaghclblnialaa", sum := "bd1d6a1390bf8b8154c59fb67af28bc697cbe1d203c0f0af63fb59616cf19cc5", func := "loop.example/g03300/laws.FnExactCountPaths", spec := "fnExactCountPaths", apart := false }
def FnExactCountPathsSaid : Prop := fnExactCountPathsRow.holds Try.pinned (OpenSpec.ofChange fnExactCountPathsSpec)

/-- ITS FALSE NEIGHBOUR: 'it returns false'. Refute it at one input. -/
def fnExactCountPathsWrong : ChangeSpec := { name := "fnExactCountPaths", fn := fun _ => fun
  | [d1, d2] => { results := [.lit (.bool false)], args := [d1, d2] }
  | _ => none }
def FnExactCountPathsWrongFalsely : Prop := fnExactCountPathsRow.holds Try.pinned (OpenSpec.ofChange fnExactCountPathsWrong)

/-- 'laws.FnExactAlternatingCount': WHATEVER THE INPUT: true; the input reads as it did. -/
def fnExactAlternatingCountSpec : ChangeSpec := { name := "fnExactAlternatingCount", fn := fun _ => fun
  | [d] => { results := [.lit (.bool true)], args := [d] }
  | _ => none }
def fnExactAlternatingCountRow : OpenClaim := { program := "ytbaghclblnialaa", sum := "bd1d6a1390bf8b8154c59fb67af28bc697cbe1d203c0f0af63fb59616cf19cc5", func := "loop.example/g03300/laws.FnExactAlternatingCount", spec := "fnExactAlternatingCount", apart := false }
def FnExactAlternatingCountSaid : Prop := fnExactAlternatingCountRow.holds Try.pinned (OpenSpec.ofChange fnExactAlternatingCountSpec)

/-- ITS FALSE NEIGHBOUR: 'it returns false'. Refute it at one input. -/
def fnExactAlternatingCountWrong : ChangeSpec := { name := "fnExactAlternatingCount", fn := fun _ => fun
  | [d] => { results := [.lit (.bool false)], args := [d] }
  | _ => none }
def FnExactAlternatingCountWrongFalsely : Prop := fnExactAlternatingCountRow.holds Try.pinned (OpenSpec.ofChange fnExactAlternatingCountWrong)

/-- 'laws.FnExactBoxCount': WHATEVER THE INPUT: true; the input reads as it did. -/
def fnExactBoxCountSpec : ChangeSpec := { name := "fnExactBoxCount", fn := fun _ => fun
  | [d1, d2, d3] => { results := [.lit (.bool true)], args := [d1, d2, d3] }
  | _ => none }
def fnExactBoxCountRow : OpenClaim := { program := "ytbaghclblnialaa", sum := "bd1d6a1390bf8b8154c59fb67af28bc697cbe1d203c0f0af63fb59616cf19cc5", func := "loop.example/g03300/laws.FnExactBoxCount", spec := "fnExactBoxCount", apart := false }
def FnExactBoxCountSaid : Prop := fnExactBoxCountRow.holds Try.pinned (OpenSpec.ofChange fnExactBoxCountSpec)

/-- ITS FALSE NEIGHBOUR: 'it returns false'. Refute it at one input. -/
def fnExactBoxCountWrong : ChangeSpec := { name := "fnExactBoxCount", fn := fun _ => fun
  | [d1, d2, d3] => { results := [.lit (.bool false)], args := [d1, d2, d3] }
  | _ => none }
def FnExactBoxCountWrongFalsely : Prop := fnExactBoxCountRow.holds Try.pinned (OpenSpec.ofChange fnExactBoxCountWrong)

/-- 'laws.FnExactSpotsOk': WHATEVER THE INPUT: true; the input reads as it did. -/
def fnExactSpotsOkSpec : ChangeSpec := { name := "fnExactSpotsOk", fn := fun _ => fun
  | [d1, d2] => { results := [.lit (.bool true)], args := [d1, d2] }
  | _ => none }
def fnExactSpotsOkRow : OpenClaim := { program := "ytbaghclblnialaa", sum := "bd1d6a1390bf8b8154c59fb67af28bc697cbe1d203c0f0af63fb59616cf19cc5", func := "loop.example/g03300/laws.FnExactSpotsOk", spec := "fnExactSpotsOk", apart := false }
def FnExactSpotsOkSaid : Prop := fnExactSpotsOkRow.holds Try.pinned (OpenSpec.ofChange fnExactSpotsOkSpec)

/-- ITS FALSE NEIGHBOUR: 'it returns false'. Refute it at one input. -/
def fnExactSpotsOkWrong : ChangeSpec := { name := "fnExactSpotsOk", fn := fun _ => fun
  | [d1, d2] => { results := [.lit (.bool false)], args := [d1, d2] }
  | _ => none }
def FnExactSpotsOkWrongFalsely : Prop := fnExactSpotsOkRow.holds Try.pinned (OpenSpec.ofChange fnExactSpotsOkWrong)

/-- 'laws.FnExactArePathsApart': WHATEVER THE INPUT: true; the input reads as it did. -/
def fnExactArePathsApartSpec : ChangeSpec := { name := "fnExactArePathsApart", fn := fun _ => fun
  | [d1, d2, d3, d4] => { results := [.lit (.bool true)], args := [d1, d2, d3, d4] }
  | _ => none }
def fnExactArePathsApartRow : OpenClaim := { program := "ytbaghclblnialaa", sum := "bd1d6a1390bf8b8154c59fb67af28bc697cbe1d203c0f0af63fb59616cf19cc5", func := "loop.example/g03300/laws.FnExactArePathsApart", spec := "fnExactArePathsApart", apart := false }
def FnExactArePathsApartSaid : Prop := fnExactArePathsApartRow.holds Try.pinned (OpenSpec.ofChange fnExactArePathsApartSpec)

/-- ITS FALSE NEIGHBOUR: 'it returns false'. Refute it at one input. -/
def fnExactArePathsApartWrong : ChangeSpec := { name := "fnExactArePathsApart", fn := fun _ => fun
  | [d1, d2, d3, d4] => { results := [.lit (.bool false)], args := [d1, d2, d3, d4] }
  | _ => none }
def FnExactArePathsApartWrongFalsely : Prop := fnExactArePathsApartRow.holds Try.pinned (OpenSpec.ofChange fnExactArePathsApartWrong)

/-- 'laws.FnExactTreeFloor': WHATEVER THE INPUT: true; the input reads as it did. -/
def fnExactTreeFloorSpec : ChangeSpec := { name := "fnExactTreeFloor", fn := fun _ => fun
  | [d1, d2] => { results := [.lit (.bool true)], args := [d1, d2] }
  | _ => none }
def fnExactTreeFloorRow : OpenClaim := { program := "ytbaghclblnialaa", sum := "bd1d6a1390bf8b8154c59fb67af28bc697cbe1d203c0f0af63fb59616cf19cc5", func := "loop.example/g03300/laws.FnExactTreeFloor", spec := "fnExactTreeFloor", apart := false }
def FnExactTreeFloorSaid : Prop := fnExactTreeFloorRow.holds Try.pinned (OpenSpec.ofChange fnExactTreeFloorSpec)

/-- ITS FALSE NEIGHBOUR: 'it returns false'. Refute it at one input. -/
def fnExactTreeFloorWrong : ChangeSpec := { name := "fnExactTreeFloor", fn := fun _ => fun
  | [d1, d2] => { results := [.lit (.bool false)], args := [d1, d2] }
  | _ => none }
def FnExactTreeFloorWrongFalsely : Prop := fnExactTreeFloorRow.holds Try.pinned (OpenSpec.ofChange fnExactTreeFloorWrong)

/-- 'laws.FnExactHeapVolume': WHATEVER THE INPUT: true; the input reads as it did. -/
def fnExactHeapVolumeSpec : ChangeSpec := { name := "fnExactHeapVolume", fn := fun _ => fun
  | [d] => { results := [.lit (.bool true)], args := [d] }
  | _ => none }
def fnExactHeapVolumeRow : OpenClaim := { program := "ytbaghclblnialaa", sum := "bd1d6a1390bf8b8154c59fb67af28bc697cbe1d203c0f0af63fb59616cf19cc5", func := "loop.example/g03300/laws.FnExactHeapVolume", spec := "fnExactHeapVolume", apart := false }
def FnExactHeapVolumeSaid : Prop := fnExactHeapVolumeRow.holds Try.pinned (OpenSpec.ofChange fnExactHeapVolumeSpec)

/-- ITS FALSE NEIGHBOUR: 'it returns false'. Refute it at one input. -/
def fnExactHeapVolumeWrong : ChangeSpec := { name := "fnExactHeapVolume", fn := fun _ => fun
  | [d] => { results := [.lit (.bool false)], args := [d] }
  | _ => none }
def FnExactHeapVolumeWrongFalsely : Prop := fnExactHeapVolumeRow.holds Try.pinned (OpenSpec.ofChange fnExactHeapVolumeWrong)

/-- 'laws.FnExactCountMinus': WHATEVER THE INPUT: true; the input reads as it did. -/
def fnExactCountMinusSpec : ChangeSpec := { name := "fnExactCountMinus", fn := fun _ => fun
  | [d] => { results := [.lit (.bool true)], args := [d] }
  | _ => none }
def fnExactCountMinusRow : OpenClaim := { program := "ytbaghclblnialaa", sum := "bd1d6a1390bf8b8154c59fb67af28bc697cbe1d203c0f0af63fb59616cf19cc5", func := "loop.example/g03300/laws.FnExactCountMinus", spec := "fnExactCountMinus", apart := false }
def FnExactCountMinusSaid : Prop := fnExactCountMinusRow.holds Try.pinned (OpenSpec.ofChange fnExactCountMinusSpec)

/-- ITS FALSE NEIGHBOUR: 'it returns false'. Refute it at one input. -/
def fnExactCountMinusWrong : ChangeSpec := { name := "fnExactCountMinus", fn := fun _ => fun
  | [d] => { results := [.lit (.bool false)], args := [d] }
  | _ => none }
def FnExactCountMinusWrongFalsely : Prop := fnExactCountMinusRow.holds Try.pinned (OpenSpec.ofChange fnExactCountMinusWrong)

/-- 'laws.FnExactAreNested': WHATEVER THE INPUT: true; the input reads as it did. -/
def fnExactAreNestedSpec : ChangeSpec := { name := "fnExactAreNested", fn := fun _ => fun
  | [d1, d2] => { results := [.lit (.bool true)], args := [d1, d2] }
  | _ => none }
def fnExactAreNestedRow : OpenClaim := { program := "ytbaghclblnialaa", sum := "bd1d6a1390bf8b8154c59fb67af28bc697cbe1d203c0f0af63fb59616cf19cc5", func := "loop.example/g03300/laws.FnExactAreNested", spec := "fnExactAreNested", apart := false }
def FnExactAreNestedSaid : Prop := fnExactAreNestedRow.holds Try.pinned (OpenSpec.ofChange fnExactAreNestedSpec)

/-- ITS FALSE NEIGHBOUR: 'it returns false'. Refute it at one input. -/
def fnExactAreNestedWrong : ChangeSpec := { name := "fnExactAreNested", fn := fun _ => fun
  | [d1, d2] => { results := [.lit (.bool false)], args := [d1, d2] }
  | _ => none }
def FnExactAreNestedWrongFalsely : Prop := fnExactAreNestedRow.holds Try.pinned (OpenSpec.ofChange fnExactAreNestedWrong)

/- THE SECOND FORM. 'bulk': how many values and letters a reading holds, each counted each time it is reached (what is shared counts as often as it is met; a slice's spare places count too). A statement '..UptoSaid' is the law's where the arguments, and the package variables that the reading takes, are together of bulk at most 1048576: NARROWER than '..Said'. Prove '..Said' where nothing that the law and all that it calls make is longer than what came in: it says more and counts as full. Else prove '..UptoSaid'. A law counts once. -/
mutual
def uptoBulk {H : Type} : DataW H → Nat
  | .lit (.string bytes) => bytes.length + 1
  | .lit _ => 1
  | .nil => 1
  | .ptr d => uptoBulk d + 1
  | .slice elems spare => uptoBulkAll elems + uptoBulkAll spare + 1
  | .agg parts => uptoBulkAll parts + 1
  | .iface _ d => uptoBulk d + 1
  | .map entries => uptoBulkEntries entries + 1
  | .held _ => 1
def uptoBulkAll {H : Type} : List (DataW H) → Nat
  | [] => 0
  | d :: r => uptoBulk d + uptoBulkAll r
def uptoBulkEntries {H : Type} : List (Lit × DataW H) → Nat
  | [] => 0
  | x :: r => uptoBulkEntry x + uptoBulkEntries r
def uptoBulkEntry {H : Type} : Lit × DataW H → Nat
  | (.string bytes, d) => bytes.length + uptoBulk d + 1
  | (_, d) => uptoBulk d + 1
 end
def uptoSmall : (H : Type) → List (DataW H) → Bool := fun _ ds => decide (uptoBulkAll ds ≤ 1048576)
def OpenSpec.upto (s : _root_.Go.ChangeSpec) : _root_.Go.OpenSpec := { _root_.Go.OpenSpec.ofChange s with cond := some uptoSmall }

/-- 'laws.FnExactGridOk', WHERE WHAT IT READS IS OF BULK AT MOST 1048576: true; the input reads as it did. -/
def fnExactGridOkUptoRow : OpenClaim := { program := "ytbaghclblnialaa", sum := "bd1d6a1390bf8b8154c59fb67af28bc697cbe1d203c0f0af63fb59616cf19cc5", func := "loop.example/g03300/laws.FnExactGridOk", spec := "fnExactGridOk", apart := false, narrowed := true }
def FnExactGridOkUptoSaid : Prop := fnExactGridOkUptoRow.holds Try.pinned (OpenSpec.upto fnExactGridOkSpec)

/-- 'laws.FnExactBoxOk', WHERE WHAT IT READS IS OF BULK AT MOST 1048576: true; the input reads as it did. -/
def fnExactBoxOkUptoRow : OpenClaim := { program := "ytbaghclblnialaa", sum := "bd1d6a1390bf8b8154c59fb67af28bc697cbe1d203c0f0af63fb59616cf19cc5", func := "loop.example/g03300/laws.FnExactBoxOk", spec := "fnExactBoxOk", apart := false, narrowed := true }
def FnExactBoxOkUptoSaid : Prop := fnExactBoxOkUptoRow.holds Try.pinned (OpenSpec.upto fnExactBoxOkSpec)

/-- 'laws.FnExactChooseOf', WHERE WHAT IT READS IS OF BULK AT MOST 1048576: true; the input reads as it did. -/
def fnExactChooseOfUptoRow : OpenClaim := { program := "ytbaghclblnialaa", sum := "bd1d6a1390bf8b8154c59fb67af28bc697cbe1d203c0f0af63fb59616cf19cc5", func := "loop.example/g03300/laws.FnExactChooseOf", spec := "fnExactChooseOf", apart := false, narrowed := true }
def FnExactChooseOfUptoSaid : Prop := fnExactChooseOfUptoRow.holds Try.pinned (OpenSpec.upto fnExactChooseOfSpec)

/-- 'laws.FnExactCountPaths', WHERE WHAT IT READS IS OF BULK AT MOST 1048576: true; the input reads as it did. -/
def fnExactCountPathsUptoRow : OpenClaim := { program := "ytbaghclblnialaa", sum := "bd1d6a1390bf8b8154c59fb67af28bc697cbe1d203c0f0af63fb59616cf19cc5", func := "loop.example/g03300/laws.FnExactCountPaths", spec := "fnExactCountPaths", apart := false, narrowed := true }
def FnExactCountPathsUptoSaid : Prop := fnExactCountPathsUptoRow.holds Try.pinned (OpenSpec.upto fnExactCountPathsSpec)

/-- 'laws.FnExactAlternatingCount', WHERE WHAT IT READS IS OF BULK AT MOST 1048576: true; the input reads as it did. -/
def fnExactAlternatingCountUptoRow : OpenClaim := { program := "ytbaghclblnialaa", sum := "bd1d6a1390bf8b8154c59fb67af28bc697cbe1d203c0f0af63fb59616cf19cc5", func := "loop.example/g03300/laws.FnExactAlternatingCount", spec := "fnExactAlternatingCount", apart := false, narrowed := true }
def FnExactAlternatingCountUptoSaid : Prop := fnExactAlternatingCountUptoRow.holds Try.pinned (OpenSpec.upto fnExactAlternatingCountSpec)

/-- 'laws.FnExactBoxCount', WHERE WHAT IT READS IS OF BULK AT MOST 1048576: true; the input reads as it did. -/
def fnExactBoxCountUptoRow : OpenClaim := { program := "ytbaghclblnialaa", sum := "bd1d6a1390bf8b8154c59fb67af28bc697cbe1d203c0f0af63fb59616cf19cc5", func := "loop.example/g03300/laws.FnExactBoxCount", spec := "fnExactBoxCount", apart := false, narrowed := true }
def FnExactBoxCountUptoSaid : Prop := fnExactBoxCountUptoRow.holds Try.pinned (OpenSpec.upto fnExactBoxCountSpec)

/-- 'laws.FnExactSpotsOk', WHERE WHAT IT READS IS OF BULK AT MOST 1048576: true; the input reads as it did. -/
def fnExactSpotsOkUptoRow : OpenClaim := { program := "ytbaghclblnialaa", sum := "bd1d6a1390bf8b8154c59fb67af28bc697cbe1d203c0f0af63fb59616cf19cc5", func := "loop.example/g03300/laws.FnExactSpotsOk", spec := "fnExactSpotsOk", apart := false, narrowed := true }
def FnExactSpotsOkUptoSaid : Prop := fnExactSpotsOkUptoRow.holds Try.pinned (OpenSpec.upto fnExactSpotsOkSpec)

/-- 'laws.FnExactArePathsApart', WHERE WHAT IT READS IS OF BULK AT MOST 1048576: true; the input reads as it did. -/
def fnExactArePathsApartUptoRow : OpenClaim := { program := "ytbaghclblnialaa", sum := "bd1d6a1390bf8b8154c59fb67af28bc697cbe1d203c0f0af63fb59616cf19cc5", func := "loop.example/g03300/laws.FnExactArePathsApart", spec := "fnExactArePathsApart", apart := false, narrowed := true }
def FnExactArePathsApartUptoSaid : Prop := fnExactArePathsApartUptoRow.holds Try.pinned (OpenSpec.upto fnExactArePathsApartSpec)

/-- 'laws.FnExactTreeFloor', WHERE WHAT IT READS IS OF BULK AT MOST 1048576: true; the input reads as it did. -/
def fnExactTreeFloorUptoRow : OpenClaim := { program := "ytbaghclblnialaa", sum := "bd1d6a1390bf8b8154c59fb67af28bc697cbe1d203c0f0af63fb59616cf19cc5", func := "loop.example/g03300/laws.FnExactTreeFloor", spec := "fnExactTreeFloor", apart := false, narrowed := true }
def FnExactTreeFloorUptoSaid : Prop := fnExactTreeFloorUptoRow.holds Try.pinned (OpenSpec.upto fnExactTreeFloorSpec)

/-- 'laws.FnExactHeapVolume', WHERE WHAT IT READS IS OF BULK AT MOST 1048576: true; the input reads as it did. -/
def fnExactHeapVolumeUptoRow : OpenClaim := { program := "ytbaghclblnialaa", sum := "bd1d6a1390bf8b8154c59fb67af28bc697cbe1d203c0f0af63fb59616cf19cc5", func := "loop.example/g03300/laws.FnExactHeapVolume", spec := "fnExactHeapVolume", apart := false, narrowed := true }
def FnExactHeapVolumeUptoSaid : Prop := fnExactHeapVolumeUptoRow.holds Try.pinned (OpenSpec.upto fnExactHeapVolumeSpec)

/-- 'laws.FnExactCountMinus', WHERE WHAT IT READS IS OF BULK AT MOST 1048576: true; the input reads as it did. -/
def fnExactCountMinusUptoRow : OpenClaim := { program := "ytbaghclblnialaa", sum := "bd1d6a1390bf8b8154c59fb67af28bc697cbe1d203c0f0af63fb59616cf19cc5", func := "loop.example/g03300/laws.FnExactCountMinus", spec := "fnExactCountMinus", apart := false, narrowed := true }
def FnExactCountMinusUptoSaid : Prop := fnExactCountMinusUptoRow.holds Try.pinned (OpenSpec.upto fnExactCountMinusSpec)

/-- 'laws.FnExactAreNested', WHERE WHAT IT READS IS OF BULK AT MOST 1048576: true; the input reads as it did. -/
def fnExactAreNestedUptoRow : OpenClaim := { program := "ytbaghclblnialaa", sum := "bd1d6a1390bf8b8154c59fb67af28bc697cbe1d203c0f0af63fb59616cf19cc5", func := "loop.example/g03300/laws.FnExactAreNested", spec := "fnExactAreNested", apart := false, narrowed := true }
def FnExactAreNestedUptoSaid : Prop := fnExactAreNestedUptoRow.holds Try.pinned (OpenSpec.upto fnExactAreNestedSpec)

end Rows
end Go.Proofs.Ytbaghclblnialaa
