/-
  No cell of these rows narrows 'for every input' (looked for: loops, veiled, ifaces, maps, wideKeys, modest, calm, conditions, laid).
  DERIVED. THE GIVEN ROWS OF THIS SEAT. 12 by the template 'for every input the law returns true; each argument reads behind the call as it read before'; 0 by the template 'total and deterministic' (their statements: YtpejphholomenaaTotals.lean).
  GIVEN WITH THE SEED: the statements are not yours to turn. If you find one false, say at which input.
  Laid BY PROGRAM, IN A SANDBOX (cutbox-rows.mjs): the forced cells as the released guide's own fill.sh prints them over the translation 1a84579a2ea5ab92… (all of the seat's roots in one cut). By AI agents, Wed Nov 11 2026. No macro, syntax, notation, axiom, sorry.
-/
import Derived.Test.YtpejphholomenaaChecked
import GoSem.Claim
import GoSem.ClaimJoined
import GoSem.ClaimMapViews
import Derived.JoinedTies
import Derived.KernelRfl
namespace Go.Proofs.Ytpejphholomenaa
/- THE CELL 'sum', in the pinned program and in every row, IS THE sha256 OF THE DUMP (.gsa) THAT YtpejphholomenaaProg.lean LOADS. Nothing in Lean hashes anything: it is a label: what it is worth is what the hold of that sum in a sandbox is worth. -/
noncomputable def Try.pinned : Pinned := { name := "ytpejphholomenaa", sum := "1a84579a2ea5ab92c70f648de75e272249deaa13ae99de796d458af9d0b81833", checked := Try.checked }
namespace Rows
def none {H : Type} : Left H := { results := [], args := [] }

/-- 'laws.FnFamilies': WHATEVER THE INPUT: true; the input reads as it did. -/
def fnFamiliesSpec : ChangeSpec := { name := "fnFamilies", fn := fun _ => fun
  | [d] => { results := [.lit (.bool true)], args := [d] }
  | _ => none }
def fnFamiliesRow : OpenClaim := { program := "ytpejphholomenaa", sum := "1a84579a2ea5ab92c70f648de75e272249deaa13ae99de796d458af9d0b81833", func := "loop.example/g03300/laws.FnFamilies", spec := "fnFamilies", unfollowed := true, recurses := true, apart := false }
def FnFamiliesSaid : Prop := fnFamiliesRow.holds Try.pinned (OpenSpec.ofChange fnFamiliesSpec)

/-- ITS FALSE NEIGHBOUR: 'it returns false'. Refute it at one input. -/
def fnFamiliesWrong : ChangeSpec := { name := "fnFamilies", fn := fun _ => fun
  | [d] => { results := [.lit (.bool false)], args := [d] }
  | _ => none }
def FnFamiliesWrongFalsely : Prop := fnFamiliesRow.holds Try.pinned (OpenSpec.ofChange fnFamiliesWrong)

/-- 'laws.FnExactFaultsAcross': WHATEVER THE INPUT: true; the input reads as it did. -/
def fnExactFaultsAcrossSpec : ChangeSpec := { name := "fnExactFaultsAcross", fn := fun _ => fun
  | [d1, d2, d3] => { results := [.lit (.bool true)], args := [d1, d2, d3] }
  | _ => none }
def fnExactFaultsAcrossRow : OpenClaim := { program := "ytpejphholomenaa", sum := "1a84579a2ea5ab92c70f648de75e272249deaa13ae99de796d458af9d0b81833", func := "loop.example/g03300/laws.FnExactFaultsAcross", spec := "fnExactFaultsAcross", apart := false }
def FnExactFaultsAcrossSaid : Prop := fnExactFaultsAcrossRow.holds Try.pinned (OpenSpec.ofChange fnExactFaultsAcrossSpec)

/-- ITS FALSE NEIGHBOUR: 'it returns false'. Refute it at one input. -/
def fnExactFaultsAcrossWrong : ChangeSpec := { name := "fnExactFaultsAcross", fn := fun _ => fun
  | [d1, d2, d3] => { results := [.lit (.bool false)], args := [d1, d2, d3] }
  | _ => none }
def FnExactFaultsAcrossWrongFalsely : Prop := fnExactFaultsAcrossRow.holds Try.pinned (OpenSpec.ofChange fnExactFaultsAcrossWrong)

/-- 'laws.FnExactFaultsDown': WHATEVER THE INPUT: true; the input reads as it did. -/
def fnExactFaultsDownSpec : ChangeSpec := { name := "fnExactFaultsDown", fn := fun _ => fun
  | [d1, d2, d3] => { results := [.lit (.bool true)], args := [d1, d2, d3] }
  | _ => none }
def fnExactFaultsDownRow : OpenClaim := { program := "ytpejphholomenaa", sum := "1a84579a2ea5ab92c70f648de75e272249deaa13ae99de796d458af9d0b81833", func := "loop.example/g03300/laws.FnExactFaultsDown", spec := "fnExactFaultsDown", apart := false }
def FnExactFaultsDownSaid : Prop := fnExactFaultsDownRow.holds Try.pinned (OpenSpec.ofChange fnExactFaultsDownSpec)

/-- ITS FALSE NEIGHBOUR: 'it returns false'. Refute it at one input. -/
def fnExactFaultsDownWrong : ChangeSpec := { name := "fnExactFaultsDown", fn := fun _ => fun
  | [d1, d2, d3] => { results := [.lit (.bool false)], args := [d1, d2, d3] }
  | _ => none }
def FnExactFaultsDownWrongFalsely : Prop := fnExactFaultsDownRow.holds Try.pinned (OpenSpec.ofChange fnExactFaultsDownWrong)

/-- 'laws.FnExactMirrorTiling': WHATEVER THE INPUT: true; the input reads as it did. -/
def fnExactMirrorTilingSpec : ChangeSpec := { name := "fnExactMirrorTiling", fn := fun _ => fun
  | [d1, d2] => { results := [.lit (.bool true)], args := [d1, d2] }
  | _ => none }
def fnExactMirrorTilingRow : OpenClaim := { program := "ytpejphholomenaa", sum := "1a84579a2ea5ab92c70f648de75e272249deaa13ae99de796d458af9d0b81833", func := "loop.example/g03300/laws.FnExactMirrorTiling", spec := "fnExactMirrorTiling", unfollowed := true, recurses := true, apart := false }
def FnExactMirrorTilingSaid : Prop := fnExactMirrorTilingRow.holds Try.pinned (OpenSpec.ofChange fnExactMirrorTilingSpec)

/-- ITS FALSE NEIGHBOUR: 'it returns false'. Refute it at one input. -/
def fnExactMirrorTilingWrong : ChangeSpec := { name := "fnExactMirrorTiling", fn := fun _ => fun
  | [d1, d2] => { results := [.lit (.bool false)], args := [d1, d2] }
  | _ => none }
def FnExactMirrorTilingWrongFalsely : Prop := fnExactMirrorTilingRow.holds Try.pinned (OpenSpec.ofChange fnExactMirrorTilingWrong)

/-- 'laws.FnExactTurnTiling': WHATEVER THE INPUT: true; the input reads as it did. -/
def fnExactTurnTilingSpec : ChangeSpec := { name := "fnExactTurnTiling", fn := fun _ => fun
  | [d1, d2] => { results := [.lit (.bool true)], args := [d1, d2] }
  | _ => none }
def fnExactTurnTilingRow : OpenClaim := { program := "ytpejphholomenaa", sum := "1a84579a2ea5ab92c70f648de75e272249deaa13ae99de796d458af9d0b81833", func := "loop.example/g03300/laws.FnExactTurnTiling", spec := "fnExactTurnTiling", unfollowed := true, recurses := true, apart := false }
def FnExactTurnTilingSaid : Prop := fnExactTurnTilingRow.holds Try.pinned (OpenSpec.ofChange fnExactTurnTilingSpec)

/-- ITS FALSE NEIGHBOUR: 'it returns false'. Refute it at one input. -/
def fnExactTurnTilingWrong : ChangeSpec := { name := "fnExactTurnTiling", fn := fun _ => fun
  | [d1, d2] => { results := [.lit (.bool false)], args := [d1, d2] }
  | _ => none }
def FnExactTurnTilingWrongFalsely : Prop := fnExactTurnTilingRow.holds Try.pinned (OpenSpec.ofChange fnExactTurnTilingWrong)

/-- 'laws.FnExactWeightedCount': WHATEVER THE INPUT: true; the input reads as it did. -/
def fnExactWeightedCountSpec : ChangeSpec := { name := "fnExactWeightedCount", fn := fun _ => fun
  | [d] => { results := [.lit (.bool true)], args := [d] }
  | _ => none }
def fnExactWeightedCountRow : OpenClaim := { program := "ytpejphholomenaa", sum := "1a84579a2ea5ab92c70f648de75e272249deaa13ae99de796d458af9d0b81833", func := "loop.example/g03300/laws.FnExactWeightedCount", spec := "fnExactWeightedCount", unfollowed := true, recurses := true, apart := false }
def FnExactWeightedCountSaid : Prop := fnExactWeightedCountRow.holds Try.pinned (OpenSpec.ofChange fnExactWeightedCountSpec)

/-- ITS FALSE NEIGHBOUR: 'it returns false'. Refute it at one input. -/
def fnExactWeightedCountWrong : ChangeSpec := { name := "fnExactWeightedCount", fn := fun _ => fun
  | [d] => { results := [.lit (.bool false)], args := [d] }
  | _ => none }
def FnExactWeightedCountWrongFalsely : Prop := fnExactWeightedCountRow.holds Try.pinned (OpenSpec.ofChange fnExactWeightedCountWrong)

/-- 'laws.FnExactFloorCount': WHATEVER THE INPUT: true; the input reads as it did. -/
def fnExactFloorCountSpec : ChangeSpec := { name := "fnExactFloorCount", fn := fun _ => fun
  | [d1, d2] => { results := [.lit (.bool true)], args := [d1, d2] }
  | _ => none }
def fnExactFloorCountRow : OpenClaim := { program := "ytpejphholomenaa", sum := "1a84579a2ea5ab92c70f648de75e272249deaa13ae99de796d458af9d0b81833", func := "loop.example/g03300/laws.FnExactFloorCount", spec := "fnExactFloorCount", unfollowed := true, recurses := true, apart := false }
def FnExactFloorCountSaid : Prop := fnExactFloorCountRow.holds Try.pinned (OpenSpec.ofChange fnExactFloorCountSpec)

/-- ITS FALSE NEIGHBOUR: 'it returns false'. Refute it at one input. -/
def fnExactFloorCountWrong : ChangeSpec := { name := "fnExactFloorCount", fn := fun _ => fun
  | [d1, d2] => { results := [.lit (.bool false)], args := [d1, d2] }
  | _ => none }
def FnExactFloorCountWrongFalsely : Prop := fnExactFloorCountRow.holds Try.pinned (OpenSpec.ofChange fnExactFloorCountWrong)

/-- 'laws.FnExactCountFaultless': WHATEVER THE INPUT: true; the input reads as it did. -/
def fnExactCountFaultlessSpec : ChangeSpec := { name := "fnExactCountFaultless", fn := fun _ => fun
  | [d1, d2] => { results := [.lit (.bool true)], args := [d1, d2] }
  | _ => none }
def fnExactCountFaultlessRow : OpenClaim := { program := "ytpejphholomenaa", sum := "1a84579a2ea5ab92c70f648de75e272249deaa13ae99de796d458af9d0b81833", func := "loop.example/g03300/laws.FnExactCountFaultless", spec := "fnExactCountFaultless", unfollowed := true, recurses := true, apart := false }
def FnExactCountFaultlessSaid : Prop := fnExactCountFaultlessRow.holds Try.pinned (OpenSpec.ofChange fnExactCountFaultlessSpec)

/-- ITS FALSE NEIGHBOUR: 'it returns false'. Refute it at one input. -/
def fnExactCountFaultlessWrong : ChangeSpec := { name := "fnExactCountFaultless", fn := fun _ => fun
  | [d1, d2] => { results := [.lit (.bool false)], args := [d1, d2] }
  | _ => none }
def FnExactCountFaultlessWrongFalsely : Prop := fnExactCountFaultlessRow.holds Try.pinned (OpenSpec.ofChange fnExactCountFaultlessWrong)

/-- 'laws.FnExactCountFaultFree': WHATEVER THE INPUT: true; the input reads as it did. -/
def fnExactCountFaultFreeSpec : ChangeSpec := { name := "fnExactCountFaultFree", fn := fun _ => fun
  | [d1, d2] => { results := [.lit (.bool true)], args := [d1, d2] }
  | _ => none }
def fnExactCountFaultFreeRow : OpenClaim := { program := "ytpejphholomenaa", sum := "1a84579a2ea5ab92c70f648de75e272249deaa13ae99de796d458af9d0b81833", func := "loop.example/g03300/laws.FnExactCountFaultFree", spec := "fnExactCountFaultFree", unfollowed := true, recurses := true, apart := false }
def FnExactCountFaultFreeSaid : Prop := fnExactCountFaultFreeRow.holds Try.pinned (OpenSpec.ofChange fnExactCountFaultFreeSpec)

/-- ITS FALSE NEIGHBOUR: 'it returns false'. Refute it at one input. -/
def fnExactCountFaultFreeWrong : ChangeSpec := { name := "fnExactCountFaultFree", fn := fun _ => fun
  | [d1, d2] => { results := [.lit (.bool false)], args := [d1, d2] }
  | _ => none }
def FnExactCountFaultFreeWrongFalsely : Prop := fnExactCountFaultFreeRow.holds Try.pinned (OpenSpec.ofChange fnExactCountFaultFreeWrong)

/-- 'laws.FnExactListTrees': WHATEVER THE INPUT: true; the input reads as it did. -/
def fnExactListTreesSpec : ChangeSpec := { name := "fnExactListTrees", fn := fun _ => fun
  | [d1, d2] => { results := [.lit (.bool true)], args := [d1, d2] }
  | _ => none }
def fnExactListTreesRow : OpenClaim := { program := "ytpejphholomenaa", sum := "1a84579a2ea5ab92c70f648de75e272249deaa13ae99de796d458af9d0b81833", func := "loop.example/g03300/laws.FnExactListTrees", spec := "fnExactListTrees", unfollowed := true, recurses := true, apart := false }
def FnExactListTreesSaid : Prop := fnExactListTreesRow.holds Try.pinned (OpenSpec.ofChange fnExactListTreesSpec)

/-- ITS FALSE NEIGHBOUR: 'it returns false'. Refute it at one input. -/
def fnExactListTreesWrong : ChangeSpec := { name := "fnExactListTrees", fn := fun _ => fun
  | [d1, d2] => { results := [.lit (.bool false)], args := [d1, d2] }
  | _ => none }
def FnExactListTreesWrongFalsely : Prop := fnExactListTreesRow.holds Try.pinned (OpenSpec.ofChange fnExactListTreesWrong)

/-- 'laws.FnTrees': WHATEVER THE INPUT: true; the input reads as it did. -/
def fnTreesSpec : ChangeSpec := { name := "fnTrees", fn := fun _ => fun
  | [d] => { results := [.lit (.bool true)], args := [d] }
  | _ => none }
def fnTreesRow : OpenClaim := { program := "ytpejphholomenaa", sum := "1a84579a2ea5ab92c70f648de75e272249deaa13ae99de796d458af9d0b81833", func := "loop.example/g03300/laws.FnTrees", spec := "fnTrees", unfollowed := true, recurses := true, apart := false }
def FnTreesSaid : Prop := fnTreesRow.holds Try.pinned (OpenSpec.ofChange fnTreesSpec)

/-- ITS FALSE NEIGHBOUR: 'it returns false'. Refute it at one input. -/
def fnTreesWrong : ChangeSpec := { name := "fnTrees", fn := fun _ => fun
  | [d] => { results := [.lit (.bool false)], args := [d] }
  | _ => none }
def FnTreesWrongFalsely : Prop := fnTreesRow.holds Try.pinned (OpenSpec.ofChange fnTreesWrong)

/-- 'laws.FnExactTilingOfTree': WHATEVER THE INPUT: true; the input reads as it did. -/
def fnExactTilingOfTreeSpec : ChangeSpec := { name := "fnExactTilingOfTree", fn := fun _ => fun
  | [d1, d2, d3] => { results := [.lit (.bool true)], args := [d1, d2, d3] }
  | _ => none }
def fnExactTilingOfTreeRow : OpenClaim := { program := "ytpejphholomenaa", sum := "1a84579a2ea5ab92c70f648de75e272249deaa13ae99de796d458af9d0b81833", func := "loop.example/g03300/laws.FnExactTilingOfTree", spec := "fnExactTilingOfTree", unfollowed := true, recurses := true, apart := false }
def FnExactTilingOfTreeSaid : Prop := fnExactTilingOfTreeRow.holds Try.pinned (OpenSpec.ofChange fnExactTilingOfTreeSpec)

/-- ITS FALSE NEIGHBOUR: 'it returns false'. Refute it at one input. -/
def fnExactTilingOfTreeWrong : ChangeSpec := { name := "fnExactTilingOfTree", fn := fun _ => fun
  | [d1, d2, d3] => { results := [.lit (.bool false)], args := [d1, d2, d3] }
  | _ => none }
def FnExactTilingOfTreeWrongFalsely : Prop := fnExactTilingOfTreeRow.holds Try.pinned (OpenSpec.ofChange fnExactTilingOfTreeWrong)

/- THE SECOND FORM. 'bulk': how many values and letters a reading holds, each counted each time it is reached (what is shared counts as often as it is met; a slice's spare places count too). A statement '..UptoSaid' is the law's where the arguments, and the package variables that the reading takes, are together of bulk at most 1048576: NARROWER than '..Said'. Prove '..Said' where nothing that the law and all that it calls make is longer than what came in: it says more and counts as full. Else prove '..UptoSaid'. A law counts once. -/
mutual
def uptoBulk {H : Type} : DataW H → Nat
  | .lit (.string bytes) => bytes.length + 1
  | .lit _ => 1
  | .nil => 1
  | .ptr d => uptoBulk d + 1
  | .slice elems spare => uptoBulkAll elems + uptoBulkAll spare + 1
  | .agg parts => uptoBulkAll parts + 1
  | .iface _ d => uptoBulk d + 1
  | .map entries => uptoBulkEntries entries + 1
  | .held _ => 1
def uptoBulkAll {H : Type} : List (DataW H) → Nat
  | [] => 0
  | d :: r => uptoBulk d + uptoBulkAll r
def uptoBulkEntries {H : Type} : List (Lit × DataW H) → Nat
  | [] => 0
  | x :: r => uptoBulkEntry x + uptoBulkEntries r
def uptoBulkEntry {H : Type} : Lit × DataW H → Nat
  | (.string bytes, d) => bytes.length + uptoBulk d + 1
  | (_, d) => uptoBulk d + 1
 end
def uptoSmall : (H : Type) → List (DataW H) → Bool := fun _ ds => decide (uptoBulkAll ds ≤ 1048576)
def OpenSpec.upto (s : _root_.Go.ChangeSpec) : _root_.Go.OpenSpec := { _root_.Go.OpenSpec.ofChange s with cond := some uptoSmall }

/-- 'laws.FnFamilies', WHERE WHAT IT READS IS OF BULK AT MOST 1048576: true; the input reads as it did. -/
def fnFamiliesUptoRow : OpenClaim := { program := "ytpejphholomenaa", sum := "1a84579a2ea5ab92c70f648de75e272249deaa13ae99de796d458af9d0b81833", func := "loop.example/g03300/laws.FnFamilies", spec := "fnFamilies", unfollowed := true, recurses := true, apart := false, narrowed := true }
def FnFamiliesUptoSaid : Prop := fnFamiliesUptoRow.holds Try.pinned (OpenSpec.upto fnFamiliesSpec)

/-- 'laws.FnExactFaultsAcross', WHERE WHAT IT READS IS OF BULK AT MOST 1048576: true; the input reads as it did. -/
def fnExactFaultsAcrossUptoRow : OpenClaim := { program := "ytpejphholomenaa", sum := "1a84579a2ea5ab92c70f648de75e272249deaa13ae99de796d458af9d0b81833", func := "loop.example/g03300/laws.FnExactFaultsAcross", spec := "fnExactFaultsAcross", apart := false, narrowed := true }
def FnExactFaultsAcrossUptoSaid : Prop := fnExactFaultsAcrossUptoRow.holds Try.pinned (OpenSpec.upto fnExactFaultsAcrossSpec)

/-- 'laws.FnExactFaultsDown', WHERE WHAT IT READS IS OF BULK AT MOST 1048576: true; the input reads as it did. -/
def fnExactFaultsDownUptoRow : OpenClaim := { program := "ytpejphholomenaa", sum := "1a84579a2ea5ab92c70f648de75e272249deaa13ae99de796d458af9d0b81833", func := "loop.example/g03300/laws.FnExactFaultsDown", spec := "fnExactFaultsDown", apart := false, narrowed := true }
def FnExactFaultsDownUptoSaid : Prop := fnExactFaultsDownUptoRow.holds Try.pinned (OpenSpec.upto fnExactFaultsDownSpec)

/-- 'laws.FnExactMirrorTiling', WHERE WHAT IT READS IS OF BULK AT MOST 1048576: true; the input reads as it did. -/
def fnExactMirrorTilingUptoRow : OpenClaim := { program := "ytpejphholomenaa", sum := "1a84579a2ea5ab92c70f648de75e272249deaa13ae99de796d458af9d0b81833", func := "loop.example/g03300/laws.FnExactMirrorTiling", spec := "fnExactMirrorTiling", unfollowed := true, recurses := true, apart := false, narrowed := true }
def FnExactMirrorTilingUptoSaid : Prop := fnExactMirrorTilingUptoRow.holds Try.pinned (OpenSpec.upto fnExactMirrorTilingSpec)

/-- 'laws.FnExactTurnTiling', WHERE WHAT IT READS IS OF BULK AT MOST 1048576: true; the input reads as it did. -/
def fnExactTurnTilingUptoRow : OpenClaim := { program := "ytpejphholomenaa", sum := "1a84579a2ea5ab92c70f648de75e272249deaa13ae99de796d458af9d0b81833", func := "loop.example/g03300/laws.FnExactTurnTiling", spec := "fnExactTurnTiling", unfollowed := true, recurses := true, apart := false, narrowed := true }
def FnExactTurnTilingUptoSaid : Prop := fnExactTurnTilingUptoRow.holds Try.pinned (OpenSpec.upto fnExactTurnTilingSpec)

/-- 'laws.FnExactWeightedCount', WHERE WHAT IT READS IS OF BULK AT MOST 1048576: true; the input reads as it did. -/
def fnExactWeightedCountUptoRow : OpenClaim := { program := "ytpejphholomenaa", sum := "1a84579a2ea5ab92c70f648de75e272249deaa13ae99de796d458af9d0b81833", func := "loop.example/g03300/laws.FnExactWeightedCount", spec := "fnExactWeightedCount", unfollowed := true, recurses := true, apart := false, narrowed := true }
def FnExactWeightedCountUptoSaid : Prop := fnExactWeightedCountUptoRow.holds Try.pinned (OpenSpec.upto fnExactWeightedCountSpec)

/-- 'laws.FnExactFloorCount', WHERE WHAT IT READS IS OF BULK AT MOST 1048576: true; the input reads as it did. -/
def fnExactFloorCountUptoRow : OpenClaim := { program := "ytpejphholomenaa", sum := "1a84579a2ea5ab92c70f648de75e272249deaa13ae99de796d458af9d0b81833", func := "loop.example/g03300/laws.FnExactFloorCount", spec := "fnExactFloorCount", unfollowed := true, recurses := true, apart := false, narrowed := true }
def FnExactFloorCountUptoSaid : Prop := fnExactFloorCountUptoRow.holds Try.pinned (OpenSpec.upto fnExactFloorCountSpec)

/-- 'laws.FnExactCountFaultless', WHERE WHAT IT READS IS OF BULK AT MOST 1048576: true; the input reads as it did. -/
def fnExactCountFaultlessUptoRow : OpenClaim := { program := "ytpejphholomenaa", sum := "1a84579a2ea5ab92c70f648de75e272249deaa13ae99de796d458af9d0b81833", func := "loop.example/g03300/laws.FnExactCountFaultless", spec := "fnExactCountFaultless", unfollowed := true, recurses := true, apart := false, narrowed := true }
def FnExactCountFaultlessUptoSaid : Prop := fnExactCountFaultlessUptoRow.holds Try.pinned (OpenSpec.upto fnExactCountFaultlessSpec)

/-- 'laws.FnExactCountFaultFree', WHERE WHAT IT READS IS OF BULK AT MOST 1048576: true; the input reads as it did. -/
def fnExactCountFaultFreeUptoRow : OpenClaim := { program := "ytpejphholomenaa", sum := "1a84579a2ea5ab92c70f648de75e272249deaa13ae99de796d458af9d0b81833", func := "loop.example/g03300/laws.FnExactCountFaultFree", spec := "fnExactCountFaultFree", unfollowed := true, recurses := true, apart := false, narrowed := true }
def FnExactCountFaultFreeUptoSaid : Prop := fnExactCountFaultFreeUptoRow.holds Try.pinned (OpenSpec.upto fnExactCountFaultFreeSpec)

/-- 'laws.FnExactListTrees', WHERE WHAT IT READS IS OF BULK AT MOST 1048576: true; the input reads as it did. -/
def fnExactListTreesUptoRow : OpenClaim := { program := "ytpejphholomenaa", sum := "1a84579a2ea5ab92c70f648de75e272249deaa13ae99de796d458af9d0b81833", func := "loop.example/g03300/laws.FnExactListTrees", spec := "fnExactListTrees", unfollowed := true, recurses := true, apart := false, narrowed := true }
def FnExactListTreesUptoSaid : Prop := fnExactListTreesUptoRow.holds Try.pinned (OpenSpec.upto fnExactListTreesSpec)

/-- 'laws.FnTrees', WHERE WHAT IT READS IS OF BULK AT MOST 1048576: true; the input reads as it did. -/
def fnTreesUptoRow : OpenClaim := { program := "ytpejphholomenaa", sum := "1a84579a2ea5ab92c70f648de75e272249deaa13ae99de796d458af9d0b81833", func := "loop.example/g03300/laws.FnTrees", spec := "fnTrees", unfollowed := true, recurses := true, apart := false, narrowed := true }
def FnTreesUptoSaid : Prop := fnTreesUptoRow.holds Try.pinned (OpenSpec.upto fnTreesSpec)

/-- 'laws.FnExactTilingOfTree', WHERE WHAT IT READS IS OF BULK AT MOST 1048576: true; the input reads as it did. -/
def fnExactTilingOfTreeUptoRow : OpenClaim := { program := "ytpejphholomenaa", sum := "1a84579a2ea5ab92c70f648de75e272249deaa13ae99de796d458af9d0b81833", func := "loop.example/g03300/laws.FnExactTilingOfTree", spec := "fnExactTilingOfTree", unfollowed := true, recurses := true, apart := false, narrowed := true }
def FnExactTilingOfTreeUptoSaid : Prop := fnExactTilingOfTreeUptoRow.holds Try.pinned (OpenSpec.upto fnExactTilingOfTreeSpec)

end Rows
end Go.Proofs.Ytpejphholomenaa
