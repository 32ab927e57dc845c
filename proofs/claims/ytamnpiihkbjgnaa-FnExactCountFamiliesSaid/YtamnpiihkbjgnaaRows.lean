/-
  No cell of these rows narrows 'for every input' (looked for: loops, veiled, ifaces, maps, wideKeys, modest, calm, conditions, laid).
  DERIVED. THE GIVEN ROWS OF THIS SEAT. 12 by the template 'for every input the law returns true; each argument reads behind the call as it read before'; 0 by the template 'total and deterministic' (their statements: YtamnpiihkbjgnaaTotals.lean).
  GIVEN WITH THE SEED: the statements are not yours to turn. If you find one false, say at which input.
  Laid BY PROGRAM, IN A SANDBOX (cutbox-rows.mjs): the forced cells as the released guide's own fill.sh prints them over the translation 3c15b66a8edf7114… (all of the seat's roots in one cut). By AI agents, Wed Nov 11 2026. No macro, syntax, notation, axiom, sorry.
-/
import Derived.Test.YtamnpiihkbjgnaaChecked
import GoSem.Claim
import GoSem.ClaimJoined
import GoSem.ClaimMapViews
import Derived.JoinedTies
import Derived.KernelRfl
namespace Go.Proofs.Ytamnpiihkbjgnaa
/- THE CELL 'sum', in the pinned program and in every row, IS THE sha256 OF THE DUMP (.gsa) THAT YtamnpiihkbjgnaaProg.lean LOADS. Nothing in Lean hashes anything: it is a label: what it is worth is what the hold of that sum in a sandbox is worth. -/
noncomputable def Try.pinned : Pinned := { name := "ytamnpiihkbjgnaa", sum := "3c15b66a8edf7114a5c3e4a95f6a3f9d333e6dba8edea153d61165cbfce0c13e", checked := Try.checked }
namespace Rows
def none {H : Type} : Left H := { results := [], args := [] }

/-- 'laws.FnExactCountFamilies': WHATEVER THE INPUT: true; the input reads as it did. -/
def fnExactCountFamiliesSpec : ChangeSpec := { name := "fnExactCountFamilies", fn := fun _ => fun
  | [d1, d2] => { results := [.lit (.bool true)], args := [d1, d2] }
  | _ => none }
def fnExactCountFamiliesRow : OpenClaim := { program := "ytamnpiihkbjgnaa", sum := "3c15b66a8edf7114a5c3e4a95f6a3f9d333e6dba8edea153d61165cbfce0c13e", func := "loop.example/g03300/laws.FnExactCountFamilies", spec := "fnExactCountFamilies", unfollowed := true, recurses := true, apart := false }
def FnExactCountFamiliesSaid : Prop := fnExactCountFamiliesRow.holds Try.pinned (OpenSpec.ofChange fnExactCountFamiliesSpec)

/-- ITS FALSE NEIGHBOUR: 'it returns false'. Refute it at one input. -/
def fnExactCountFamiliesWrong : ChangeSpec := { name := "fnExactCountFamilies", fn := fun _ => fun
  | [d1, d2] => { results := [.lit (.bool false)], args := [d1, d2] }
  | _ => none }
def FnExactCountFamiliesWrongFalsely : Prop := fnExactCountFamiliesRow.holds Try.pinned (OpenSpec.ofChange fnExactCountFamiliesWrong)

/-- 'laws.FnExactListHeaps': WHATEVER THE INPUT: true; the input reads as it did. -/
def fnExactListHeapsSpec : ChangeSpec := { name := "fnExactListHeaps", fn := fun _ => fun
  | [d1, d2, d3] => { results := [.lit (.bool true)], args := [d1, d2, d3] }
  | _ => none }
def fnExactListHeapsRow : OpenClaim := { program := "ytamnpiihkbjgnaa", sum := "3c15b66a8edf7114a5c3e4a95f6a3f9d333e6dba8edea153d61165cbfce0c13e", func := "loop.example/g03300/laws.FnExactListHeaps", spec := "fnExactListHeaps", unfollowed := true, recurses := true, apart := false }
def FnExactListHeapsSaid : Prop := fnExactListHeapsRow.holds Try.pinned (OpenSpec.ofChange fnExactListHeapsSpec)

/-- ITS FALSE NEIGHBOUR: 'it returns false'. Refute it at one input. -/
def fnExactListHeapsWrong : ChangeSpec := { name := "fnExactListHeaps", fn := fun _ => fun
  | [d1, d2, d3] => { results := [.lit (.bool false)], args := [d1, d2, d3] }
  | _ => none }
def FnExactListHeapsWrongFalsely : Prop := fnExactListHeapsRow.holds Try.pinned (OpenSpec.ofChange fnExactListHeapsWrong)

/-- 'laws.FnExactCountFaultless': WHATEVER THE INPUT: true; the input reads as it did. -/
def fnExactCountFaultlessSpec : ChangeSpec := { name := "fnExactCountFaultless", fn := fun _ => fun
  | [d1, d2] => { results := [.lit (.bool true)], args := [d1, d2] }
  | _ => none }
def fnExactCountFaultlessRow : OpenClaim := { program := "ytamnpiihkbjgnaa", sum := "3c15b66a8edf7114a5c3e4a95f6a3f9d333e6dba8edea153d61165cbfce0c13e", func := "loop.example/g03300/laws.FnExactCountFaultless", spec := "fnExactCountFaultless", unfollowed := true, recurses := true, apart := false }
def FnExactCountFaultlessSaid : Prop := fnExactCountFaultlessRow.holds Try.pinned (OpenSpec.ofChange fnExactCountFaultlessSpec)

/-- ITS FALSE NEIGHBOUR: 'it returns false'. Refute it at one input. -/
def fnExactCountFaultlessWrong : ChangeSpec := { name := "fnExactCountFaultless", fn := fun _ => fun
  | [d1, d2] => { results := [.lit (.bool false)], args := [d1, d2] }
  | _ => none }
def FnExactCountFaultlessWrongFalsely : Prop := fnExactCountFaultlessRow.holds Try.pinned (OpenSpec.ofChange fnExactCountFaultlessWrong)

/-- 'laws.FnExactIsFaultFree': WHATEVER THE INPUT: true; the input reads as it did. -/
def fnExactIsFaultFreeSpec : ChangeSpec := { name := "fnExactIsFaultFree", fn := fun _ => fun
  | [d1, d2, d3] => { results := [.lit (.bool true)], args := [d1, d2, d3] }
  | _ => none }
def fnExactIsFaultFreeRow : OpenClaim := { program := "ytamnpiihkbjgnaa", sum := "3c15b66a8edf7114a5c3e4a95f6a3f9d333e6dba8edea153d61165cbfce0c13e", func := "loop.example/g03300/laws.FnExactIsFaultFree", spec := "fnExactIsFaultFree", apart := false }
def FnExactIsFaultFreeSaid : Prop := fnExactIsFaultFreeRow.holds Try.pinned (OpenSpec.ofChange fnExactIsFaultFreeSpec)

/-- ITS FALSE NEIGHBOUR: 'it returns false'. Refute it at one input. -/
def fnExactIsFaultFreeWrong : ChangeSpec := { name := "fnExactIsFaultFree", fn := fun _ => fun
  | [d1, d2, d3] => { results := [.lit (.bool false)], args := [d1, d2, d3] }
  | _ => none }
def FnExactIsFaultFreeWrongFalsely : Prop := fnExactIsFaultFreeRow.holds Try.pinned (OpenSpec.ofChange fnExactIsFaultFreeWrong)

/-- 'laws.FnExactFaultsAcross': WHATEVER THE INPUT: true; the input reads as it did. -/
def fnExactFaultsAcrossSpec : ChangeSpec := { name := "fnExactFaultsAcross", fn := fun _ => fun
  | [d1, d2, d3] => { results := [.lit (.bool true)], args := [d1, d2, d3] }
  | _ => none }
def fnExactFaultsAcrossRow : OpenClaim := { program := "ytamnpiihkbjgnaa", sum := "3c15b66a8edf7114a5c3e4a95f6a3f9d333e6dba8edea153d61165cbfce0c13e", func := "loop.example/g03300/laws.FnExactFaultsAcross", spec := "fnExactFaultsAcross", apart := false }
def FnExactFaultsAcrossSaid : Prop := fnExactFaultsAcrossRow.holds Try.pinned (OpenSpec.ofChange fnExactFaultsAcrossSpec)

/-- ITS FALSE NEIGHBOUR: 'it returns false'. Refute it at one input. -/
def fnExactFaultsAcrossWrong : ChangeSpec := { name := "fnExactFaultsAcross", fn := fun _ => fun
  | [d1, d2, d3] => { results := [.lit (.bool false)], args := [d1, d2, d3] }
  | _ => none }
def FnExactFaultsAcrossWrongFalsely : Prop := fnExactFaultsAcrossRow.holds Try.pinned (OpenSpec.ofChange fnExactFaultsAcrossWrong)

/-- 'laws.FnExactFaultsDown': WHATEVER THE INPUT: true; the input reads as it did. -/
def fnExactFaultsDownSpec : ChangeSpec := { name := "fnExactFaultsDown", fn := fun _ => fun
  | [d1, d2, d3] => { results := [.lit (.bool true)], args := [d1, d2, d3] }
  | _ => none }
def fnExactFaultsDownRow : OpenClaim := { program := "ytamnpiihkbjgnaa", sum := "3c15b66a8edf7114a5c3e4a95f6a3f9d333e6dba8edea153d61165cbfce0c13e", func := "loop.example/g03300/laws.FnExactFaultsDown", spec := "fnExactFaultsDown", apart := false }
def FnExactFaultsDownSaid : Prop := fnExactFaultsDownRow.holds Try.pinned (OpenSpec.ofChange fnExactFaultsDownSpec)

/-- ITS FALSE NEIGHBOUR: 'it returns false'. Refute it at one input. -/
def fnExactFaultsDownWrong : ChangeSpec := { name := "fnExactFaultsDown", fn := fun _ => fun
  | [d1, d2, d3] => { results := [.lit (.bool false)], args := [d1, d2, d3] }
  | _ => none }
def FnExactFaultsDownWrongFalsely : Prop := fnExactFaultsDownRow.holds Try.pinned (OpenSpec.ofChange fnExactFaultsDownWrong)

/-- 'laws.FnExactMirrorTiling': WHATEVER THE INPUT: true; the input reads as it did. -/
def fnExactMirrorTilingSpec : ChangeSpec := { name := "fnExactMirrorTiling", fn := fun _ => fun
  | [d1, d2] => { results := [.lit (.bool true)], args := [d1, d2] }
  | _ => none }
def fnExactMirrorTilingRow : OpenClaim := { program := "ytamnpiihkbjgnaa", sum := "3c15b66a8edf7114a5c3e4a95f6a3f9d333e6dba8edea153d61165cbfce0c13e", func := "loop.example/g03300/laws.FnExactMirrorTiling", spec := "fnExactMirrorTiling", unfollowed := true, recurses := true, apart := false }
def FnExactMirrorTilingSaid : Prop := fnExactMirrorTilingRow.holds Try.pinned (OpenSpec.ofChange fnExactMirrorTilingSpec)

/-- ITS FALSE NEIGHBOUR: 'it returns false'. Refute it at one input. -/
def fnExactMirrorTilingWrong : ChangeSpec := { name := "fnExactMirrorTiling", fn := fun _ => fun
  | [d1, d2] => { results := [.lit (.bool false)], args := [d1, d2] }
  | _ => none }
def FnExactMirrorTilingWrongFalsely : Prop := fnExactMirrorTilingRow.holds Try.pinned (OpenSpec.ofChange fnExactMirrorTilingWrong)

/-- 'laws.FnExactTurnTiling': WHATEVER THE INPUT: true; the input reads as it did. -/
def fnExactTurnTilingSpec : ChangeSpec := { name := "fnExactTurnTiling", fn := fun _ => fun
  | [d1, d2] => { results := [.lit (.bool true)], args := [d1, d2] }
  | _ => none }
def fnExactTurnTilingRow : OpenClaim := { program := "ytamnpiihkbjgnaa", sum := "3c15b66a8edf7114a5c3e4a95f6a3f9d333e6dba8edea153d61165cbfce0c13e", func := "loop.example/g03300/laws.FnExactTurnTiling", spec := "fnExactTurnTiling", unfollowed := true, recurses := true, apart := false }
def FnExactTurnTilingSaid : Prop := fnExactTurnTilingRow.holds Try.pinned (OpenSpec.ofChange fnExactTurnTilingSpec)

/-- ITS FALSE NEIGHBOUR: 'it returns false'. Refute it at one input. -/
def fnExactTurnTilingWrong : ChangeSpec := { name := "fnExactTurnTiling", fn := fun _ => fun
  | [d1, d2] => { results := [.lit (.bool false)], args := [d1, d2] }
  | _ => none }
def FnExactTurnTilingWrongFalsely : Prop := fnExactTurnTilingRow.holds Try.pinned (OpenSpec.ofChange fnExactTurnTilingWrong)

/-- 'laws.FnExactCountFixed': WHATEVER THE INPUT: true; the input reads as it did. -/
def fnExactCountFixedSpec : ChangeSpec := { name := "fnExactCountFixed", fn := fun _ => fun
  | [d1, d2, d3] => { results := [.lit (.bool true)], args := [d1, d2, d3] }
  | _ => none }
def fnExactCountFixedRow : OpenClaim := { program := "ytamnpiihkbjgnaa", sum := "3c15b66a8edf7114a5c3e4a95f6a3f9d333e6dba8edea153d61165cbfce0c13e", func := "loop.example/g03300/laws.FnExactCountFixed", spec := "fnExactCountFixed", unfollowed := true, recurses := true, apart := false }
def FnExactCountFixedSaid : Prop := fnExactCountFixedRow.holds Try.pinned (OpenSpec.ofChange fnExactCountFixedSpec)

/-- ITS FALSE NEIGHBOUR: 'it returns false'. Refute it at one input. -/
def fnExactCountFixedWrong : ChangeSpec := { name := "fnExactCountFixed", fn := fun _ => fun
  | [d1, d2, d3] => { results := [.lit (.bool false)], args := [d1, d2, d3] }
  | _ => none }
def FnExactCountFixedWrongFalsely : Prop := fnExactCountFixedRow.holds Try.pinned (OpenSpec.ofChange fnExactCountFixedWrong)

/-- 'laws.FnExactEmptySquares': WHATEVER THE INPUT: true; the input reads as it did. -/
def fnExactEmptySquaresSpec : ChangeSpec := { name := "fnExactEmptySquares", fn := fun _ => fun
  | [d1, d2] => { results := [.lit (.bool true)], args := [d1, d2] }
  | _ => none }
def fnExactEmptySquaresRow : OpenClaim := { program := "ytamnpiihkbjgnaa", sum := "3c15b66a8edf7114a5c3e4a95f6a3f9d333e6dba8edea153d61165cbfce0c13e", func := "loop.example/g03300/laws.FnExactEmptySquares", spec := "fnExactEmptySquares", apart := false }
def FnExactEmptySquaresSaid : Prop := fnExactEmptySquaresRow.holds Try.pinned (OpenSpec.ofChange fnExactEmptySquaresSpec)

/-- ITS FALSE NEIGHBOUR: 'it returns false'. Refute it at one input. -/
def fnExactEmptySquaresWrong : ChangeSpec := { name := "fnExactEmptySquares", fn := fun _ => fun
  | [d1, d2] => { results := [.lit (.bool false)], args := [d1, d2] }
  | _ => none }
def FnExactEmptySquaresWrongFalsely : Prop := fnExactEmptySquaresRow.holds Try.pinned (OpenSpec.ofChange fnExactEmptySquaresWrong)

/-- 'laws.FnExactTilingOfTree': WHATEVER THE INPUT: true; the input reads as it did. -/
def fnExactTilingOfTreeSpec : ChangeSpec := { name := "fnExactTilingOfTree", fn := fun _ => fun
  | [d1, d2, d3] => { results := [.lit (.bool true)], args := [d1, d2, d3] }
  | _ => none }
def fnExactTilingOfTreeRow : OpenClaim := { program := "ytamnpiihkbjgnaa", sum := "3c15b66a8edf7114a5c3e4a95f6a3f9d333e6dba8edea153d61165cbfce0c13e", func := "loop.example/g03300/laws.FnExactTilingOfTree", spec := "fnExactTilingOfTree", unfollowed := true, recurses := true, apart := false }
def FnExactTilingOfTreeSaid : Prop := fnExactTilingOfTreeRow.holds Try.pinned (OpenSpec.ofChange fnExactTilingOfTreeSpec)

/-- ITS FALSE NEIGHBOUR: 'it returns false'. Refute it at one input. -/
def fnExactTilingOfTreeWrong : ChangeSpec := { name := "fnExactTilingOfTree", fn := fun _ => fun
  | [d1, d2, d3] => { results := [.lit (.bool false)], args := [d1, d2, d3] }
  | _ => none }
def FnExactTilingOfTreeWrongFalsely : Prop := fnExactTilingOfTreeRow.holds Try.pinned (OpenSpec.ofChange fnExactTilingOfTreeWrong)

/-- 'laws.FnExactTreeOfTiling': WHATEVER THE INPUT: true; the input reads as it did. -/
def fnExactTreeOfTilingSpec : ChangeSpec := { name := "fnExactTreeOfTiling", fn := fun _ => fun
  | [d1, d2, d3] => { results := [.lit (.bool true)], args := [d1, d2, d3] }
  | _ => none }
def fnExactTreeOfTilingRow : OpenClaim := { program := "ytamnpiihkbjgnaa", sum := "3c15b66a8edf7114a5c3e4a95f6a3f9d333e6dba8edea153d61165cbfce0c13e", func := "loop.example/g03300/laws.FnExactTreeOfTiling", spec := "fnExactTreeOfTiling", unfollowed := true, recurses := true, apart := false }
def FnExactTreeOfTilingSaid : Prop := fnExactTreeOfTilingRow.holds Try.pinned (OpenSpec.ofChange fnExactTreeOfTilingSpec)

/-- ITS FALSE NEIGHBOUR: 'it returns false'. Refute it at one input. -/
def fnExactTreeOfTilingWrong : ChangeSpec := { name := "fnExactTreeOfTiling", fn := fun _ => fun
  | [d1, d2, d3] => { results := [.lit (.bool false)], args := [d1, d2, d3] }
  | _ => none }
def FnExactTreeOfTilingWrongFalsely : Prop := fnExactTreeOfTilingRow.holds Try.pinned (OpenSpec.ofChange fnExactTreeOfTilingWrong)

/- THE SECOND FORM. 'bulk': how many values and letters a reading holds, each counted each time it is reached (what is shared counts as often as it is met; a slice's spare places count too). A statement '..UptoSaid' is the law's where the arguments, and the package variables that the reading takes, are together of bulk at most 1048576: NARROWER than '..Said'. Prove '..Said' where nothing that the law and all that it calls make is longer than what came in: it says more and counts as full. Else prove '..UptoSaid'. A law counts once. -/
mutual
def uptoBulk {H : Type} : DataW H → Nat
  | .lit (.string bytes) => bytes.length + 1
  | .lit _ => 1
  | .nil => 1
  | .ptr d => uptoBulk d + 1
  | .slice elems spare => uptoBulkAll elems + uptoBulkAll spare + 1
  | .agg parts => uptoBulkAll parts + 1
  | .iface _ d => uptoBulk d + 1
  | .map entries => uptoBulkEntries entries + 1
  | .held _ => 1
def uptoBulkAll {H : Type} : List (DataW H) → Nat
  | [] => 0
  | d :: r => uptoBulk d + uptoBulkAll r
def uptoBulkEntries {H : Type} : List (Lit × DataW H) → Nat
  | [] => 0
  | x :: r => uptoBulkEntry x + uptoBulkEntries r
def uptoBulkEntry {H : Type} : Lit × DataW H → Nat
  | (.string bytes, d) => bytes.length + uptoBulk d + 1
  | (_, d) => uptoBulk d + 1
 end
def uptoSmall : (H : Type) → List (DataW H) → Bool := fun _ ds => decide (uptoBulkAll ds ≤ 1048576)
def OpenSpec.upto (s : _root_.Go.ChangeSpec) : _root_.Go.OpenSpec := { _root_.Go.OpenSpec.ofChange s with cond := some uptoSmall }

/-- 'laws.FnExactCountFamilies', WHERE WHAT IT READS IS OF BULK AT MOST 1048576: true; the input reads as it did. -/
def fnExactCountFamiliesUptoRow : OpenClaim := { program := "ytamnpiihkbjgnaa", sum := "3c15b66a8edf7114a5c3e4a95f6a3f9d333e6dba8edea153d61165cbfce0c13e", func := "loop.example/g03300/laws.FnExactCountFamilies", spec := "fnExactCountFamilies", unfollowed := true, recurses := true, apart := false, narrowed := true }
def FnExactCountFamiliesUptoSaid : Prop := fnExactCountFamiliesUptoRow.holds Try.pinned (OpenSpec.upto fnExactCountFamiliesSpec)

/-- 'laws.FnExactListHeaps', WHERE WHAT IT READS IS OF BULK AT MOST 1048576: true; the input reads as it did. -/
def fnExactListHeapsUptoRow : OpenClaim := { program := "ytamnpiihkbjgnaa", sum := "3c15b66a8edf7114a5c3e4a95f6a3f9d333e6dba8edea153d61165cbfce0c13e", func := "loop.example/g03300/laws.FnExactListHeaps", spec := "fnExactListHeaps", unfollowed := true, recurses := true, apart := false, narrowed := true }
def FnExactListHeapsUptoSaid : Prop := fnExactListHeapsUptoRow.holds Try.pinned (OpenSpec.upto fnExactListHeapsSpec)

/-- 'laws.FnExactCountFaultless', WHERE WHAT IT READS IS OF BULK AT MOST 1048576: true; the input reads as it did. -/
def fnExactCountFaultlessUptoRow : OpenClaim := { program := "ytamnpiihkbjgnaa", sum := "3c15b66a8edf7114a5c3e4a95f6a3f9d333e6dba8edea153d61165cbfce0c13e", func := "loop.example/g03300/laws.FnExactCountFaultless", spec := "fnExactCountFaultless", unfollowed := true, recurses := true, apart := false, narrowed := true }
def FnExactCountFaultlessUptoSaid : Prop := fnExactCountFaultlessUptoRow.holds Try.pinned (OpenSpec.upto fnExactCountFaultlessSpec)

/-- 'laws.FnExactIsFaultFree', WHERE WHAT IT READS IS OF BULK AT MOST 1048576: true; the input reads as it did. -/
def fnExactIsFaultFreeUptoRow : OpenClaim := { program := "ytamnpiihkbjgnaa", sum := "3c15b66a8edf7114a5c3e4a95f6a3f9d333e6dba8edea153d61165cbfce0c13e", func := "loop.example/g03300/laws.FnExactIsFaultFree", spec := "fnExactIsFaultFree", apart := false, narrowed := true }
def FnExactIsFaultFreeUptoSaid : Prop := fnExactIsFaultFreeUptoRow.holds Try.pinned (OpenSpec.upto fnExactIsFaultFreeSpec)

/-- 'laws.FnExactFaultsAcross', WHERE WHAT IT READS IS OF BULK AT MOST 1048576: true; the input reads as it did. -/
def fnExactFaultsAcrossUptoRow : OpenClaim := { program := "ytamnpiihkbjgnaa", sum := "3c15b66a8edf7114a5c3e4a95f6a3f9d333e6dba8edea153d61165cbfce0c13e", func := "loop.example/g03300/laws.FnExactFaultsAcross", spec := "fnExactFaultsAcross", apart := false, narrowed := true }
def FnExactFaultsAcrossUptoSaid : Prop := fnExactFaultsAcrossUptoRow.holds Try.pinned (OpenSpec.upto fnExactFaultsAcrossSpec)

/-- 'laws.FnExactFaultsDown', WHERE WHAT IT READS IS OF BULK AT MOST 1048576: true; the input reads as it did. -/
def fnExactFaultsDownUptoRow : OpenClaim := { program := "ytamnpiihkbjgnaa", sum := "3c15b66a8edf7114a5c3e4a95f6a3f9d333e6dba8edea153d61165cbfce0c13e", func := "loop.example/g03300/laws.FnExactFaultsDown", spec := "fnExactFaultsDown", apart := false, narrowed := true }
def FnExactFaultsDownUptoSaid : Prop := fnExactFaultsDownUptoRow.holds Try.pinned (OpenSpec.upto fnExactFaultsDownSpec)

/-- 'laws.FnExactMirrorTiling', WHERE WHAT IT READS IS OF BULK AT MOST 1048576: true; the input reads as it did. -/
def fnExactMirrorTilingUptoRow : OpenClaim := { program := "ytamnpiihkbjgnaa", sum := "3c15b66a8edf7114a5c3e4a95f6a3f9d333e6dba8edea153d61165cbfce0c13e", func := "loop.example/g03300/laws.FnExactMirrorTiling", spec := "fnExactMirrorTiling", unfollowed := true, recurses := true, apart := false, narrowed := true }
def FnExactMirrorTilingUptoSaid : Prop := fnExactMirrorTilingUptoRow.holds Try.pinned (OpenSpec.upto fnExactMirrorTilingSpec)

/-- 'laws.FnExactTurnTiling', WHERE WHAT IT READS IS OF BULK AT MOST 1048576: true; the input reads as it did. -/
def fnExactTurnTilingUptoRow : OpenClaim := { program := "ytamnpiihkbjgnaa", sum := "3c15b66a8edf7114a5c3e4a95f6a3f9d333e6dba8edea153d61165cbfce0c13e", func := "loop.example/g03300/laws.FnExactTurnTiling", spec := "fnExactTurnTiling", unfollowed := true, recurses := true, apart := false, narrowed := true }
def FnExactTurnTilingUptoSaid : Prop := fnExactTurnTilingUptoRow.holds Try.pinned (OpenSpec.upto fnExactTurnTilingSpec)

/-- 'laws.FnExactCountFixed', WHERE WHAT IT READS IS OF BULK AT MOST 1048576: true; the input reads as it did. -/
def fnExactCountFixedUptoRow : OpenClaim := { program := "ytamnpiihkbjgnaa", sum := "3c15b66a8edf7114a5c3e4a95f6a3f9d333e6dba8edea153d61165cbfce0c13e", func := "loop.example/g03300/laws.FnExactCountFixed", spec := "fnExactCountFixed", unfollowed := true, recurses := true, apart := false, narrowed := true }
def FnExactCountFixedUptoSaid : Prop := fnExactCountFixedUptoRow.holds Try.pinned (OpenSpec.upto fnExactCountFixedSpec)

/-- 'laws.FnExactEmptySquares', WHERE WHAT IT READS IS OF BULK AT MOST 1048576: true; the input reads as it did. -/
def fnExactEmptySquaresUptoRow : OpenClaim := { program := "ytamnpiihkbjgnaa", sum := "3c15b66a8edf7114a5c3e4a95f6a3f9d333e6dba8edea153d61165cbfce0c13e", func := "loop.example/g03300/laws.FnExactEmptySquares", spec := "fnExactEmptySquares", apart := false, narrowed := true }
def FnExactEmptySquaresUptoSaid : Prop := fnExactEmptySquaresUptoRow.holds Try.pinned (OpenSpec.upto fnExactEmptySquaresSpec)

/-- 'laws.FnExactTilingOfTree', WHERE WHAT IT READS IS OF BULK AT MOST 1048576: true; the input reads as it did. -/
def fnExactTilingOfTreeUptoRow : OpenClaim := { program := "ytamnpiihkbjgnaa", sum := "3c15b66a8edf7114a5c3e4a95f6a3f9d333e6dba8edea153d61165cbfce0c13e", func := "loop.example/g03300/laws.FnExactTilingOfTree", spec := "fnExactTilingOfTree", unfollowed := true, recurses := true, apart := false, narrowed := true }
def FnExactTilingOfTreeUptoSaid : Prop := fnExactTilingOfTreeUptoRow.holds Try.pinned (OpenSpec.upto fnExactTilingOfTreeSpec)

/-- 'laws.FnExactTreeOfTiling', WHERE WHAT IT READS IS OF BULK AT MOST 1048576: true; the input reads as it did. -/
def fnExactTreeOfTilingUptoRow : OpenClaim := { program := "ytamnpiihkbjgnaa", sum := "3c15b66a8edf7114a5c3e4a95f6a3f9d333e6dba8edea153d61165cbfce0c13e", func := "loop.example/g03300/laws.FnExactTreeOfTiling", spec := "fnExactTreeOfTiling", unfollowed := true, recurses := true, apart := false, narrowed := true }
def FnExactTreeOfTilingUptoSaid : Prop := fnExactTreeOfTilingUptoRow.holds Try.pinned (OpenSpec.upto fnExactTreeOfTilingSpec)

end Rows
end Go.Proofs.Ytamnpiihkbjgnaa
