/-
  No cell of these rows narrows 'for every input' (looked for: loops, veiled, ifaces, maps, wideKeys, modest, calm, conditions, laid).
  DERIVED. THE GIVEN ROWS OF THIS SEAT. 12 by the template 'for every input the law returns true; each argument reads behind the call as it read before'; 0 by the template 'total and deterministic' (their statements: YtpefpllokhbkiaaTotals.lean).
  GIVEN WITH THE SEED: the statements are not yours to turn. If you find one false, say at which input.
  Laid BY PROGRAM, IN A SANDBOX (cutbox-rows.mjs): the forced cells as the released guide's own fill.sh prints them over the translation 659b27a9ee7cd3ea… (all of the seat's roots in one cut). By AI agents, Wed Nov 11 2026. No macro, syntax, notation, axiom, sorry.
-/
import Derived.Test.YtpefpllokhbkiaaChecked
import GoSem.Claim
import GoSem.ClaimJoined
import GoSem.ClaimMapViews
import Derived.JoinedTies
import Derived.KernelRfl
namespace Go.Proofs.Ytpefpllokhbkiaa
/- THE CELL 'sum', in the pinned program and in every row, IS THE sha256 OF THE DUMP (.gsa) THAT YtpefpllokhbkiaaProg.lean LOADS. Nothing in Lean hashes anything: it is a label: what it is worth is what the hold of that sum in a sandbox is worth. -/
noncomputable def Try.pinned : Pinned := { name := "ytpefpllokhbkiaa", sum := "659b27a9ee7cd3ea05e339f361caf9de93ff0c6e211a85ced1711499fbac603c", checked := Try.checked }
namespace Rows
def none {H : Type} : Left H := { results := [], args := [] }

/-- 'laws.FnExactLinksOf': WHATEVER THE INPUT: true; the input reads as it did. -/
def fnExactLinksOfSpec : ChangeSpec := { name := "fnExactLinksOf", fn := fun _ => fun
  | [d1, d2] => { results := [.lit (.bool true)], args := [d1, d2] }
  | _ => none }
def fnExactLinksOfRow : OpenClaim := { program := "ytpefpllokhbkiaa", sum := "659b27a9ee7cd3ea05e339f361caf9de93ff0c6e211a85ced1711499fbac603c", func := "loop.example/g03300/laws.FnExactLinksOf", spec := "fnExactLinksOf", apart := false }
def FnExactLinksOfSaid : Prop := fnExactLinksOfRow.holds Try.pinned (OpenSpec.ofChange fnExactLinksOfSpec)

/-- ITS FALSE NEIGHBOUR: 'it returns false'. Refute it at one input. -/
def fnExactLinksOfWrong : ChangeSpec := { name := "fnExactLinksOf", fn := fun _ => fun
  | [d1, d2] => { results := [.lit (.bool false)], args := [d1, d2] }
  | _ => none }
def FnExactLinksOfWrongFalsely : Prop := fnExactLinksOfRow.holds Try.pinned (OpenSpec.ofChange fnExactLinksOfWrong)

/-- 'laws.FnExactIsHeap': WHATEVER THE INPUT: true; the input reads as it did. -/
def fnExactIsHeapSpec : ChangeSpec := { name := "fnExactIsHeap", fn := fun _ => fun
  | [d1, d2, d3, d4] => { results := [.lit (.bool true)], args := [d1, d2, d3, d4] }
  | _ => none }
def fnExactIsHeapRow : OpenClaim := { program := "ytpefpllokhbkiaa", sum := "659b27a9ee7cd3ea05e339f361caf9de93ff0c6e211a85ced1711499fbac603c", func := "loop.example/g03300/laws.FnExactIsHeap", spec := "fnExactIsHeap", apart := false }
def FnExactIsHeapSaid : Prop := fnExactIsHeapRow.holds Try.pinned (OpenSpec.ofChange fnExactIsHeapSpec)

/-- ITS FALSE NEIGHBOUR: 'it returns false'. Refute it at one input. -/
def fnExactIsHeapWrong : ChangeSpec := { name := "fnExactIsHeap", fn := fun _ => fun
  | [d1, d2, d3, d4] => { results := [.lit (.bool false)], args := [d1, d2, d3, d4] }
  | _ => none }
def FnExactIsHeapWrongFalsely : Prop := fnExactIsHeapRow.holds Try.pinned (OpenSpec.ofChange fnExactIsHeapWrong)

/-- 'laws.FnExactRowPath': WHATEVER THE INPUT: true; the input reads as it did. -/
def fnExactRowPathSpec : ChangeSpec := { name := "fnExactRowPath", fn := fun _ => fun
  | [d1, d2, d3] => { results := [.lit (.bool true)], args := [d1, d2, d3] }
  | _ => none }
def fnExactRowPathRow : OpenClaim := { program := "ytpefpllokhbkiaa", sum := "659b27a9ee7cd3ea05e339f361caf9de93ff0c6e211a85ced1711499fbac603c", func := "loop.example/g03300/laws.FnExactRowPath", spec := "fnExactRowPath", apart := false }
def FnExactRowPathSaid : Prop := fnExactRowPathRow.holds Try.pinned (OpenSpec.ofChange fnExactRowPathSpec)

/-- ITS FALSE NEIGHBOUR: 'it returns false'. Refute it at one input. -/
def fnExactRowPathWrong : ChangeSpec := { name := "fnExactRowPath", fn := fun _ => fun
  | [d1, d2, d3] => { results := [.lit (.bool false)], args := [d1, d2, d3] }
  | _ => none }
def FnExactRowPathWrongFalsely : Prop := fnExactRowPathRow.holds Try.pinned (OpenSpec.ofChange fnExactRowPathWrong)

/-- 'laws.FnExactBoxByPaths': WHATEVER THE INPUT: true; the input reads as it did. -/
def fnExactBoxByPathsSpec : ChangeSpec := { name := "fnExactBoxByPaths", fn := fun _ => fun
  | [d1, d2, d3] => { results := [.lit (.bool true)], args := [d1, d2, d3] }
  | _ => none }
def fnExactBoxByPathsRow : OpenClaim := { program := "ytpefpllokhbkiaa", sum := "659b27a9ee7cd3ea05e339f361caf9de93ff0c6e211a85ced1711499fbac603c", func := "loop.example/g03300/laws.FnExactBoxByPaths", spec := "fnExactBoxByPaths", apart := false }
def FnExactBoxByPathsSaid : Prop := fnExactBoxByPathsRow.holds Try.pinned (OpenSpec.ofChange fnExactBoxByPathsSpec)

/-- ITS FALSE NEIGHBOUR: 'it returns false'. Refute it at one input. -/
def fnExactBoxByPathsWrong : ChangeSpec := { name := "fnExactBoxByPaths", fn := fun _ => fun
  | [d1, d2, d3] => { results := [.lit (.bool false)], args := [d1, d2, d3] }
  | _ => none }
def FnExactBoxByPathsWrongFalsely : Prop := fnExactBoxByPathsRow.holds Try.pinned (OpenSpec.ofChange fnExactBoxByPathsWrong)

/-- 'laws.FnExactBoxMatrix': WHATEVER THE INPUT: true; the input reads as it did. -/
def fnExactBoxMatrixSpec : ChangeSpec := { name := "fnExactBoxMatrix", fn := fun _ => fun
  | [d1, d2, d3] => { results := [.lit (.bool true)], args := [d1, d2, d3] }
  | _ => none }
def fnExactBoxMatrixRow : OpenClaim := { program := "ytpefpllokhbkiaa", sum := "659b27a9ee7cd3ea05e339f361caf9de93ff0c6e211a85ced1711499fbac603c", func := "loop.example/g03300/laws.FnExactBoxMatrix", spec := "fnExactBoxMatrix", apart := false }
def FnExactBoxMatrixSaid : Prop := fnExactBoxMatrixRow.holds Try.pinned (OpenSpec.ofChange fnExactBoxMatrixSpec)

/-- ITS FALSE NEIGHBOUR: 'it returns false'. Refute it at one input. -/
def fnExactBoxMatrixWrong : ChangeSpec := { name := "fnExactBoxMatrix", fn := fun _ => fun
  | [d1, d2, d3] => { results := [.lit (.bool false)], args := [d1, d2, d3] }
  | _ => none }
def FnExactBoxMatrixWrongFalsely : Prop := fnExactBoxMatrixRow.holds Try.pinned (OpenSpec.ofChange fnExactBoxMatrixWrong)

/-- 'laws.FnExactCountFamilies': WHATEVER THE INPUT: true; the input reads as it did. -/
def fnExactCountFamiliesSpec : ChangeSpec := { name := "fnExactCountFamilies", fn := fun _ => fun
  | [d1, d2] => { results := [.lit (.bool true)], args := [d1, d2] }
  | _ => none }
def fnExactCountFamiliesRow : OpenClaim := { program := "ytpefpllokhbkiaa", sum := "659b27a9ee7cd3ea05e339f361caf9de93ff0c6e211a85ced1711499fbac603c", func := "loop.example/g03300/laws.FnExactCountFamilies", spec := "fnExactCountFamilies", unfollowed := true, recurses := true, apart := false }
def FnExactCountFamiliesSaid : Prop := fnExactCountFamiliesRow.holds Try.pinned (OpenSpec.ofChange fnExactCountFamiliesSpec)

/-- ITS FALSE NEIGHBOUR: 'it returns false'. Refute it at one input. -/
def fnExactCountFamiliesWrong : ChangeSpec := { name := "fnExactCountFamilies", fn := fun _ => fun
  | [d1, d2] => { results := [.lit (.bool false)], args := [d1, d2] }
  | _ => none }
def FnExactCountFamiliesWrongFalsely : Prop := fnExactCountFamiliesRow.holds Try.pinned (OpenSpec.ofChange fnExactCountFamiliesWrong)

/-- 'laws.FnExactIsAlternating': WHATEVER THE INPUT: true; the input reads as it did. -/
def fnExactIsAlternatingSpec : ChangeSpec := { name := "fnExactIsAlternating", fn := fun _ => fun
  | [d] => { results := [.lit (.bool true)], args := [d] }
  | _ => none }
def fnExactIsAlternatingRow : OpenClaim := { program := "ytpefpllokhbkiaa", sum := "659b27a9ee7cd3ea05e339f361caf9de93ff0c6e211a85ced1711499fbac603c", func := "loop.example/g03300/laws.FnExactIsAlternating", spec := "fnExactIsAlternating", apart := false }
def FnExactIsAlternatingSaid : Prop := fnExactIsAlternatingRow.holds Try.pinned (OpenSpec.ofChange fnExactIsAlternatingSpec)

/-- ITS FALSE NEIGHBOUR: 'it returns false'. Refute it at one input. -/
def fnExactIsAlternatingWrong : ChangeSpec := { name := "fnExactIsAlternating", fn := fun _ => fun
  | [d] => { results := [.lit (.bool false)], args := [d] }
  | _ => none }
def FnExactIsAlternatingWrongFalsely : Prop := fnExactIsAlternatingRow.holds Try.pinned (OpenSpec.ofChange fnExactIsAlternatingWrong)

/-- 'laws.FnExactTreeMatrix': WHATEVER THE INPUT: true; the input reads as it did. -/
def fnExactTreeMatrixSpec : ChangeSpec := { name := "fnExactTreeMatrix", fn := fun _ => fun
  | [d1, d2] => { results := [.lit (.bool true)], args := [d1, d2] }
  | _ => none }
def fnExactTreeMatrixRow : OpenClaim := { program := "ytpefpllokhbkiaa", sum := "659b27a9ee7cd3ea05e339f361caf9de93ff0c6e211a85ced1711499fbac603c", func := "loop.example/g03300/laws.FnExactTreeMatrix", spec := "fnExactTreeMatrix", apart := false }
def FnExactTreeMatrixSaid : Prop := fnExactTreeMatrixRow.holds Try.pinned (OpenSpec.ofChange fnExactTreeMatrixSpec)

/-- ITS FALSE NEIGHBOUR: 'it returns false'. Refute it at one input. -/
def fnExactTreeMatrixWrong : ChangeSpec := { name := "fnExactTreeMatrix", fn := fun _ => fun
  | [d1, d2] => { results := [.lit (.bool false)], args := [d1, d2] }
  | _ => none }
def FnExactTreeMatrixWrongFalsely : Prop := fnExactTreeMatrixRow.holds Try.pinned (OpenSpec.ofChange fnExactTreeMatrixWrong)

/-- 'laws.FnExactListHeaps': WHATEVER THE INPUT: true; the input reads as it did. -/
def fnExactListHeapsSpec : ChangeSpec := { name := "fnExactListHeaps", fn := fun _ => fun
  | [d1, d2, d3] => { results := [.lit (.bool true)], args := [d1, d2, d3] }
  | _ => none }
def fnExactListHeapsRow : OpenClaim := { program := "ytpefpllokhbkiaa", sum := "659b27a9ee7cd3ea05e339f361caf9de93ff0c6e211a85ced1711499fbac603c", func := "loop.example/g03300/laws.FnExactListHeaps", spec := "fnExactListHeaps", unfollowed := true, recurses := true, apart := false }
def FnExactListHeapsSaid : Prop := fnExactListHeapsRow.holds Try.pinned (OpenSpec.ofChange fnExactListHeapsSpec)

/-- ITS FALSE NEIGHBOUR: 'it returns false'. Refute it at one input. -/
def fnExactListHeapsWrong : ChangeSpec := { name := "fnExactListHeaps", fn := fun _ => fun
  | [d1, d2, d3] => { results := [.lit (.bool false)], args := [d1, d2, d3] }
  | _ => none }
def FnExactListHeapsWrongFalsely : Prop := fnExactListHeapsRow.holds Try.pinned (OpenSpec.ofChange fnExactListHeapsWrong)

/-- 'laws.FnExactCountTrees': WHATEVER THE INPUT: true; the input reads as it did. -/
def fnExactCountTreesSpec : ChangeSpec := { name := "fnExactCountTrees", fn := fun _ => fun
  | [d1, d2] => { results := [.lit (.bool true)], args := [d1, d2] }
  | _ => none }
def fnExactCountTreesRow : OpenClaim := { program := "ytpefpllokhbkiaa", sum := "659b27a9ee7cd3ea05e339f361caf9de93ff0c6e211a85ced1711499fbac603c", func := "loop.example/g03300/laws.FnExactCountTrees", spec := "fnExactCountTrees", apart := false }
def FnExactCountTreesSaid : Prop := fnExactCountTreesRow.holds Try.pinned (OpenSpec.ofChange fnExactCountTreesSpec)

/-- ITS FALSE NEIGHBOUR: 'it returns false'. Refute it at one input. -/
def fnExactCountTreesWrong : ChangeSpec := { name := "fnExactCountTrees", fn := fun _ => fun
  | [d1, d2] => { results := [.lit (.bool false)], args := [d1, d2] }
  | _ => none }
def FnExactCountTreesWrongFalsely : Prop := fnExactCountTreesRow.holds Try.pinned (OpenSpec.ofChange fnExactCountTreesWrong)

/-- 'laws.FnExactInversionsOf': WHATEVER THE INPUT: true; the input reads as it did. -/
def fnExactInversionsOfSpec : ChangeSpec := { name := "fnExactInversionsOf", fn := fun _ => fun
  | [d] => { results := [.lit (.bool true)], args := [d] }
  | _ => none }
def fnExactInversionsOfRow : OpenClaim := { program := "ytpefpllokhbkiaa", sum := "659b27a9ee7cd3ea05e339f361caf9de93ff0c6e211a85ced1711499fbac603c", func := "loop.example/g03300/laws.FnExactInversionsOf", spec := "fnExactInversionsOf", apart := false }
def FnExactInversionsOfSaid : Prop := fnExactInversionsOfRow.holds Try.pinned (OpenSpec.ofChange fnExactInversionsOfSpec)

/-- ITS FALSE NEIGHBOUR: 'it returns false'. Refute it at one input. -/
def fnExactInversionsOfWrong : ChangeSpec := { name := "fnExactInversionsOf", fn := fun _ => fun
  | [d] => { results := [.lit (.bool false)], args := [d] }
  | _ => none }
def FnExactInversionsOfWrongFalsely : Prop := fnExactInversionsOfRow.holds Try.pinned (OpenSpec.ofChange fnExactInversionsOfWrong)

/-- 'laws.FnExactPathRow': WHATEVER THE INPUT: true; the input reads as it did. -/
def fnExactPathRowSpec : ChangeSpec := { name := "fnExactPathRow", fn := fun _ => fun
  | [d1, d2, d3] => { results := [.lit (.bool true)], args := [d1, d2, d3] }
  | _ => none }
def fnExactPathRowRow : OpenClaim := { program := "ytpefpllokhbkiaa", sum := "659b27a9ee7cd3ea05e339f361caf9de93ff0c6e211a85ced1711499fbac603c", func := "loop.example/g03300/laws.FnExactPathRow", spec := "fnExactPathRow", apart := false }
def FnExactPathRowSaid : Prop := fnExactPathRowRow.holds Try.pinned (OpenSpec.ofChange fnExactPathRowSpec)

/-- ITS FALSE NEIGHBOUR: 'it returns false'. Refute it at one input. -/
def fnExactPathRowWrong : ChangeSpec := { name := "fnExactPathRow", fn := fun _ => fun
  | [d1, d2, d3] => { results := [.lit (.bool false)], args := [d1, d2, d3] }
  | _ => none }
def FnExactPathRowWrongFalsely : Prop := fnExactPathRowRow.holds Try.pinned (OpenSpec.ofChange fnExactPathRowWrong)

/- THE SECOND FORM. 'bulk': how many values and letters a reading holds, each counted each time it is reached (what is shared counts as often as it is met; a slice's spare places count too). A statement '..UptoSaid' is the law's where the arguments, and the package variables that the reading takes, are together of bulk at most 1048576: NARROWER than '..Said'. Prove '..Said' where nothing that the law and all that it calls make is longer than what came in: it says more and counts as full. Else prove '..UptoSaid'. A law counts once. -/
mutual
def uptoBulk {H : Type} : DataW H → Nat
  | .lit (.string bytes) => bytes.length + 1
  | .lit _ => 1
  | .nil => 1
  | .ptr d => uptoBulk d + 1
  | .slice elems spare => uptoBulkAll elems + uptoBulkAll spare + 1
  | .agg parts => uptoBulkAll parts + 1
  | .iface _ d => uptoBulk d + 1
  | .map entries => uptoBulkEntries entries + 1
  | .held _ => 1
def uptoBulkAll {H : Type} : List (DataW H) → Nat
  | [] => 0
  | d :: r => uptoBulk d + uptoBulkAll r
def uptoBulkEntries {H : Type} : List (Lit × DataW H) → Nat
  | [] => 0
  | x :: r => uptoBulkEntry x + uptoBulkEntries r
def uptoBulkEntry {H : Type} : Lit × DataW H → Nat
  | (.string bytes, d) => bytes.length + uptoBulk d + 1
  | (_, d) => uptoBulk d + 1
 end
def uptoSmall : (H : Type) → List (DataW H) → Bool := fun _ ds => decide (uptoBulkAll ds ≤ 1048576)
def OpenSpec.upto (s : _root_.Go.ChangeSpec) : _root_.Go.OpenSpec := { _root_.Go.OpenSpec.ofChange s with cond := some uptoSmall }

/-- 'laws.FnExactLinksOf', WHERE WHAT IT READS IS OF BULK AT MOST 1048576: true; the input reads as it did. -/
def fnExactLinksOfUptoRow : OpenClaim := { program := "ytpefpllokhbkiaa", sum := "659b27a9ee7cd3ea05e339f361caf9de93ff0c6e211a85ced1711499fbac603c", func := "loop.example/g03300/laws.FnExactLinksOf", spec := "fnExactLinksOf", apart := false, narrowed := true }
def FnExactLinksOfUptoSaid : Prop := fnExactLinksOfUptoRow.holds Try.pinned (OpenSpec.upto fnExactLinksOfSpec)

/-- 'laws.FnExactIsHeap', WHERE WHAT IT READS IS OF BULK AT MOST 1048576: true; the input reads as it did. -/
def fnExactIsHeapUptoRow : OpenClaim := { program := "ytpefpllokhbkiaa", sum := "659b27a9ee7cd3ea05e339f361caf9de93ff0c6e211a85ced1711499fbac603c", func := "loop.example/g03300/laws.FnExactIsHeap", spec := "fnExactIsHeap", apart := false, narrowed := true }
def FnExactIsHeapUptoSaid : Prop := fnExactIsHeapUptoRow.holds Try.pinned (OpenSpec.upto fnExactIsHeapSpec)

/-- 'laws.FnExactRowPath', WHERE WHAT IT READS IS OF BULK AT MOST 1048576: true; the input reads as it did. -/
def fnExactRowPathUptoRow : OpenClaim := { program := "ytpefpllokhbkiaa", sum := "659b27a9ee7cd3ea05e339f361caf9de93ff0c6e211a85ced1711499fbac603c", func := "loop.example/g03300/laws.FnExactRowPath", spec := "fnExactRowPath", apart := false, narrowed := true }
def FnExactRowPathUptoSaid : Prop := fnExactRowPathUptoRow.holds Try.pinned (OpenSpec.upto fnExactRowPathSpec)

/-- 'laws.FnExactBoxByPaths', WHERE WHAT IT READS IS OF BULK AT MOST 1048576: true; the input reads as it did. -/
def fnExactBoxByPathsUptoRow : OpenClaim := { program := "ytpefpllokhbkiaa", sum := "659b27a9ee7cd3ea05e339f361caf9de93ff0c6e211a85ced1711499fbac603c", func := "loop.example/g03300/laws.FnExactBoxByPaths", spec := "fnExactBoxByPaths", apart := false, narrowed := true }
def FnExactBoxByPathsUptoSaid : Prop := fnExactBoxByPathsUptoRow.holds Try.pinned (OpenSpec.upto fnExactBoxByPathsSpec)

/-- 'laws.FnExactBoxMatrix', WHERE WHAT IT READS IS OF BULK AT MOST 1048576: true; the input reads as it did. -/
def fnExactBoxMatrixUptoRow : OpenClaim := { program := "ytpefpllokhbkiaa", sum := "659b27a9ee7cd3ea05e339f361caf9de93ff0c6e211a85ced1711499fbac603c", func := "loop.example/g03300/laws.FnExactBoxMatrix", spec := "fnExactBoxMatrix", apart := false, narrowed := true }
def FnExactBoxMatrixUptoSaid : Prop := fnExactBoxMatrixUptoRow.holds Try.pinned (OpenSpec.upto fnExactBoxMatrixSpec)

/-- 'laws.FnExactCountFamilies', WHERE WHAT IT READS IS OF BULK AT MOST 1048576: true; the input reads as it did. -/
def fnExactCountFamiliesUptoRow : OpenClaim := { program := "ytpefpllokhbkiaa", sum := "659b27a9ee7cd3ea05e339f361caf9de93ff0c6e211a85ced1711499fbac603c", func := "loop.example/g03300/laws.FnExactCountFamilies", spec := "fnExactCountFamilies", unfollowed := true, recurses := true, apart := false, narrowed := true }
def FnExactCountFamiliesUptoSaid : Prop := fnExactCountFamiliesUptoRow.holds Try.pinned (OpenSpec.upto fnExactCountFamiliesSpec)

/-- 'laws.FnExactIsAlternating', WHERE WHAT IT READS IS OF BULK AT MOST 1048576: true; the input reads as it did. -/
def fnExactIsAlternatingUptoRow : OpenClaim := { program := "ytpefpllokhbkiaa", sum := "659b27a9ee7cd3ea05e339f361caf9de93ff0c6e211a85ced1711499fbac603c", func := "loop.example/g03300/laws.FnExactIsAlternating", spec := "fnExactIsAlternating", apart := false, narrowed := true }
def FnExactIsAlternatingUptoSaid : Prop := fnExactIsAlternatingUptoRow.holds Try.pinned (OpenSpec.upto fnExactIsAlternatingSpec)

/-- 'laws.FnExactTreeMatrix', WHERE WHAT IT READS IS OF BULK AT MOST 1048576: true; the input reads as it did. -/
def fnExactTreeMatrixUptoRow : OpenClaim := { program := "ytpefpllokhbkiaa", sum := "659b27a9ee7cd3ea05e339f361caf9de93ff0c6e211a85ced1711499fbac603c", func := "loop.example/g03300/laws.FnExactTreeMatrix", spec := "fnExactTreeMatrix", apart := false, narrowed := true }
def FnExactTreeMatrixUptoSaid : Prop := fnExactTreeMatrixUptoRow.holds Try.pinned (OpenSpec.upto fnExactTreeMatrixSpec)

/-- 'laws.FnExactListHeaps', WHERE WHAT IT READS IS OF BULK AT MOST 1048576: true; the input reads as it did. -/
def fnExactListHeapsUptoRow : OpenClaim := { program := "ytpefpllokhbkiaa", sum := "659b27a9ee7cd3ea05e339f361caf9de93ff0c6e211a85ced1711499fbac603c", func := "loop.example/g03300/laws.FnExactListHeaps", spec := "fnExactListHeaps", unfollowed := true, recurses := true, apart := false, narrowed := true }
def FnExactListHeapsUptoSaid : Prop := fnExactListHeapsUptoRow.holds Try.pinned (OpenSpec.upto fnExactListHeapsSpec)

/-- 'laws.FnExactCountTrees', WHERE WHAT IT READS IS OF BULK AT MOST 1048576: true; the input reads as it did. -/
def fnExactCountTreesUptoRow : OpenClaim := { program := "ytpefpllokhbkiaa", sum := "659b27a9ee7cd3ea05e339f361caf9de93ff0c6e211a85ced1711499fbac603c", func := "loop.example/g03300/laws.FnExactCountTrees", spec := "fnExactCountTrees", apart := false, narrowed := true }
def FnExactCountTreesUptoSaid : Prop := fnExactCountTreesUptoRow.holds Try.pinned (OpenSpec.upto fnExactCountTreesSpec)

/-- 'laws.FnExactInversionsOf', WHERE WHAT IT READS IS OF BULK AT MOST 1048576: true; the input reads as it did. -/
def fnExactInversionsOfUptoRow : OpenClaim := { program := "ytpefpllokhbkiaa", sum := "659b27a9ee7cd3ea05e339f361caf9de93ff0c6e211a85ced1711499fbac603c", func := "loop.example/g03300/laws.FnExactInversionsOf", spec := "fnExactInversionsOf", apart := false, narrowed := true }
def FnExactInversionsOfUptoSaid : Prop := fnExactInversionsOfUptoRow.holds Try.pinned (OpenSpec.upto fnExactInversionsOfSpec)

/-- 'laws.FnExactPathRow', WHERE WHAT IT READS IS OF BULK AT MOST 1048576: true; the input reads as it did. -/
def fnExactPathRowUptoRow : OpenClaim := { program := "ytpefpllokhbkiaa", sum := "659b27a9ee7cd3ea05e339f361caf9de93ff0c6e211a85ced1711499fbac603c", func := "loop.example/g03300/laws.FnExactPathRow", spec := "fnExactPathRow", apart := false, narrowed := true }
def FnExactPathRowUptoSaid : Prop := fnExactPathRowUptoRow.holds Try.pinned (OpenSpec.upto fnExactPathRowSpec)

end Rows
end Go.Proofs.Ytpefpllokhbkiaa
