/- The program's count at 4 x 6, piece by piece. -/
import Derived.Test.YtiecphhenpapoaaEach3
namespace Go.Proofs.Ytiecphhenpapoaa
open Go.RowKit
set_option linter.unusedVariables false
set_option maxRecDepth 100000

theorem c46_0 : cntE (iffB (4 : Nat) (6 : Nat)) 58 16557351570432 [(0, 0, false), (2, 0, false), (0, 1, false)] 0 = 0 := by decide +kernel
theorem c46_1 : cntE (iffB (4 : Nat) (6 : Nat)) 58 16557351505408 [(0, 0, false), (2, 0, false), (0, 1, true)] 0 = 0 := by decide +kernel
theorem c46_2 : cntE (iffB (4 : Nat) (6 : Nat)) 59 16557351571200 [(0, 0, false), (2, 0, false)] 0 = 0 := cnt_node (k := 8) (by decide) (by decide +kernel) (cnt_yes (by decide +kernel) (by decide +kernel) (by decide +kernel) c46_0) (cnt_yes (by decide +kernel) (by decide +kernel) (by decide +kernel) c46_1)
theorem c46_3 : cntE (iffB (4 : Nat) (6 : Nat)) 59 16557351570184 [(0, 0, false), (2, 0, true)] 0 = 0 := by decide +kernel
theorem c46_4 : cntE (iffB (4 : Nat) (6 : Nat)) 60 16557351571212 [(0, 0, false)] 0 = 0 := cnt_node (k := 2) (by decide) (by decide +kernel) (cnt_yes (by decide +kernel) (by decide +kernel) (by decide +kernel) c46_2) (cnt_yes (by decide +kernel) (by decide +kernel) (by decide +kernel) c46_3)
theorem c46_5 : cntE (iffB (4 : Nat) (6 : Nat)) 59 16557351570952 [(0, 0, true), (1, 0, false)] 0 = 0 := by decide +kernel
theorem c46_6 : cntE (iffB (4 : Nat) (6 : Nat)) 58 16557351570432 [(0, 0, true), (1, 0, true), (2, 0, false)] 0 = 0 := by decide +kernel
theorem c46_7 : cntE (iffB (4 : Nat) (6 : Nat)) 58 16557351569416 [(0, 0, true), (1, 0, true), (2, 0, true)] 0 = 0 := by decide +kernel
theorem c46_8 : cntE (iffB (4 : Nat) (6 : Nat)) 59 16557351570444 [(0, 0, true), (1, 0, true)] 0 = 0 := cnt_node (k := 2) (by decide) (by decide +kernel) (cnt_yes (by decide +kernel) (by decide +kernel) (by decide +kernel) c46_6) (cnt_yes (by decide +kernel) (by decide +kernel) (by decide +kernel) c46_7)
theorem c46_9 : cntE (iffB (4 : Nat) (6 : Nat)) 60 16557351570958 [(0, 0, true)] 0 = 0 := cnt_node (k := 1) (by decide) (by decide +kernel) (cnt_yes (by decide +kernel) (by decide +kernel) (by decide +kernel) c46_5) (cnt_yes (by decide +kernel) (by decide +kernel) (by decide +kernel) c46_8)
theorem c46_10 : cntE (iffB (4 : Nat) (6 : Nat)) 61 16557351571215 [] 0 = 0 := cnt_node (k := 0) (by decide) (by decide +kernel) (cnt_yes (by decide +kernel) (by decide +kernel) (by decide +kernel) c46_4) (cnt_yes (by decide +kernel) (by decide +kernel) (by decide +kernel) c46_9)
theorem cff46 : cntE (iffB (4 : Nat) (6 : Nat)) 61 (setZ (rectZ 4 6)) [] 0 = 0 := (congrArg (fun s => cntE (iffB (4 : Nat) (6 : Nat)) 61 s [] 0) (show setZ (rectZ 4 6) = 16557351571215 by decide +kernel)).trans c46_10
end Go.Proofs.Ytiecphhenpapoaa

namespace Go.Proofs.Ytiecphhenpapoaa
open Go.RowKit
set_option linter.unusedVariables false
set_option maxRecDepth 100000

theorem c64_0 : cntE (iffB (6 : Nat) (4 : Nat)) 59 1061109552 [(0, 0, false), (2, 0, false)] 0 = 0 := by decide +kernel
theorem c64_1 : cntE (iffB (6 : Nat) (4 : Nat)) 59 1061108536 [(0, 0, false), (2, 0, true)] 0 = 0 := by decide +kernel
theorem c64_2 : cntE (iffB (6 : Nat) (4 : Nat)) 60 1061109564 [(0, 0, false)] 0 = 0 := cnt_node (k := 2) (by decide) (by decide +kernel) (cnt_yes (by decide +kernel) (by decide +kernel) (by decide +kernel) c64_0) (cnt_yes (by decide +kernel) (by decide +kernel) (by decide +kernel) c64_1)
theorem c64_3 : cntE (iffB (6 : Nat) (4 : Nat)) 59 1061109304 [(0, 0, true), (1, 0, false)] 0 = 0 := by decide +kernel
theorem c64_4 : cntE (iffB (6 : Nat) (4 : Nat)) 58 1061108784 [(0, 0, true), (1, 0, true), (2, 0, false)] 0 = 0 := by decide +kernel
theorem c64_5 : cntE (iffB (6 : Nat) (4 : Nat)) 58 1061107768 [(0, 0, true), (1, 0, true), (2, 0, true)] 0 = 0 := by decide +kernel
theorem c64_6 : cntE (iffB (6 : Nat) (4 : Nat)) 59 1061108796 [(0, 0, true), (1, 0, true)] 0 = 0 := cnt_node (k := 2) (by decide) (by decide +kernel) (cnt_yes (by decide +kernel) (by decide +kernel) (by decide +kernel) c64_4) (cnt_yes (by decide +kernel) (by decide +kernel) (by decide +kernel) c64_5)
theorem c64_7 : cntE (iffB (6 : Nat) (4 : Nat)) 60 1061109310 [(0, 0, true)] 0 = 0 := cnt_node (k := 1) (by decide) (by decide +kernel) (cnt_yes (by decide +kernel) (by decide +kernel) (by decide +kernel) c64_3) (cnt_yes (by decide +kernel) (by decide +kernel) (by decide +kernel) c64_6)
theorem c64_8 : cntE (iffB (6 : Nat) (4 : Nat)) 61 1061109567 [] 0 = 0 := cnt_node (k := 0) (by decide) (by decide +kernel) (cnt_yes (by decide +kernel) (by decide +kernel) (by decide +kernel) c64_2) (cnt_yes (by decide +kernel) (by decide +kernel) (by decide +kernel) c64_7)
theorem cff64 : cntE (iffB (6 : Nat) (4 : Nat)) 61 (setZ (rectZ 6 4)) [] 0 = 0 := (congrArg (fun s => cntE (iffB (6 : Nat) (4 : Nat)) 61 s [] 0) (show setZ (rectZ 6 4) = 1061109567 by decide +kernel)).trans c64_8
end Go.Proofs.Ytiecphhenpapoaa
