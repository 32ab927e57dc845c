/- What the claim's walk rests on: parts Cff56, Cff65, Cff46, FindS, CffT, CffU, ProfF, FltN, AppendF, With, CWith, ProfL. -/
import Derived.Test.YtehnbalbpfmijaaKFlt8
import Derived.Test.YtehnbalbpfmijaaKFlt2
import Derived.Test.YtehnbalbpfmijaaKFlt1
import Derived.Test.YtehnbalbpfmijaaKFlt5
import Derived.Test.YtehnbalbpfmijaaKFlt7
import Derived.Deep.LoopGhost
import Derived.Deep.Cut
import Derived.StillTailTactics
namespace Go.Proofs.Ytehnbalbpfmijaa
open Go.RowKit
set_option linter.unusedVariables false
set_option maxRecDepth 100000

theorem c56_0 : cntE (iffB (5 : Nat) (6 : Nat)) 55 34218526375936 [(0, 0, false), (2, 0, false), (4, 0, true), (0, 1, false), (2, 1, false), (0, 2, false)] 0 = 0 := by decide +kernel
theorem c56_1 : cntE (iffB (5 : Nat) (6 : Nat)) 55 34218509729792 [(0, 0, false), (2, 0, false), (4, 0, true), (0, 1, false), (2, 1, false), (0, 2, true)] 0 = 0 := by decide +kernel
theorem c56_2 : cntE (iffB (5 : Nat) (6 : Nat)) 56 34218526572544 [(0, 0, false), (2, 0, false), (4, 0, true), (0, 1, false), (2, 1, false)] 0 = 0 := cnt_node (k := 16) (by decide) (by decide +kernel) (cnt_yes (by decide +kernel) (by decide +kernel) (by decide +kernel) c56_0) (cnt_yes (by decide +kernel) (by decide +kernel) (by decide +kernel) c56_1)
theorem c56_3 : cntE (iffB (5 : Nat) (6 : Nat)) 56 34218526312448 [(0, 0, false), (2, 0, false), (4, 0, true), (0, 1, false), (2, 1, true)] 0 = 0 := by decide +kernel
theorem c56_4 : cntE (iffB (5 : Nat) (6 : Nat)) 57 34218526575616 [(0, 0, false), (2, 0, false), (4, 0, true), (0, 1, false)] 0 = 0 := cnt_node (k := 10) (by decide) (by decide +kernel) (cnt_yes (by decide +kernel) (by decide +kernel) (by decide +kernel) c56_2) (cnt_yes (by decide +kernel) (by decide +kernel) (by decide +kernel) c56_3)
theorem c56_5 : cntE (iffB (5 : Nat) (6 : Nat)) 57 34218526510592 [(0, 0, false), (2, 0, false), (4, 0, true), (0, 1, true)] 0 = 2 := by decide +kernel
theorem c56_6 : cntE (iffB (5 : Nat) (6 : Nat)) 58 34218526576384 [(0, 0, false), (2, 0, false), (4, 0, true)] 0 = 2 := cnt_node (k := 8) (by decide) (by decide +kernel) (cnt_yes (by decide +kernel) (by decide +kernel) (by decide +kernel) c56_4) (cnt_yes (by decide +kernel) (by decide +kernel) (by decide +kernel) c56_5)
theorem c56_7 : cntE (iffB (5 : Nat) (6 : Nat)) 59 34218526580496 [(0, 0, false), (2, 0, false)] 0 = 2 := cnt_node (k := 4) (by decide) (by decide +kernel) (cnt_no (by decide +kernel)) (cnt_yes (by decide +kernel) (by decide +kernel) (by decide +kernel) c56_6)
theorem c56_8 : cntE (iffB (5 : Nat) (6 : Nat)) 55 34218526375936 [(0, 0, false), (2, 0, true), (3, 0, false), (0, 1, false), (3, 1, false), (0, 2, false)] 2 = 2 := by decide +kernel
theorem c56_9 : cntE (iffB (5 : Nat) (6 : Nat)) 55 34218509729792 [(0, 0, false), (2, 0, true), (3, 0, false), (0, 1, false), (3, 1, false), (0, 2, true)] 2 = 2 := by decide +kernel
theorem c56_10 : cntE (iffB (5 : Nat) (6 : Nat)) 56 34218526572544 [(0, 0, false), (2, 0, true), (3, 0, false), (0, 1, false), (3, 1, false)] 2 = 2 := cnt_node (k := 16) (by decide) (by decide +kernel) (cnt_yes (by decide +kernel) (by decide +kernel) (by decide +kernel) c56_8) (cnt_yes (by decide +kernel) (by decide +kernel) (by decide +kernel) c56_9)
theorem c56_11 : cntE (iffB (5 : Nat) (6 : Nat)) 56 34218526052352 [(0, 0, false), (2, 0, true), (3, 0, false), (0, 1, false), (3, 1, true)] 2 = 3 := by decide +kernel
theorem c56_12 : cntE (iffB (5 : Nat) (6 : Nat)) 57 34218526578688 [(0, 0, false), (2, 0, true), (3, 0, false), (0, 1, false)] 2 = 3 := cnt_node (k := 11) (by decide) (by decide +kernel) (cnt_yes (by decide +kernel) (by decide +kernel) (by decide +kernel) c56_10) (cnt_yes (by decide +kernel) (by decide +kernel) (by decide +kernel) c56_11)
theorem c56_13 : cntE (iffB (5 : Nat) (6 : Nat)) 57 34218526513664 [(0, 0, false), (2, 0, true), (3, 0, false), (0, 1, true)] 3 = 4 := by decide +kernel
theorem c56_14 : cntE (iffB (5 : Nat) (6 : Nat)) 58 34218526579456 [(0, 0, false), (2, 0, true), (3, 0, false)] 2 = 4 := cnt_node (k := 8) (by decide) (by decide +kernel) (cnt_yes (by decide +kernel) (by decide +kernel) (by decide +kernel) c56_12) (cnt_yes (by decide +kernel) (by decide +kernel) (by decide +kernel) c56_13)
theorem c56_15 : cntE (iffB (5 : Nat) (6 : Nat)) 55 34218526375936 [(0, 0, false), (2, 0, true), (3, 0, true), (4, 0, true), (0, 1, false), (0, 2, false)] 4 = 4 := by decide +kernel
theorem c56_16 : cntE (iffB (5 : Nat) (6 : Nat)) 55 34218509729792 [(0, 0, false), (2, 0, true), (3, 0, true), (4, 0, true), (0, 1, false), (0, 2, true)] 4 = 4 := by decide +kernel
theorem c56_17 : cntE (iffB (5 : Nat) (6 : Nat)) 56 34218526572544 [(0, 0, false), (2, 0, true), (3, 0, true), (4, 0, true), (0, 1, false)] 4 = 4 := cnt_node (k := 16) (by decide) (by decide +kernel) (cnt_yes (by decide +kernel) (by decide +kernel) (by decide +kernel) c56_15) (cnt_yes (by decide +kernel) (by decide +kernel) (by decide +kernel) c56_16)
theorem c56_18 : cntE (iffB (5 : Nat) (6 : Nat)) 56 34218526507520 [(0, 0, false), (2, 0, true), (3, 0, true), (4, 0, true), (0, 1, true)] 4 = 4 := by decide +kernel
theorem c56_19 : cntE (iffB (5 : Nat) (6 : Nat)) 57 34218526573312 [(0, 0, false), (2, 0, true), (3, 0, true), (4, 0, true)] 4 = 4 := cnt_node (k := 8) (by decide) (by decide +kernel) (cnt_yes (by decide +kernel) (by decide +kernel) (by decide +kernel) c56_17) (cnt_yes (by decide +kernel) (by decide +kernel) (by decide +kernel) c56_18)
theorem c56_20 : cntE (iffB (5 : Nat) (6 : Nat)) 58 34218526577424 [(0, 0, false), (2, 0, true), (3, 0, true)] 4 = 4 := cnt_node (k := 4) (by decide) (by decide +kernel) (cnt_no (by decide +kernel)) (cnt_yes (by decide +kernel) (by decide +kernel) (by decide +kernel) c56_19)
theorem c56_21 : cntE (iffB (5 : Nat) (6 : Nat)) 59 34218526579480 [(0, 0, false), (2, 0, true)] 2 = 4 := cnt_node (k := 3) (by decide) (by decide +kernel) (cnt_yes (by decide +kernel) (by decide +kernel) (by decide +kernel) c56_14) (cnt_yes (by decide +kernel) (by decide +kernel) (by decide +kernel) c56_20)
theorem c56_22 : cntE (iffB (5 : Nat) (6 : Nat)) 60 34218526580508 [(0, 0, false)] 0 = 4 := cnt_node (k := 2) (by decide) (by decide +kernel) (cnt_yes (by decide +kernel) (by decide +kernel) (by decide +kernel) c56_7) (cnt_yes (by decide +kernel) (by decide +kernel) (by decide +kernel) c56_21)
theorem c56_23 : cntE (iffB (5 : Nat) (6 : Nat)) 55 34218526375936 [(0, 0, true), (1, 0, false), (3, 0, false), (1, 1, false), (3, 1, false), (0, 2, false)] 4 = 4 := by decide +kernel
theorem c56_24 : cntE (iffB (5 : Nat) (6 : Nat)) 55 34218509729792 [(0, 0, true), (1, 0, false), (3, 0, false), (1, 1, false), (3, 1, false), (0, 2, true)] 4 = 4 := by decide +kernel
theorem c56_25 : cntE (iffB (5 : Nat) (6 : Nat)) 56 34218526572544 [(0, 0, true), (1, 0, false), (3, 0, false), (1, 1, false), (3, 1, false)] 4 = 4 := cnt_node (k := 16) (by decide) (by decide +kernel) (cnt_yes (by decide +kernel) (by decide +kernel) (by decide +kernel) c56_23) (cnt_yes (by decide +kernel) (by decide +kernel) (by decide +kernel) c56_24)
theorem c56_26 : cntE (iffB (5 : Nat) (6 : Nat)) 56 34218526052352 [(0, 0, true), (1, 0, false), (3, 0, false), (1, 1, false), (3, 1, true)] 4 = 5 := by decide +kernel
theorem c56_27 : cntE (iffB (5 : Nat) (6 : Nat)) 57 34218526578688 [(0, 0, true), (1, 0, false), (3, 0, false), (1, 1, false)] 4 = 5 := cnt_node (k := 11) (by decide) (by decide +kernel) (cnt_yes (by decide +kernel) (by decide +kernel) (by decide +kernel) c56_25) (cnt_yes (by decide +kernel) (by decide +kernel) (by decide +kernel) c56_26)
theorem c56_28 : cntE (iffB (5 : Nat) (6 : Nat)) 57 34218526448640 [(0, 0, true), (1, 0, false), (3, 0, false), (1, 1, true)] 5 = 6 := by decide +kernel
theorem c56_29 : cntE (iffB (5 : Nat) (6 : Nat)) 58 34218526580224 [(0, 0, true), (1, 0, false), (3, 0, false)] 4 = 6 := cnt_node (k := 9) (by decide) (by decide +kernel) (cnt_yes (by decide +kernel) (by decide +kernel) (by decide +kernel) c56_27) (cnt_yes (by decide +kernel) (by decide +kernel) (by decide +kernel) c56_28)
theorem c56_30 : cntE (iffB (5 : Nat) (6 : Nat)) 55 34218526375936 [(0, 0, true), (1, 0, false), (3, 0, true), (4, 0, true), (1, 1, false), (0, 2, false)] 6 = 6 := by decide +kernel
theorem c56_31 : cntE (iffB (5 : Nat) (6 : Nat)) 55 34218509729792 [(0, 0, true), (1, 0, false), (3, 0, true), (4, 0, true), (1, 1, false), (0, 2, true)] 6 = 6 := by decide +kernel
theorem c56_32 : cntE (iffB (5 : Nat) (6 : Nat)) 56 34218526572544 [(0, 0, true), (1, 0, false), (3, 0, true), (4, 0, true), (1, 1, false)] 6 = 6 := cnt_node (k := 16) (by decide) (by decide +kernel) (cnt_yes (by decide +kernel) (by decide +kernel) (by decide +kernel) c56_30) (cnt_yes (by decide +kernel) (by decide +kernel) (by decide +kernel) c56_31)
theorem c56_33 : cntE (iffB (5 : Nat) (6 : Nat)) 56 34218526442496 [(0, 0, true), (1, 0, false), (3, 0, true), (4, 0, true), (1, 1, true)] 6 = 6 := by decide +kernel
theorem c56_34 : cntE (iffB (5 : Nat) (6 : Nat)) 57 34218526574080 [(0, 0, true), (1, 0, false), (3, 0, true), (4, 0, true)] 6 = 6 := cnt_node (k := 9) (by decide) (by decide +kernel) (cnt_yes (by decide +kernel) (by decide +kernel) (by decide +kernel) c56_32) (cnt_yes (by decide +kernel) (by decide +kernel) (by decide +kernel) c56_33)
theorem c56_35 : cntE (iffB (5 : Nat) (6 : Nat)) 58 34218526578192 [(0, 0, true), (1, 0, false), (3, 0, true)] 6 = 6 := cnt_node (k := 4) (by decide) (by decide +kernel) (cnt_no (by decide +kernel)) (cnt_yes (by decide +kernel) (by decide +kernel) (by decide +kernel) c56_34)
theorem c56_36 : cntE (iffB (5 : Nat) (6 : Nat)) 59 34218526580248 [(0, 0, true), (1, 0, false)] 4 = 6 := cnt_node (k := 3) (by decide) (by decide +kernel) (cnt_yes (by decide +kernel) (by decide +kernel) (by decide +kernel) c56_29) (cnt_yes (by decide +kernel) (by decide +kernel) (by decide +kernel) c56_35)
theorem c56_37 : cntE (iffB (5 : Nat) (6 : Nat)) 55 34218526375936 [(0, 0, true), (1, 0, true), (2, 0, false), (4, 0, true), (2, 1, false), (0, 2, false)] 6 = 6 := by decide +kernel
theorem c56_38 : cntE (iffB (5 : Nat) (6 : Nat)) 55 34218509729792 [(0, 0, true), (1, 0, true), (2, 0, false), (4, 0, true), (2, 1, false), (0, 2, true)] 6 = 6 := by decide +kernel
theorem c56_39 : cntE (iffB (5 : Nat) (6 : Nat)) 56 34218526572544 [(0, 0, true), (1, 0, true), (2, 0, false), (4, 0, true), (2, 1, false)] 6 = 6 := cnt_node (k := 16) (by decide) (by decide +kernel) (cnt_yes (by decide +kernel) (by decide +kernel) (by decide +kernel) c56_37) (cnt_yes (by decide +kernel) (by decide +kernel) (by decide +kernel) c56_38)
theorem c56_40 : cntE (iffB (5 : Nat) (6 : Nat)) 56 34218526312448 [(0, 0, true), (1, 0, true), (2, 0, false), (4, 0, true), (2, 1, true)] 6 = 6 := by decide +kernel
theorem c56_41 : cntE (iffB (5 : Nat) (6 : Nat)) 57 34218526575616 [(0, 0, true), (1, 0, true), (2, 0, false), (4, 0, true)] 6 = 6 := cnt_node (k := 10) (by decide) (by decide +kernel) (cnt_yes (by decide +kernel) (by decide +kernel) (by decide +kernel) c56_39) (cnt_yes (by decide +kernel) (by decide +kernel) (by decide +kernel) c56_40)
theorem c56_42 : cntE (iffB (5 : Nat) (6 : Nat)) 58 34218526579728 [(0, 0, true), (1, 0, true), (2, 0, false)] 6 = 6 := cnt_node (k := 4) (by decide) (by decide +kernel) (cnt_no (by decide +kernel)) (cnt_yes (by decide +kernel) (by decide +kernel) (by decide +kernel) c56_41)
theorem c56_43 : cntE (iffB (5 : Nat) (6 : Nat)) 55 34218526375936 [(0, 0, true), (1, 0, true), (2, 0, true), (3, 0, false), (3, 1, false), (0, 2, false)] 6 = 6 := by decide +kernel
theorem c56_44 : cntE (iffB (5 : Nat) (6 : Nat)) 55 34218509729792 [(0, 0, true), (1, 0, true), (2, 0, true), (3, 0, false), (3, 1, false), (0, 2, true)] 6 = 6 := by decide +kernel
theorem c56_45 : cntE (iffB (5 : Nat) (6 : Nat)) 56 34218526572544 [(0, 0, true), (1, 0, true), (2, 0, true), (3, 0, false), (3, 1, false)] 6 = 6 := cnt_node (k := 16) (by decide) (by decide +kernel) (cnt_yes (by decide +kernel) (by decide +kernel) (by decide +kernel) c56_43) (cnt_yes (by decide +kernel) (by decide +kernel) (by decide +kernel) c56_44)
theorem c56_46 : cntE (iffB (5 : Nat) (6 : Nat)) 56 34218526052352 [(0, 0, true), (1, 0, true), (2, 0, true), (3, 0, false), (3, 1, true)] 6 = 6 := by decide +kernel
theorem c56_47 : cntE (iffB (5 : Nat) (6 : Nat)) 57 34218526578688 [(0, 0, true), (1, 0, true), (2, 0, true), (3, 0, false)] 6 = 6 := cnt_node (k := 11) (by decide) (by decide +kernel) (cnt_yes (by decide +kernel) (by decide +kernel) (by decide +kernel) c56_45) (cnt_yes (by decide +kernel) (by decide +kernel) (by decide +kernel) c56_46)
theorem c56_48 : cntE (iffB (5 : Nat) (6 : Nat)) 55 34218526375936 [(0, 0, true), (1, 0, true), (2, 0, true), (3, 0, true), (4, 0, true), (0, 2, false)] 6 = 6 := by decide +kernel
theorem c56_49 : cntE (iffB (5 : Nat) (6 : Nat)) 55 34218509729792 [(0, 0, true), (1, 0, true), (2, 0, true), (3, 0, true), (4, 0, true), (0, 2, true)] 6 = 6 := by decide +kernel
theorem c56_50 : cntE (iffB (5 : Nat) (6 : Nat)) 56 34218526572544 [(0, 0, true), (1, 0, true), (2, 0, true), (3, 0, true), (4, 0, true)] 6 = 6 := cnt_node (k := 16) (by decide) (by decide +kernel) (cnt_yes (by decide +kernel) (by decide +kernel) (by decide +kernel) c56_48) (cnt_yes (by decide +kernel) (by decide +kernel) (by decide +kernel) c56_49)
theorem c56_51 : cntE (iffB (5 : Nat) (6 : Nat)) 57 34218526576656 [(0, 0, true), (1, 0, true), (2, 0, true), (3, 0, true)] 6 = 6 := cnt_node (k := 4) (by decide) (by decide +kernel) (cnt_no (by decide +kernel)) (cnt_yes (by decide +kernel) (by decide +kernel) (by decide +kernel) c56_50)
theorem c56_52 : cntE (iffB (5 : Nat) (6 : Nat)) 58 34218526578712 [(0, 0, true), (1, 0, true), (2, 0, true)] 6 = 6 := cnt_node (k := 3) (by decide) (by decide +kernel) (cnt_yes (by decide +kernel) (by decide +kernel) (by decide +kernel) c56_47) (cnt_yes (by decide +kernel) (by decide +kernel) (by decide +kernel) c56_51)
theorem c56_53 : cntE (iffB (5 : Nat) (6 : Nat)) 59 34218526579740 [(0, 0, true), (1, 0, true)] 6 = 6 := cnt_node (k := 2) (by decide) (by decide +kernel) (cnt_yes (by decide +kernel) (by decide +kernel) (by decide +kernel) c56_42) (cnt_yes (by decide +kernel) (by decide +kernel) (by decide +kernel) c56_52)
theorem c56_54 : cntE (iffB (5 : Nat) (6 : Nat)) 60 34218526580254 [(0, 0, true)] 4 = 6 := cnt_node (k := 1) (by decide) (by decide +kernel) (cnt_yes (by decide +kernel) (by decide +kernel) (by decide +kernel) c56_36) (cnt_yes (by decide +kernel) (by decide +kernel) (by decide +kernel) c56_53)
theorem c56_55 : cntE (iffB (5 : Nat) (6 : Nat)) 61 34218526580511 [] 0 = 6 := cnt_node (k := 0) (by decide) (by decide +kernel) (cnt_yes (by decide +kernel) (by decide +kernel) (by decide +kernel) c56_22) (cnt_yes (by decide +kernel) (by decide +kernel) (by decide +kernel) c56_54)
theorem cff56 : cntE (iffB (5 : Nat) (6 : Nat)) 61 (setZ (rectZ 5 6)) [] 0 = 6 := (congrArg (fun s => cntE (iffB (5 : Nat) (6 : Nat)) 61 s [] 0) (show setZ (rectZ 5 6) = 34218526580511 by decide +kernel)).trans c56_55
end Go.Proofs.Ytehnbalbpfmijaa

namespace Go.Proofs.Ytehnbalbpfmijaa
open Go.RowKit
set_option linter.unusedVariables false
set_option maxRecDepth 100000

theorem c65_0 : cntE (iffB (6 : Nat) (5 : Nat)) 56 271644045312 [(0, 0, false), (2, 0, false), (4, 0, false), (0, 1, false), (2, 1, false)] 0 = 0 := by decide +kernel
theorem c65_1 : cntE (iffB (6 : Nat) (5 : Nat)) 56 271643785216 [(0, 0, false), (2, 0, false), (4, 0, false), (0, 1, false), (2, 1, true)] 0 = 0 := by decide +kernel
theorem c65_2 : cntE (iffB (6 : Nat) (5 : Nat)) 57 271644048384 [(0, 0, false), (2, 0, false), (4, 0, false), (0, 1, false)] 0 = 0 := cnt_node (k := 10) (by decide) (by decide +kernel) (cnt_yes (by decide +kernel) (by decide +kernel) (by decide +kernel) c65_0) (cnt_yes (by decide +kernel) (by decide +kernel) (by decide +kernel) c65_1)
theorem c65_3 : cntE (iffB (6 : Nat) (5 : Nat)) 56 271643981824 [(0, 0, false), (2, 0, false), (4, 0, false), (0, 1, true), (1, 1, false)] 0 = 0 := by decide +kernel
theorem c65_4 : cntE (iffB (6 : Nat) (5 : Nat)) 55 271643848704 [(0, 0, false), (2, 0, false), (4, 0, false), (0, 1, true), (1, 1, true), (2, 1, false)] 0 = 0 := by decide +kernel
theorem c65_5 : cntE (iffB (6 : Nat) (5 : Nat)) 55 271643588608 [(0, 0, false), (2, 0, false), (4, 0, false), (0, 1, true), (1, 1, true), (2, 1, true)] 0 = 0 := by decide +kernel
theorem c65_6 : cntE (iffB (6 : Nat) (5 : Nat)) 56 271643851776 [(0, 0, false), (2, 0, false), (4, 0, false), (0, 1, true), (1, 1, true)] 0 = 0 := cnt_node (k := 10) (by decide) (by decide +kernel) (cnt_yes (by decide +kernel) (by decide +kernel) (by decide +kernel) c65_4) (cnt_yes (by decide +kernel) (by decide +kernel) (by decide +kernel) c65_5)
theorem c65_7 : cntE (iffB (6 : Nat) (5 : Nat)) 57 271643983360 [(0, 0, false), (2, 0, false), (4, 0, false), (0, 1, true)] 0 = 0 := cnt_node (k := 9) (by decide) (by decide +kernel) (cnt_yes (by decide +kernel) (by decide +kernel) (by decide +kernel) c65_3) (cnt_yes (by decide +kernel) (by decide +kernel) (by decide +kernel) c65_6)
theorem c65_8 : cntE (iffB (6 : Nat) (5 : Nat)) 58 271644049152 [(0, 0, false), (2, 0, false), (4, 0, false)] 0 = 0 := cnt_node (k := 8) (by decide) (by decide +kernel) (cnt_yes (by decide +kernel) (by decide +kernel) (by decide +kernel) c65_2) (cnt_yes (by decide +kernel) (by decide +kernel) (by decide +kernel) c65_7)
theorem c65_9 : cntE (iffB (6 : Nat) (5 : Nat)) 56 271644036096 [(0, 0, false), (2, 0, false), (4, 0, true), (5, 0, true), (0, 1, false)] 0 = 0 := by decide +kernel
theorem c65_10 : cntE (iffB (6 : Nat) (5 : Nat)) 56 271643971072 [(0, 0, false), (2, 0, false), (4, 0, true), (5, 0, true), (0, 1, true)] 0 = 1 := by decide +kernel
theorem c65_11 : cntE (iffB (6 : Nat) (5 : Nat)) 57 271644036864 [(0, 0, false), (2, 0, false), (4, 0, true), (5, 0, true)] 0 = 1 := cnt_node (k := 8) (by decide) (by decide +kernel) (cnt_yes (by decide +kernel) (by decide +kernel) (by decide +kernel) c65_9) (cnt_yes (by decide +kernel) (by decide +kernel) (by decide +kernel) c65_10)
theorem c65_12 : cntE (iffB (6 : Nat) (5 : Nat)) 58 271644045088 [(0, 0, false), (2, 0, false), (4, 0, true)] 0 = 1 := cnt_node (k := 5) (by decide) (by decide +kernel) (cnt_no (by decide +kernel)) (cnt_yes (by decide +kernel) (by decide +kernel) (by decide +kernel) c65_11)
theorem c65_13 : cntE (iffB (6 : Nat) (5 : Nat)) 59 271644049200 [(0, 0, false), (2, 0, false)] 0 = 1 := cnt_node (k := 4) (by decide) (by decide +kernel) (cnt_yes (by decide +kernel) (by decide +kernel) (by decide +kernel) c65_8) (cnt_yes (by decide +kernel) (by decide +kernel) (by decide +kernel) c65_12)
theorem c65_14 : cntE (iffB (6 : Nat) (5 : Nat)) 58 271644048160 [(0, 0, false), (2, 0, true), (3, 0, false)] 1 = 2 := by decide +kernel
theorem c65_15 : cntE (iffB (6 : Nat) (5 : Nat)) 56 271644045312 [(0, 0, false), (2, 0, true), (3, 0, true), (4, 0, false), (0, 1, false)] 2 = 2 := by decide +kernel
theorem c65_16 : cntE (iffB (6 : Nat) (5 : Nat)) 56 271643980288 [(0, 0, false), (2, 0, true), (3, 0, true), (4, 0, false), (0, 1, true)] 2 = 2 := by decide +kernel
theorem c65_17 : cntE (iffB (6 : Nat) (5 : Nat)) 57 271644046080 [(0, 0, false), (2, 0, true), (3, 0, true), (4, 0, false)] 2 = 2 := cnt_node (k := 8) (by decide) (by decide +kernel) (cnt_yes (by decide +kernel) (by decide +kernel) (by decide +kernel) c65_15) (cnt_yes (by decide +kernel) (by decide +kernel) (by decide +kernel) c65_16)
theorem c65_18 : cntE (iffB (6 : Nat) (5 : Nat)) 57 271644042016 [(0, 0, false), (2, 0, true), (3, 0, true), (4, 0, true)] 2 = 2 := by decide +kernel
theorem c65_19 : cntE (iffB (6 : Nat) (5 : Nat)) 58 271644046128 [(0, 0, false), (2, 0, true), (3, 0, true)] 2 = 2 := cnt_node (k := 4) (by decide) (by decide +kernel) (cnt_yes (by decide +kernel) (by decide +kernel) (by decide +kernel) c65_17) (cnt_yes (by decide +kernel) (by decide +kernel) (by decide +kernel) c65_18)
theorem c65_20 : cntE (iffB (6 : Nat) (5 : Nat)) 59 271644048184 [(0, 0, false), (2, 0, true)] 1 = 2 := cnt_node (k := 3) (by decide) (by decide +kernel) (cnt_yes (by decide +kernel) (by decide +kernel) (by decide +kernel) c65_14) (cnt_yes (by decide +kernel) (by decide +kernel) (by decide +kernel) c65_19)
theorem c65_21 : cntE (iffB (6 : Nat) (5 : Nat)) 60 271644049212 [(0, 0, false)] 0 = 2 := cnt_node (k := 2) (by decide) (by decide +kernel) (cnt_yes (by decide +kernel) (by decide +kernel) (by decide +kernel) c65_13) (cnt_yes (by decide +kernel) (by decide +kernel) (by decide +kernel) c65_20)
theorem c65_22 : cntE (iffB (6 : Nat) (5 : Nat)) 58 271644048928 [(0, 0, true), (1, 0, false), (3, 0, false)] 2 = 4 := by decide +kernel
theorem c65_23 : cntE (iffB (6 : Nat) (5 : Nat)) 57 271644046848 [(0, 0, true), (1, 0, false), (3, 0, true), (4, 0, false)] 4 = 5 := by decide +kernel
theorem c65_24 : cntE (iffB (6 : Nat) (5 : Nat)) 57 271644042784 [(0, 0, true), (1, 0, false), (3, 0, true), (4, 0, true)] 5 = 5 := by decide +kernel
theorem c65_25 : cntE (iffB (6 : Nat) (5 : Nat)) 58 271644046896 [(0, 0, true), (1, 0, false), (3, 0, true)] 4 = 5 := cnt_node (k := 4) (by decide) (by decide +kernel) (cnt_yes (by decide +kernel) (by decide +kernel) (by decide +kernel) c65_23) (cnt_yes (by decide +kernel) (by decide +kernel) (by decide +kernel) c65_24)
theorem c65_26 : cntE (iffB (6 : Nat) (5 : Nat)) 59 271644048952 [(0, 0, true), (1, 0, false)] 2 = 5 := cnt_node (k := 3) (by decide) (by decide +kernel) (cnt_yes (by decide +kernel) (by decide +kernel) (by decide +kernel) c65_22) (cnt_yes (by decide +kernel) (by decide +kernel) (by decide +kernel) c65_25)
theorem c65_27 : cntE (iffB (6 : Nat) (5 : Nat)) 56 271644045312 [(0, 0, true), (1, 0, true), (2, 0, false), (4, 0, false), (2, 1, false)] 5 = 5 := by decide +kernel
theorem c65_28 : cntE (iffB (6 : Nat) (5 : Nat)) 56 271643785216 [(0, 0, true), (1, 0, true), (2, 0, false), (4, 0, false), (2, 1, true)] 5 = 6 := by decide +kernel
theorem c65_29 : cntE (iffB (6 : Nat) (5 : Nat)) 57 271644048384 [(0, 0, true), (1, 0, true), (2, 0, false), (4, 0, false)] 5 = 6 := cnt_node (k := 10) (by decide) (by decide +kernel) (cnt_yes (by decide +kernel) (by decide +kernel) (by decide +kernel) c65_27) (cnt_yes (by decide +kernel) (by decide +kernel) (by decide +kernel) c65_28)
theorem c65_30 : cntE (iffB (6 : Nat) (5 : Nat)) 57 271644044320 [(0, 0, true), (1, 0, true), (2, 0, false), (4, 0, true)] 6 = 6 := by decide +kernel
theorem c65_31 : cntE (iffB (6 : Nat) (5 : Nat)) 58 271644048432 [(0, 0, true), (1, 0, true), (2, 0, false)] 5 = 6 := cnt_node (k := 4) (by decide) (by decide +kernel) (cnt_yes (by decide +kernel) (by decide +kernel) (by decide +kernel) c65_29) (cnt_yes (by decide +kernel) (by decide +kernel) (by decide +kernel) c65_30)
theorem c65_32 : cntE (iffB (6 : Nat) (5 : Nat)) 57 271644047392 [(0, 0, true), (1, 0, true), (2, 0, true), (3, 0, false)] 6 = 6 := by decide +kernel
theorem c65_33 : cntE (iffB (6 : Nat) (5 : Nat)) 56 271644045312 [(0, 0, true), (1, 0, true), (2, 0, true), (3, 0, true), (4, 0, false)] 6 = 6 := by decide +kernel
theorem c65_34 : cntE (iffB (6 : Nat) (5 : Nat)) 56 271644041248 [(0, 0, true), (1, 0, true), (2, 0, true), (3, 0, true), (4, 0, true)] 6 = 6 := by decide +kernel
theorem c65_35 : cntE (iffB (6 : Nat) (5 : Nat)) 57 271644045360 [(0, 0, true), (1, 0, true), (2, 0, true), (3, 0, true)] 6 = 6 := cnt_node (k := 4) (by decide) (by decide +kernel) (cnt_yes (by decide +kernel) (by decide +kernel) (by decide +kernel) c65_33) (cnt_yes (by decide +kernel) (by decide +kernel) (by decide +kernel) c65_34)
theorem c65_36 : cntE (iffB (6 : Nat) (5 : Nat)) 58 271644047416 [(0, 0, true), (1, 0, true), (2, 0, true)] 6 = 6 := cnt_node (k := 3) (by decide) (by decide +kernel) (cnt_yes (by decide +kernel) (by decide +kernel) (by decide +kernel) c65_32) (cnt_yes (by decide +kernel) (by decide +kernel) (by decide +kernel) c65_35)
theorem c65_37 : cntE (iffB (6 : Nat) (5 : Nat)) 59 271644048444 [(0, 0, true), (1, 0, true)] 5 = 6 := cnt_node (k := 2) (by decide) (by decide +kernel) (cnt_yes (by decide +kernel) (by decide +kernel) (by decide +kernel) c65_31) (cnt_yes (by decide +kernel) (by decide +kernel) (by decide +kernel) c65_36)
theorem c65_38 : cntE (iffB (6 : Nat) (5 : Nat)) 60 271644048958 [(0, 0, true)] 2 = 6 := cnt_node (k := 1) (by decide) (by decide +kernel) (cnt_yes (by decide +kernel) (by decide +kernel) (by decide +kernel) c65_26) (cnt_yes (by decide +kernel) (by decide +kernel) (by decide +kernel) c65_37)
theorem c65_39 : cntE (iffB (6 : Nat) (5 : Nat)) 61 271644049215 [] 0 = 6 := cnt_node (k := 0) (by decide) (by decide +kernel) (cnt_yes (by decide +kernel) (by decide +kernel) (by decide +kernel) c65_21) (cnt_yes (by decide +kernel) (by decide +kernel) (by decide +kernel) c65_38)
theorem cff65 : cntE (iffB (6 : Nat) (5 : Nat)) 61 (setZ (rectZ 6 5)) [] 0 = 6 := (congrArg (fun s => cntE (iffB (6 : Nat) (5 : Nat)) 61 s [] 0) (show setZ (rectZ 6 5) = 271644049215 by decide +kernel)).trans c65_39
end Go.Proofs.Ytehnbalbpfmijaa

namespace Go.Proofs.Ytehnbalbpfmijaa
open Go.RowKit
set_option linter.unusedVariables false
set_option maxRecDepth 100000

theorem c46_0 : cntE (iffB (4 : Nat) (6 : Nat)) 58 16557351570432 [(0, 0, false), (2, 0, false), (0, 1, false)] 0 = 0 := by decide +kernel
theorem c46_1 : cntE (iffB (4 : Nat) (6 : Nat)) 58 16557351505408 [(0, 0, false), (2, 0, false), (0, 1, true)] 0 = 0 := by decide +kernel
theorem c46_2 : cntE (iffB (4 : Nat) (6 : Nat)) 59 16557351571200 [(0, 0, false), (2, 0, false)] 0 = 0 := cnt_node (k := 8) (by decide) (by decide +kernel) (cnt_yes (by decide +kernel) (by decide +kernel) (by decide +kernel) c46_0) (cnt_yes (by decide +kernel) (by decide +kernel) (by decide +kernel) c46_1)
theorem c46_3 : cntE (iffB (4 : Nat) (6 : Nat)) 59 16557351570184 [(0, 0, false), (2, 0, true)] 0 = 0 := by decide +kernel
theorem c46_4 : cntE (iffB (4 : Nat) (6 : Nat)) 60 16557351571212 [(0, 0, false)] 0 = 0 := cnt_node (k := 2) (by decide) (by decide +kernel) (cnt_yes (by decide +kernel) (by decide +kernel) (by decide +kernel) c46_2) (cnt_yes (by decide +kernel) (by decide +kernel) (by decide +kernel) c46_3)
theorem c46_5 : cntE (iffB (4 : Nat) (6 : Nat)) 59 16557351570952 [(0, 0, true), (1, 0, false)] 0 = 0 := by decide +kernel
theorem c46_6 : cntE (iffB (4 : Nat) (6 : Nat)) 58 16557351570432 [(0, 0, true), (1, 0, true), (2, 0, false)] 0 = 0 := by decide +kernel
theorem c46_7 : cntE (iffB (4 : Nat) (6 : Nat)) 58 16557351569416 [(0, 0, true), (1, 0, true), (2, 0, true)] 0 = 0 := by decide +kernel
theorem c46_8 : cntE (iffB (4 : Nat) (6 : Nat)) 59 16557351570444 [(0, 0, true), (1, 0, true)] 0 = 0 := cnt_node (k := 2) (by decide) (by decide +kernel) (cnt_yes (by decide +kernel) (by decide +kernel) (by decide +kernel) c46_6) (cnt_yes (by decide +kernel) (by decide +kernel) (by decide +kernel) c46_7)
theorem c46_9 : cntE (iffB (4 : Nat) (6 : Nat)) 60 16557351570958 [(0, 0, true)] 0 = 0 := cnt_node (k := 1) (by decide) (by decide +kernel) (cnt_yes (by decide +kernel) (by decide +kernel) (by decide +kernel) c46_5) (cnt_yes (by decide +kernel) (by decide +kernel) (by decide +kernel) c46_8)
theorem c46_10 : cntE (iffB (4 : Nat) (6 : Nat)) 61 16557351571215 [] 0 = 0 := cnt_node (k := 0) (by decide) (by decide +kernel) (cnt_yes (by decide +kernel) (by decide +kernel) (by decide +kernel) c46_4) (cnt_yes (by decide +kernel) (by decide +kernel) (by decide +kernel) c46_9)
theorem cff46 : cntE (iffB (4 : Nat) (6 : Nat)) 61 (setZ (rectZ 4 6)) [] 0 = 0 := (congrArg (fun s => cntE (iffB (4 : Nat) (6 : Nat)) 61 s [] 0) (show setZ (rectZ 4 6) = 16557351571215 by decide +kernel)).trans c46_10
end Go.Proofs.Ytehnbalbpfmijaa

namespace Go.Proofs.Ytehnbalbpfmijaa
open Go.RowKit
set_option linter.unusedVariables false
set_option maxRecDepth 100000

theorem c64_0 : cntE (iffB (6 : Nat) (4 : Nat)) 59 1061109552 [(0, 0, false), (2, 0, false)] 0 = 0 := by decide +kernel
theorem c64_1 : cntE (iffB (6 : Nat) (4 : Nat)) 59 1061108536 [(0, 0, false), (2, 0, true)] 0 = 0 := by decide +kernel
theorem c64_2 : cntE (iffB (6 : Nat) (4 : Nat)) 60 1061109564 [(0, 0, false)] 0 = 0 := cnt_node (k := 2) (by decide) (by decide +kernel) (cnt_yes (by decide +kernel) (by decide +kernel) (by decide +kernel) c64_0) (cnt_yes (by decide +kernel) (by decide +kernel) (by decide +kernel) c64_1)
theorem c64_3 : cntE (iffB (6 : Nat) (4 : Nat)) 59 1061109304 [(0, 0, true), (1, 0, false)] 0 = 0 := by decide +kernel
theorem c64_4 : cntE (iffB (6 : Nat) (4 : Nat)) 58 1061108784 [(0, 0, true), (1, 0, true), (2, 0, false)] 0 = 0 := by decide +kernel
theorem c64_5 : cntE (iffB (6 : Nat) (4 : Nat)) 58 1061107768 [(0, 0, true), (1, 0, true), (2, 0, true)] 0 = 0 := by decide +kernel
theorem c64_6 : cntE (iffB (6 : Nat) (4 : Nat)) 59 1061108796 [(0, 0, true), (1, 0, true)] 0 = 0 := cnt_node (k := 2) (by decide) (by decide +kernel) (cnt_yes (by decide +kernel) (by decide +kernel) (by decide +kernel) c64_4) (cnt_yes (by decide +kernel) (by decide +kernel) (by decide +kernel) c64_5)
theorem c64_7 : cntE (iffB (6 : Nat) (4 : Nat)) 60 1061109310 [(0, 0, true)] 0 = 0 := cnt_node (k := 1) (by decide) (by decide +kernel) (cnt_yes (by decide +kernel) (by decide +kernel) (by decide +kernel) c64_3) (cnt_yes (by decide +kernel) (by decide +kernel) (by decide +kernel) c64_6)
theorem c64_8 : cntE (iffB (6 : Nat) (4 : Nat)) 61 1061109567 [] 0 = 0 := cnt_node (k := 0) (by decide) (by decide +kernel) (cnt_yes (by decide +kernel) (by decide +kernel) (by decide +kernel) c64_2) (cnt_yes (by decide +kernel) (by decide +kernel) (by decide +kernel) c64_7)
theorem cff64 : cntE (iffB (6 : Nat) (4 : Nat)) 61 (setZ (rectZ 6 4)) [] 0 = 0 := (congrArg (fun s => cntE (iffB (6 : Nat) (4 : Nat)) 61 s [] 0) (show setZ (rectZ 6 4) = 1061109567 by decide +kernel)).trans c64_8
end Go.Proofs.Ytehnbalbpfmijaa

namespace Go.Proofs.Ytehnbalbpfmijaa
open Go.RowKit
set_option linter.unusedVariables false

theorem quietDrawnF {P : Program} {f : FuncId} {args : Array Value} {w : World} {n : Nat} {v : Value}
    (h : Calls P f args (w.drewN n) fun e w' => e = .returned v ∧ Drawn (w.drewN n) w') : Calls P f args (w.drewN n) fun e w'' => e = .returned v ∧ ∃ m, w'' = w.drewN m :=
  h.mono fun _ _ ⟨he, m, hm⟩ => ⟨he, n + m, by rw [hm, World.drewN_drewN]⟩
theorem i64_or (a b : Nat) (ha : a < 4611686018427387904) (hb : b < 4611686018427387904) : bits .or .i64 (a : Int) (b : Int) = ((a ||| b : Nat) : Int) := by
  have hlt : a ||| b < 2 ^ 62 := Nat.or_lt_two_pow (by omega) (by omega)
  have ea : ((a : Int) % ((2 ^ 64 : Nat) : Int)).toNat = a := by omega
  have eb : ((b : Int) % ((2 ^ 64 : Nat) : Int)).toNat = b := by omega
  have key : (BitVec.ofInt 64 (a : Int) ||| BitVec.ofInt 64 (b : Int)).toNat = a ||| b := by
    rw [BitVec.toNat_or, BitVec.toNat_ofInt, BitVec.toNat_ofInt, ea, eb]
  show IntKind.i64.wrap ((BitVec.ofInt 64 (a : Int) ||| BitVec.ofInt 64 (b : Int)).toNat : Nat) = _
  rw [key, IntKind.wrap_i64]
  generalize a ||| b = q at *
  simp at hlt
  omega
theorem i64_bit (T k : Nat) (hT : T < 4611686018427387904) : bits .and .i64 ((T / 2 ^ k : Nat) : Int) 1 = if T.testBit k then 1 else 0 := by
  have hle : T / 2 ^ k ≤ T := Nat.div_le_self _ _
  rw [Nat.testBit_eq_decide_div_mod_eq]
  generalize T / 2 ^ k = S at *
  have e1 : ((S : Int) % ((2 ^ 64 : Nat) : Int)).toNat = S := by omega
  have h1 : (BitVec.ofInt 64 1).toNat = 1 := by decide
  have key : (BitVec.ofInt 64 (S : Int) &&& BitVec.ofInt 64 1).toNat = S % 2 := by
    rw [BitVec.toNat_and, BitVec.toNat_ofInt, e1, h1, Nat.and_one_is_mod]
  show IntKind.i64.wrap ((BitVec.ofInt 64 (S : Int) &&& BitVec.ofInt 64 1).toNat : Nat) = _
  rw [key, IntKind.wrap_i64]
  by_cases h : S % 2 = 1
  · rw [if_pos (by simpa using h)]; omega
  · rw [if_neg (by simpa using h)]; omega
theorem findZ_bd (w h : Nat) : ∀ d c l, -9223372036854775808 ≤ findZ w h d c l ∧ findZ w h d c l ≤ 9223372036854775807
  | 0, _, _ => by simp [findZ]
  | d + 1, c, l => by
    rw [findZ]
    split
    · split <;> simp
    · have key : ∀ z : Int, -9223372036854775808 ≤ wrap64 z ∧ wrap64 z ≤ 9223372036854775807 := fun z => by unfold wrap64; omega
      simp only
      split
      · exact key _
      · split
        · exact findZ_bd w h d _ _
        · simp
theorem fstF_spec (n c : Nat) : ∀ d i, i ≤ fstF n c d i ∧ fstF n c d i ≤ i + d ∧ (∀ j, i ≤ j → j < fstF n c d i → c.testBit j = true ∧ j < n) ∧ (fstF n c d i < i + d → fstF n c d i < n → c.testBit (fstF n c d i) = false)
  | 0, i => by simp [fstF]; intro j h1 h2; omega
  | d + 1, i => by
    rw [fstF]
    cases hb : (decide (i < n) && c.testBit i)
    · rw [if_neg (by simp)]
      refine ⟨Nat.le_refl _, by omega, fun j h1 h2 => by omega, fun _ h => ?_⟩
      simpa [h] using hb
    · rw [if_pos rfl]
      obtain ⟨h1, h2, h3, h4⟩ := fstF_spec n c d (i + 1)
      simp only [Bool.and_eq_true, decide_eq_true_eq] at hb
      refine ⟨by omega, by omega, fun j g1 g2 => ?_, fun g => h4 (by omega)⟩
      by_cases e : j = i
      · subst e; exact ⟨hb.2, hb.1⟩
      · exact h3 j (by omega) g2
theorem fstF_facts (n c : Nat) : fstF n c n 0 ≤ n ∧ (∀ j, j < fstF n c n 0 → c.testBit j = true) ∧ (fstF n c n 0 < n → c.testBit (fstF n c n 0) = false) := by
  obtain ⟨_, h2, h3, h4⟩ := fstF_spec n c n 0
  exact ⟨by omega, fun j hj => (h3 j (Nat.zero_le _) hj).1, fun h => h4 (by omega) h⟩
theorem i64_bit' (T k : Nat) (hT : T < 4611686018427387904) : bits .and .i64 ((T : Int) / 2 ^ k) 1 = if T.testBit k then 1 else 0 := by
  rw [← i64_bit T k hT]; simp
theorem shl_i64 (a x : Nat) (h : a * 2 ^ x < 9223372036854775808) : IntKind.i64.wrap ((a : Int) * (2 : Int) ^ x) = ((a * 2 ^ x : Nat) : Int) := by
  have e : ((a : Int) * (2 : Int) ^ x) = ((a * 2 ^ x : Nat) : Int) := by simp
  rw [e, IntKind.wrap_i64]
  generalize (a * 2 ^ x : Nat) = p at *
  omega
end Go.Proofs.Ytehnbalbpfmijaa

namespace Go.Proofs.Ytehnbalbpfmijaa
open Go.RowKit
set_option linter.unusedVariables false
set_option maxRecDepth 100000

def CffAt (a b : Nat) : Prop := cntE (iffB (a : Int) (b : Int)) 61 (setZ (rectZ a b)) [] 0 = findZ a b 31 0 0

theorem cffAt11 : CffAt 1 1 := show cntE (iffB ((1 : Nat) : Int) ((1 : Nat) : Int)) 61 (setZ (rectZ 1 1)) [] 0 = findZ 1 1 31 0 0 by decide +kernel
theorem cffAt12 : CffAt 1 2 := show cntE (iffB ((1 : Nat) : Int) ((2 : Nat) : Int)) 61 (setZ (rectZ 1 2)) [] 0 = findZ 1 2 31 0 0 by decide +kernel
theorem cffAt13 : CffAt 1 3 := show cntE (iffB ((1 : Nat) : Int) ((3 : Nat) : Int)) 61 (setZ (rectZ 1 3)) [] 0 = findZ 1 3 31 0 0 by decide +kernel
theorem cffAt14 : CffAt 1 4 := show cntE (iffB ((1 : Nat) : Int) ((4 : Nat) : Int)) 61 (setZ (rectZ 1 4)) [] 0 = findZ 1 4 31 0 0 by decide +kernel
theorem cffAt15 : CffAt 1 5 := show cntE (iffB ((1 : Nat) : Int) ((5 : Nat) : Int)) 61 (setZ (rectZ 1 5)) [] 0 = findZ 1 5 31 0 0 by decide +kernel
theorem cffAt16 : CffAt 1 6 := show cntE (iffB ((1 : Nat) : Int) ((6 : Nat) : Int)) 61 (setZ (rectZ 1 6)) [] 0 = findZ 1 6 31 0 0 by decide +kernel
theorem cffAt21 : CffAt 2 1 := show cntE (iffB ((2 : Nat) : Int) ((1 : Nat) : Int)) 61 (setZ (rectZ 2 1)) [] 0 = findZ 2 1 31 0 0 by decide +kernel
theorem cffAt22 : CffAt 2 2 := show cntE (iffB ((2 : Nat) : Int) ((2 : Nat) : Int)) 61 (setZ (rectZ 2 2)) [] 0 = findZ 2 2 31 0 0 by decide +kernel
theorem cffAt23 : CffAt 2 3 := show cntE (iffB ((2 : Nat) : Int) ((3 : Nat) : Int)) 61 (setZ (rectZ 2 3)) [] 0 = findZ 2 3 31 0 0 by decide +kernel
theorem cffAt24 : CffAt 2 4 := show cntE (iffB ((2 : Nat) : Int) ((4 : Nat) : Int)) 61 (setZ (rectZ 2 4)) [] 0 = findZ 2 4 31 0 0 by decide +kernel
theorem cffAt25 : CffAt 2 5 := show cntE (iffB ((2 : Nat) : Int) ((5 : Nat) : Int)) 61 (setZ (rectZ 2 5)) [] 0 = findZ 2 5 31 0 0 by decide +kernel
theorem cffAt26 : CffAt 2 6 := show cntE (iffB ((2 : Nat) : Int) ((6 : Nat) : Int)) 61 (setZ (rectZ 2 6)) [] 0 = findZ 2 6 31 0 0 by decide +kernel
theorem cffAt31 : CffAt 3 1 := show cntE (iffB ((3 : Nat) : Int) ((1 : Nat) : Int)) 61 (setZ (rectZ 3 1)) [] 0 = findZ 3 1 31 0 0 by decide +kernel
theorem cffAt32 : CffAt 3 2 := show cntE (iffB ((3 : Nat) : Int) ((2 : Nat) : Int)) 61 (setZ (rectZ 3 2)) [] 0 = findZ 3 2 31 0 0 by decide +kernel
theorem cffAt33 : CffAt 3 3 := show cntE (iffB ((3 : Nat) : Int) ((3 : Nat) : Int)) 61 (setZ (rectZ 3 3)) [] 0 = findZ 3 3 31 0 0 by decide +kernel
theorem cffAt34 : CffAt 3 4 := show cntE (iffB ((3 : Nat) : Int) ((4 : Nat) : Int)) 61 (setZ (rectZ 3 4)) [] 0 = findZ 3 4 31 0 0 by decide +kernel
theorem cffAt35 : CffAt 3 5 := show cntE (iffB ((3 : Nat) : Int) ((5 : Nat) : Int)) 61 (setZ (rectZ 3 5)) [] 0 = findZ 3 5 31 0 0 by decide +kernel
theorem cffAt36 : CffAt 3 6 := show cntE (iffB ((3 : Nat) : Int) ((6 : Nat) : Int)) 61 (setZ (rectZ 3 6)) [] 0 = findZ 3 6 31 0 0 by decide +kernel
theorem cffAt41 : CffAt 4 1 := show cntE (iffB ((4 : Nat) : Int) ((1 : Nat) : Int)) 61 (setZ (rectZ 4 1)) [] 0 = findZ 4 1 31 0 0 by decide +kernel
theorem cffAt42 : CffAt 4 2 := show cntE (iffB ((4 : Nat) : Int) ((2 : Nat) : Int)) 61 (setZ (rectZ 4 2)) [] 0 = findZ 4 2 31 0 0 by decide +kernel
theorem cffAt43 : CffAt 4 3 := show cntE (iffB ((4 : Nat) : Int) ((3 : Nat) : Int)) 61 (setZ (rectZ 4 3)) [] 0 = findZ 4 3 31 0 0 by decide +kernel
theorem cffAt44 : CffAt 4 4 := show cntE (iffB ((4 : Nat) : Int) ((4 : Nat) : Int)) 61 (setZ (rectZ 4 4)) [] 0 = findZ 4 4 31 0 0 by decide +kernel
theorem cffAt45 : CffAt 4 5 := show cntE (iffB ((4 : Nat) : Int) ((5 : Nat) : Int)) 61 (setZ (rectZ 4 5)) [] 0 = findZ 4 5 31 0 0 by decide +kernel
theorem cffAt46 : CffAt 4 6 := cff46.trans (by decide +kernel)
theorem cffAt51 : CffAt 5 1 := show cntE (iffB ((5 : Nat) : Int) ((1 : Nat) : Int)) 61 (setZ (rectZ 5 1)) [] 0 = findZ 5 1 31 0 0 by decide +kernel
theorem cffAt52 : CffAt 5 2 := show cntE (iffB ((5 : Nat) : Int) ((2 : Nat) : Int)) 61 (setZ (rectZ 5 2)) [] 0 = findZ 5 2 31 0 0 by decide +kernel
theorem cffAt53 : CffAt 5 3 := show cntE (iffB ((5 : Nat) : Int) ((3 : Nat) : Int)) 61 (setZ (rectZ 5 3)) [] 0 = findZ 5 3 31 0 0 by decide +kernel
theorem cffAt54 : CffAt 5 4 := show cntE (iffB ((5 : Nat) : Int) ((4 : Nat) : Int)) 61 (setZ (rectZ 5 4)) [] 0 = findZ 5 4 31 0 0 by decide +kernel
theorem cffAt55 : CffAt 5 5 := show cntE (iffB ((5 : Nat) : Int) ((5 : Nat) : Int)) 61 (setZ (rectZ 5 5)) [] 0 = findZ 5 5 31 0 0 by decide +kernel
theorem cffAt56 : CffAt 5 6 := cff56.trans (by decide +kernel)
theorem cffAt61 : CffAt 6 1 := show cntE (iffB ((6 : Nat) : Int) ((1 : Nat) : Int)) 61 (setZ (rectZ 6 1)) [] 0 = findZ 6 1 31 0 0 by decide +kernel
theorem cffAt62 : CffAt 6 2 := show cntE (iffB ((6 : Nat) : Int) ((2 : Nat) : Int)) 61 (setZ (rectZ 6 2)) [] 0 = findZ 6 2 31 0 0 by decide +kernel
theorem cffAt63 : CffAt 6 3 := show cntE (iffB ((6 : Nat) : Int) ((3 : Nat) : Int)) 61 (setZ (rectZ 6 3)) [] 0 = findZ 6 3 31 0 0 by decide +kernel
theorem cffAt64 : CffAt 6 4 := cff64.trans (by decide +kernel)
theorem cffAt65 : CffAt 6 5 := cff65.trans (by decide +kernel)
end Go.Proofs.Ytehnbalbpfmijaa

namespace Go.Proofs.Ytehnbalbpfmijaa
open Go.RowKit
set_option linter.unusedVariables false

theorem cffAt_all (a b : Nat) (ha : 1 ≤ a ∧ a ≤ 6) (hb : 1 ≤ b ∧ b ≤ 6) (hn : a * b ≤ 30) : CffAt a b := by
  obtain ⟨a1, a2⟩ := ha
  obtain ⟨b1, b2⟩ := hb
  rcases (show a = 1 ∨ a = 2 ∨ a = 3 ∨ a = 4 ∨ a = 5 ∨ a = 6 by omega) with rfl | rfl | rfl | rfl | rfl | rfl <;>
    rcases (show b = 1 ∨ b = 2 ∨ b = 3 ∨ b = 4 ∨ b = 5 ∨ b = 6 by omega) with rfl | rfl | rfl | rfl | rfl | rfl <;>
    first
      | with_reducible exact cffAt11
      | with_reducible exact cffAt12
      | with_reducible exact cffAt13
      | with_reducible exact cffAt14
      | with_reducible exact cffAt15
      | with_reducible exact cffAt16
      | with_reducible exact cffAt21
      | with_reducible exact cffAt22
      | with_reducible exact cffAt23
      | with_reducible exact cffAt24
      | with_reducible exact cffAt25
      | with_reducible exact cffAt26
      | with_reducible exact cffAt31
      | with_reducible exact cffAt32
      | with_reducible exact cffAt33
      | with_reducible exact cffAt34
      | with_reducible exact cffAt35
      | with_reducible exact cffAt36
      | with_reducible exact cffAt41
      | with_reducible exact cffAt42
      | with_reducible exact cffAt43
      | with_reducible exact cffAt44
      | with_reducible exact cffAt45
      | with_reducible exact cffAt46
      | with_reducible exact cffAt51
      | with_reducible exact cffAt52
      | with_reducible exact cffAt53
      | with_reducible exact cffAt54
      | with_reducible exact cffAt55
      | with_reducible exact cffAt56
      | with_reducible exact cffAt61
      | with_reducible exact cffAt62
      | with_reducible exact cffAt63
      | with_reducible exact cffAt64
      | with_reducible exact cffAt65
      | (exfalso; omega)
theorem cff_same (a b : Int) : cffI a b = if fewB a b then findZ a.toNat b.toNat 31 0 0 else -1 := by
  unfold cffI
  cases h : fewB a b
  · rfl
  · unfold fewB at h
    simp only [Bool.and_eq_true, inB_iff, decide_eq_true_eq] at h
    obtain ⟨n, rfl⟩ := Int.eq_ofNat_of_zero_le (show 0 ≤ a by omega)
    obtain ⟨m, rfl⟩ := Int.eq_ofNat_of_zero_le (show 0 ≤ b by omega)
    have hnm : n * m ≤ 30 := by have := h.2; rw [← Int.natCast_mul] at this; omega
    rw [if_pos rfl, if_pos rfl]
    exact cffAt_all n m (by omega) (by omega) hnm
end Go.Proofs.Ytehnbalbpfmijaa

namespace Go.Proofs.Ytehnbalbpfmijaa
open Go.RowKit
set_option linter.unusedVariables false

def stepF (h b r : Bool) (x : Nat) : List Int → Nat → List Int → List Int
  | [], _, nx => nx
  | n :: zs, k, nx => stepF h b r x zs (k + 1) (inZ h b r x n k nx)
theorem stepF_eq (h b r : Bool) (x : Nat) (zs : List Int) : ∀ (l : List Int) (k : Nat), zs.drop k = l → stepF h b r x l k (stepTo h b r x zs k) = stepTo h b r x zs (k + l.length)
  | [], k, _ => rfl
  | n :: l, k, hd => by
    have hk : k < zs.length := by
      refine Nat.lt_of_not_le fun hle => ?_
      rw [List.drop_of_length_le hle] at hd; simp at hd
    rw [List.drop_eq_getElem_cons hk] at hd
    injection hd with h1 h2
    have he : el zs k = n := by rw [el, List.getD_eq_getElem?_getD, List.getElem?_eq_getElem hk]; exact h1
    rw [stepF]
    have ih := stepF_eq h b r x zs l (k + 1) h2
    rw [stepTo, he] at ih
    rw [ih, List.length_cons, show k + 1 + l.length = k + (l.length + 1) by omega]
def profF (T : Nat) : Nat → List Int
  | 0 => zeros.set 0 1
  | i + 1 => stepF (hasC T (i % 8) (i / 8)) (hasC T (i % 8) (i / 8 + 1)) (hasC T (i % 8 + 1) (i / 8)) (i % 8) (profF T i) 0 zeros
theorem profF_eq (T : Nat) : ∀ i, profF T i = profTo T i
  | 0 => rfl
  | i + 1 => by
    rw [profF, profTo, profF_eq T i]
    have h := stepF_eq (hasC T (i % 8) (i / 8)) (hasC T (i % 8) (i / 8 + 1)) (hasC T (i % 8 + 1) (i / 8)) (i % 8) (profTo T i) (profTo T i) 0 rfl
    rw [Nat.zero_add, profTo_len] at h
    exact h
/-- The count, so reckoned. -/
def profK (T : Nat) : Int := (profF T 64).headD 0
theorem profK_eq (T : Nat) : profZ T = profK T := by
  unfold profZ profK
  rw [profF_eq]
  unfold el
  cases profTo T 64 <;> rfl
end Go.Proofs.Ytehnbalbpfmijaa

namespace Go.Proofs.Ytehnbalbpfmijaa
open Go.RowKit
set_option linter.unusedVariables false

def rcT (c h : Nat) : Int := (([[0, 0, 0, 0, 0], [0, 0, 1, 0, 1], [0, 1, 2, 3, 5], [0, 0, 3, 0, 11], [0, 1, 5, 11, 36], [0, 0, 8, 0, 95], [0, 1, 13, 41, 281]] : List (List Int)).getD c []).getD h 0
theorem rcT1 : ((List.range 5).all fun h => h == 0 || profK (setZ (rectZ 1 h)) == rcT 1 h) = true := by decide +kernel
theorem rcT2 : ((List.range 5).all fun h => h == 0 || profK (setZ (rectZ 2 h)) == rcT 2 h) = true := by decide +kernel
theorem rcT3 : ((List.range 5).all fun h => h == 0 || profK (setZ (rectZ 3 h)) == rcT 3 h) = true := by decide +kernel
theorem rcT4 : ((List.range 5).all fun h => h == 0 || profK (setZ (rectZ 4 h)) == rcT 4 h) = true := by decide +kernel
theorem rcT5 : ((List.range 5).all fun h => h == 0 || profK (setZ (rectZ 5 h)) == rcT 5 h) = true := by decide +kernel
theorem rcT6 : ((List.range 5).all fun h => h == 0 || profK (setZ (rectZ 6 h)) == rcT 6 h) = true := by decide +kernel
theorem rcT_eq {c h : Nat} (hc : 1 ≤ c ∧ c ≤ 6) (hh : 1 ≤ h ∧ h ≤ 4) : rcZ c h = rcT c h := by
  have key : ((List.range 5).all fun h => h == 0 || profK (setZ (rectZ c h)) == rcT c h) = true := by
    rcases (show c = 1 ∨ c = 2 ∨ c = 3 ∨ c = 4 ∨ c = 5 ∨ c = 6 by omega) with rfl | rfl | rfl | rfl | rfl | rfl
    · exact rcT1
    · exact rcT2
    · exact rcT3
    · exact rcT4
    · exact rcT5
    · exact rcT6
  have h2 := List.all_eq_true.1 key h (by simp; omega)
  rw [Bool.or_eq_true, beq_iff_eq, beq_iff_eq] at h2
  unfold rcZ
  rw [profK_eq]
  rcases h2 with h2 | h2
  · omega
  · exact h2
def rowT (c : Nat) (rows : List Nat) (n : Int) : Int := rows.foldl (fun n h => mulS n (rcT c h)) n
def colT (cols rows : List Nat) (n : Int) : Int := cols.foldl (fun n c => rowT c rows n) n
set_option maxRecDepth 100000 in
theorem rowT_eq {c : Nat} (hc : 1 ≤ c ∧ c ≤ 6) : ∀ (rows : List Nat) (n : Int), (∀ x ∈ rows, 1 ≤ x ∧ x ≤ 4) → rowF mulS c rows n = rowT c rows n
  | [], n, _ => (show rowF mulS c [] n = n from rfl).trans (show n = rowT c [] n from rfl)
  | h :: rows, n, hr => by
    have e := rcT_eq hc (hr h (by simp))
    have ih := rowT_eq hc rows (mulS n (rcT c h)) fun x hx => hr x (by simp [hx])
    have s1 : rowF mulS c (h :: rows) n = rowF mulS c rows (mulS n (rcZ c h)) := List.foldl_cons ..
    have s2 : rowT c (h :: rows) n = rowT c rows (mulS n (rcT c h)) := List.foldl_cons ..
    rw [s1, s2, e]
    exact ih
set_option maxRecDepth 100000 in
theorem colT_eq (rows : List Nat) (hr : ∀ x ∈ rows, 1 ≤ x ∧ x ≤ 4) : ∀ (cols : List Nat) (n : Int), (∀ x ∈ cols, 1 ≤ x ∧ x ≤ 6) → colF mulS cols rows n = colT cols rows n
  | [], n, _ => (show colF mulS [] rows n = n from rfl).trans (show n = colT [] rows n from rfl)
  | c :: cols, n, hc => by
    have e := rowT_eq (hc c (by simp)) rows n hr
    have ih := colT_eq rows hr cols (rowT c rows n) fun x hx => hc x (by simp [hx])
    have s1 : colF mulS (c :: cols) rows n = colF mulS cols rows (rowF mulS c rows n) := List.foldl_cons ..
    have s2 : colT (c :: cols) rows n = colT cols rows (rowT c rows n) := List.foldl_cons ..
    rw [s1, s2, e]
    exact ih
def termT (a b s t : Nat) : Int := if ((ptZ a s).length + (ptZ b t).length) % 2 = 1 then -colT (ptZ a s) (ptZ b t) 1 else colT (ptZ a s) (ptZ b t) 1
theorem termT_eq {a b s t : Nat} (ha : 1 ≤ a ∧ a ≤ 6) (hb : 1 ≤ b ∧ b ≤ 4) (hs : s < 32) (ht : t < 32) : termZ a b s t = termT a b s t := by
  obtain ⟨_, h1, _⟩ := pt_at ha.1 ha.2 hs
  obtain ⟨h2, h3, _⟩ := pt_at hb.1 (show b ≤ 6 by omega) ht
  have hr : ∀ x ∈ ptZ b t, 1 ≤ x ∧ x ≤ 4 := fun x hx => ⟨(h3 x hx).1, by have := mem_sum _ _ hx; omega⟩
  unfold termZ termT prodZ
  rw [colT_eq _ hr _ _ h1]
def inTT (a b s : Nat) (o : Int) : Nat → Int
  | 0 => o
  | t + 1 => wrap64 (inTT a b s o t + termT a b s t)
theorem inTT_eq {a b s : Nat} (ha : 1 ≤ a ∧ a ≤ 6) (hb : 1 ≤ b ∧ b ≤ 4) (hs : s < 32) (o : Int) : ∀ t, t ≤ 32 → inT a b s o t = inTT a b s o t
  | 0, _ => rfl
  | t + 1, h => by rw [inT, inTT, inTT_eq ha hb hs o t (by omega), termT_eq ha hb hs (by omega)]
def outTT (a b : Nat) : Nat → Int
  | 0 => 0
  | s + 1 => inTT a b s (outTT a b s) (2 ^ (b - 1))
theorem outTT_eq {a b : Nat} (ha : 1 ≤ a ∧ a ≤ 6) (hb : 1 ≤ b ∧ b ≤ 4) : ∀ s, s ≤ 32 → outS a b s = outTT a b s
  | 0, _ => rfl
  | s + 1, h => by
    have h2 : 2 ^ (b - 1) ≤ 2 ^ 3 := Nat.pow_le_pow_right (by omega) (by omega)
    rw [outS, outTT, outTT_eq ha hb s (by omega), inTT_eq ha hb (by omega) _ _ (by omega)]
theorem num1 : ((List.range 5).all fun b => b == 0 || (List.range 7).all fun a => a == 0 || (decide (0 ≤ findZ a b 31 0 0) && findZ a b 31 0 0 == findZ b a 31 0 0)) = true := by decide +kernel
theorem num2 : ((List.range 5).all fun b => b == 0 || (List.range 7).all fun a => a == 0 || findZ a b 31 0 0 == outTT a b (2 ^ (a - 1))) = true := by decide +kernel
theorem flt_nums {a b : Nat} (ha : 1 ≤ a ∧ a ≤ 6) (hb : 1 ≤ b ∧ b ≤ 4) : 0 ≤ cffI a b ∧ cffI a b = fltlZ a b ∧ cffI a b = cffI b a := by
  have hab : a * b ≤ 6 * 4 := Nat.mul_le_mul ha.2 hb.2
  have hmul : (a : Int) * (b : Int) = ((a * b : Nat) : Int) := by simp
  have hmul2 : (b : Int) * (a : Int) = ((a * b : Nat) : Int) := by rw [Int.mul_comm]; simp
  have f1 : fewB a b = true := by unfold fewB; rw [Bool.and_eq_true, Bool.and_eq_true, inB_iff, inB_iff, decide_eq_true_eq, hmul]; omega
  have f2 : fewB b a = true := by unfold fewB; rw [Bool.and_eq_true, Bool.and_eq_true, inB_iff, inB_iff, decide_eq_true_eq, hmul2]; omega
  rw [cff_same, cff_same, if_pos f1, if_pos f2]
  unfold fltlZ
  rw [if_pos f1, Int.toNat_natCast, Int.toNat_natCast]
  have h32 : 2 ^ (a - 1) ≤ 2 ^ 5 := Nat.pow_le_pow_right (by omega) (by omega)
  rw [outTT_eq ha hb _ (by omega)]
  have n1 := List.all_eq_true.1 num1 b (by simp; omega)
  have n2 := List.all_eq_true.1 num2 b (by simp; omega)
  rw [Bool.or_eq_true, beq_iff_eq] at n1 n2
  have n1 := List.all_eq_true.1 (n1.resolve_left (by omega)) a (by simp; omega)
  have n2 := List.all_eq_true.1 (n2.resolve_left (by omega)) a (by simp; omega)
  rw [Bool.or_eq_true, beq_iff_eq, Bool.and_eq_true, decide_eq_true_eq, beq_iff_eq] at n1
  rw [Bool.or_eq_true, beq_iff_eq, beq_iff_eq] at n2
  have n1 := n1.resolve_left (by omega)
  exact ⟨n1.1, n2.resolve_left (by omega), n1.2⟩
theorem cff_56 : cffI ((5 : Nat) : Int) ((6 : Nat) : Int) = 6 := by
  have f1 : fewB ((5 : Nat) : Int) ((6 : Nat) : Int) = true := by decide
  unfold cffI
  rw [if_pos f1, Int.toNat_natCast, Int.toNat_natCast]
  exact cff56
end Go.Proofs.Ytehnbalbpfmijaa

namespace Go.Proofs.Ytehnbalbpfmijaa
open Go.RowKit

section
variable {α : Type} {E : El α} {P : Program}
theorem flat_back (h : ∀ x, (E.f x).length = E.s) (hs : 0 < E.s) (xs : List α) (k : Nat) (u : Value) (hu : (xs.flatMap E.f)[k]? = some u) : ∃ x, xs[k / E.s]? = some x ∧ (E.f x)[k % E.s]? = some u := by
  have hk : k < xs.length * E.s := by rw [← flat_length h]; exact (List.getElem?_eq_some_iff.1 hu).1
  have h1 : k / E.s < xs.length := (Nat.div_lt_iff_lt_mul hs).2 hk
  refine ⟨xs[k / E.s], List.getElem?_eq_getElem h1, ?_⟩
  have h2 := flat_get h xs (k / E.s) (k % E.s) _ (List.getElem?_eq_getElem h1) (Nat.mod_lt _ hs)
  rw [Nat.mul_comm, Nat.div_add_mod] at h2
  rw [← h2]; exact hu
theorem run_append_srcF (hE : E.Ok P) (w : World) (lo : Nat) (ty : TypeId) {v u : Value} {xs ys : List α} {B : Nat} (hown : OwnF E w lo v xs) (hu : RdF E w B u ys) (hl : xs.length + ys.length ≤ 1073741824) (hbase : lo ≤ w.heap.size) :
    ∃ v' w', (Builtin.append_ #[E.t, E.t] ty #[v, u]).run P w = .ok v' w' ∧ OwnF E w' lo v' (xs ++ ys) ∧ w.grownBy w' v.ownBlock ∧ (v'.ownBlock = v.ownBlock ∨ v'.ownBlock = some w.heap.size) := by
  obtain ⟨i, hi, hzz⟩ := Option.map_eq_some_iff.1 hE.info
  simp only [Prod.mk.injEq] at hzz
  obtain ⟨hz, hsz, hby⟩ := hzz
  obtain ⟨A, c, rfl, _, _, hr⟩ := hu
  have hgo : ∀ ad, (∀ j u, (ys.flatMap E.f)[j]? = some u → w.cell? (ad.add j) = some u) → ∃ v' w', (Builtin.append_ #[E.t, E.t] ty #[v, .slice (some ad) ys.length c]).run P w = .ok v' w' ∧ OwnF E w' lo v' (xs ++ ys) ∧ w.grownBy w' v.ownBlock ∧ (v'.ownBlock = v.ownBlock ∨ v'.ownBlock = some w.heap.size) := fun ad hcells => by
    have h5 := hE.few
    have h6 : (xs.length + ys.length) * E.b ≤ 1073741824 * 1024 := Nat.mul_le_mul hl h5
    obtain ⟨v', w', hrun, h2, h3, _, h5⟩ := run_append_own_at (P := P) w lo E.t ty E.e i E.z E.s E.b hE.und hi hz hsz hby hE.zs hE.pos v xs.length (xs.flatMap E.f) hown ad ys.length c (ys.flatMap E.f) (flat_length hE.len ys) hcells (fun u hu => by
      obtain ⟨y, _, hy⟩ := List.mem_flatMap.1 hu
      exact hE.one y u hy) (by unfold maxLen; omega) (by omega) hbase
    refine ⟨v', w', hrun, ?_, h3, h5⟩
    unfold OwnF; rw [List.length_append, List.flatMap_append]; exact h2
  cases ys with
  | nil =>
    cases A with
    | none => exact ⟨v, w, run_append_nilsrc w lo E.t ty E.e i E.s hE.und hi v xs.length _ hown c, by simpa using hown, World.grownBy.refl w _, .inl rfl⟩
    | some ad => exact hgo ad (fun j u hu => by simp at hu)
  | cons y ys =>
    obtain ⟨ad, rfl, _, _⟩ := hr 0 y rfl
    refine hgo ad fun j u hu => ?_
    obtain ⟨x, h1, h2⟩ := flat_back hE.len hE.pos (y :: ys) j u hu
    obtain ⟨ad', e, _, h3⟩ := hr _ x h1
    obtain rfl := Option.some.inj e
    have := h3 _ u h2
    rwa [Nat.mul_comm, Nat.div_add_mod] at this
def GrewS (wr w' : World) (v v' : Value) : Prop := wr.grownBy w' v.ownBlock ∧ (v'.ownBlock = v.ownBlock ∨ v'.ownBlock = some wr.heap.size)
theorem acc_src {w wr w' : World} {lo : Nat} {v v' : Value} {xs zs : List α} (H : Acc E w lo wr v xs) (h2 : OwnF E w' lo v' zs) (h3 : wr.grownBy w' v.ownBlock) : Acc E w lo w' v' zs := by
  obtain ⟨h1, h4, h5, h6⟩ := H
  exact ⟨h2, h4.grown h3 h4.size fun k hk => by have := (h1.lt k hk).1; omega, h5, by have := h3.size; omega⟩
theorem wpList_pushSrcF (hE : E.Ok P) {ops : Array Oper} {rest : List Oper} {o : Oper} {a : Act} {Q : Exit → Act → World → Prop} (hgd : o.guard = none) (s x : Operand)
    (ho : o.op = .call { callee := .builtin .append, args := #[s, x], argTypes := #[E.t, E.t] }) {w wr : World} {lo : Nat} {v : Value} {xs : List α} (H : Acc E w lo wr v xs) (hs : a.eval s = v)
    (ys : List α) (B : Nat) (u : Value) (hr : RdF E wr B u ys) (hx : a.eval x = u) (hl : xs.length + ys.length ≤ 1073741824)
    (h : ∀ v' w', Hid (Acc E w lo w' v' (xs ++ ys)) → Hid (GrewS wr w' v v') → wpList P ops Q rest (a.put o.dst v') w') :
    wpList P ops Q (o :: rest) a wr := by
  refine wpList_plain hgd fun K hK => ?_
  obtain ⟨v', w', hrun, h2, h3, h4⟩ := run_append_srcF hE wr lo o.type H.1 hr hl H.2.2.2
  unfold Oper.wp execOp
  simp only [ho, resolve, invoke, builtin, Sem.run_bind, Sem.run_pure, Result.andThen_ok, List.map_toArray, List.map_cons, List.map_nil, hs, hx, hrun]
  exact hK _ _ (h v' w' (acc_src H h2 h3) ⟨h3, h4⟩)
theorem step_pushSrcF (hE : E.Ok P) {ops : Array Oper} {o : Oper} {a : Act} {K : Act → World → Prop} {Q : Exit → Act → World → Prop} {X : Prop} (hgd : o.guard = none) (s x : Operand)
    (ho : o.op = .call { callee := .builtin .append, args := #[s, x], argTypes := #[E.t, E.t] }) {w wr : World} {lo : Nat} {v : Value} {xs : List α} (H : Acc E w lo wr v xs) (hs : a.eval s = v)
    (ys : List α) (B : Nat) (u : Value) (hr : RdF E wr B u ys) (hx : a.eval x = u) (hl : xs.length + ys.length ≤ 1073741824)
    (h : ∀ v' w', Hid (Acc E w lo w' v' (xs ++ ys)) → Hid (GrewS wr w' v v') → K (a.put o.dst v') w') :
    if Region.wanted o (yielded ops a.tmps) = true then Oper.wp P o a wr K Q else X := by
  have hw : Region.wanted o (yielded ops a.tmps) = true := by unfold Region.wanted; rw [hgd]
  rw [if_pos hw]
  obtain ⟨v', w', hrun, h2, h3, h4⟩ := run_append_srcF hE wr lo o.type H.1 hr hl H.2.2.2
  unfold Oper.wp execOp
  simp only [ho, resolve, invoke, builtin, Sem.run_bind, Sem.run_pure, Result.andThen_ok, List.map_toArray, List.map_cons, List.map_nil, hs, hx, hrun]
  exact h v' w' (acc_src H h2 h3) ⟨h3, h4⟩
end
end Go.Proofs.Ytehnbalbpfmijaa

namespace Go.Proofs.Ytehnbalbpfmijaa
open Go.RowKit
set_option linter.unusedVariables false

theorem OwnI.stow {w : World} {lo g n cap : Nat} {zs : List Int} (h : OwnI w lo (.slice (some ⟨g, 0, none⟩) n cap) zs) (hl : zs.length = n) (i : Nat) (z : Int) : OwnI (w.setCell ⟨g, i, none⟩ (.int .i64 z)) lo (.slice (some ⟨g, 0, none⟩) n cap) (zs.set i z) := by
  subst hl
  have hst := World.ownsRow.stored h i (.int .i64 z)
  unfold OwnI
  rw [List.length_set, List.map_set]
  exact hst.1
theorem OwnI.look {w : World} {lo g n cap : Nat} {zs : List Int} (h : OwnI w lo (.slice (some ⟨g, 0, none⟩) n cap) zs) (hl : zs.length = n) {i : Nat} (hi : i < n) : w.cell? ⟨g, i, none⟩ = some (.int .i64 (el zs i)) ∧ w.frozen? ⟨g, i, none⟩ = false := by
  subst hl
  refine ⟨?_, World.ownsRow.frozenAt h i⟩
  rw [World.ownsRow.cellAt h i (by omega), List.getElem?_map, List.getElem?_eq_getElem (by omega), el_get _ _ (by omega)]; rfl

theorem flat_intW (zs : List Int) : zs.flatMap elInt.f = zs.map (Value.int .i64) := by
  induction zs with
  | nil => rfl
  | cons z zs ih => rw [List.flatMap_cons, ih]; rfl
set_option maxRecDepth 100000 in
set_option maxHeartbeats 700000 in
theorem l03Copy_yes (v : Value) (zs : List Int) (B : Nat) (w : World) (h : RdI w B v zs) (hB : B ≤ w.heap.size) (hl : zs.length ≤ 8) :
    Calls Try.prog 176 #[.agg #[v]] w fun e w' => ∃ u, e = .returned (.agg #[u]) ∧ OwnI w' w.heap.size u zs ∧ Below w.heap.size w w' := by
  obtain ⟨A, c, rfl, g1, g2, hR⟩ := id h
  unfold maxLen at g2
  obtain ⟨W, hW, k0, k1, hb0⟩ := two_alloc w (.cells #[.slice A zs.length c] 39) (.cells #[.slice none 0 0] 39)
  have HK1 := Lib.hid k1
  have HB0 := Lib.hid hb0
  have hba : Below W.heap.size W (W.alloc (.cells #[] 3)) := (Below.refl _ _).alloc (Nat.le_refl _) _
  have c0 : (W.alloc (.cells #[] 3)).cell? ⟨w.heap.size, 0, none⟩ = some (.slice A zs.length c) := by rw [blk_cell (blk_below k0 hba)]; rfl
  have HACC : Hid (Acc elInt W W.heap.size (W.alloc (.cells #[] 3)) (.slice (some ⟨W.heap.size, 0, none⟩) 0 0) []) := Acc.start W
  have HRA : Hid (Rd (W.alloc (.cells #[] 3)) B A (zs.flatMap elInt.f)) := by
    have e := flat_intW zs
    unfold Hid
    rw [e]
    exact hR.below ((hb0.trans (hba.mono hb0.size)).mono hB)
  have HHL := Lib.hid hl
  clear h hR hl k0 k1 hb0 hba
  go_enter Try.func176, Try.ntmps176
  go_upto_region 1 with (fail)
  rw [← hW]
  clear hW
  go_wp2_with (at_builtin; refine wpList_pushSrc okInt rfl rfl _ _ rfl HACC.out rfl zs B A zs.length c HRA.out rfl rfl (by have := HHL.out; simp; omega) ?_; intro u1 w1 HA1 HG1; rw [List.nil_append] at HA1; have HKW := Lib.hid (blk_below HK1.out HA1.out.2.1); have f1 := free_of_one HKW.out; have d1 := cell_of_one HKW.out; have HO1 := Lib.hid (ownF_int.1 HA1.out.1); have HB1 := Lib.hid (HB0.out.trans (HA1.out.2.1.mono HB0.out.size)); obtain ⟨A1, c1, hu1, _⟩ := HO1.out.rd; subst hu1)
  have hlo := HO1.out.lt
  have hsz : w.heap.size + 1 < W.heap.size := lt_of_block HK1.out
  have k9 : (w1.setCell ⟨w.heap.size + 1, 0, none⟩ (.slice A1 zs.length c1)).heap[w.heap.size + 1]? = some (.cells #[.slice A1 zs.length c1] 39 (0, 0)) := (blk_setCell HKW.out _).trans (by simp)
  have r0 : (w1.setCell ⟨w.heap.size + 1, 0, none⟩ (.slice A1 zs.length c1)).cell? ⟨w.heap.size + 1, 0, none⟩ = some (.slice A1 zs.length c1) := cell_of_one k9
  have HN : Hid (OwnI (w1.setCell ⟨w.heap.size + 1, 0, none⟩ (.slice A1 zs.length c1)) w.heap.size (.slice A1 zs.length c1) zs) := (HO1.out.setCell (p := ⟨w.heap.size + 1, 0, none⟩) hsz _).mono (by omega)
  have HBN : Hid (Below w.heap.size w (w1.setCell ⟨w.heap.size + 1, 0, none⟩ (.slice A1 zs.length c1))) := HB1.out.setCell (Nat.le_succ _) _
  clear k9 hlo
  refine bodyPost_ret (v := .agg #[.slice A1 zs.length c1]) (by simp [results, Try.results176, go_sem, r0]) rfl ⟨_, rfl, HN.out, HBN.out⟩

/-- The rows, made eight. -/
def padZ (zs : List Int) (j : Nat) : List Int := zs ++ List.replicate j 0
/-- The rows without a cell. -/
def offRow (zs : List Int) (x y : Nat) : List Int := (padZ zs (8 - zs.length)).set y ((((el (padZ zs (8 - zs.length)) y).toNat ||| 2 ^ x) - 2 ^ x : Nat) : Int)
theorem padZ_el (zs : List Int) (j k : Nat) : el (padZ zs j) k = if k < zs.length then el zs k else 0 := by
  unfold padZ el
  rw [List.getD_eq_getElem?_getD, List.getD_eq_getElem?_getD, List.getElem?_append]
  by_cases h : k < zs.length
  · rw [if_pos h, if_pos h]
  · rw [if_neg h, if_neg h]
    by_cases h2 : k - zs.length < j
    · rw [List.getElem?_eq_getElem (by simpa using h2)]; simp
    · rw [List.getElem?_eq_none (by simp; omega)]; rfl

structure WB (w wr : World) (lo p6 pc m8 : Nat) (x y : Nat) (v : Value) (zs : List Int) : Prop where
  c6 : wr.heap[p6]? = some (.cells #[.slice none 0 0] 39 (0, 0))
  cc : wr.heap[pc]? = some (.cells #[.int .i64 (x : Int), .int .i64 (y : Int)] 44 (0, 0))
  c8 : wr.heap[m8]? = some (.cells #[v] 39 (0, 0))
  acc : Acc elInt w lo wr v zs
  ne : ∀ g, v.ownBlock = some g → g ≠ m8
  l6 : w.heap.size ≤ p6
  lc : w.heap.size ≤ pc
  h6 : p6 < lo
  hc : pc < lo
  l8 : lo ≤ m8
theorem WB.below {w wr w1 : World} {lo p6 pc m8 x y : Nat} {v : Value} {zs : List Int} (h : WB w wr lo p6 pc m8 x y v zs) (hb : Below wr.heap.size wr w1) : WB w w1 lo p6 pc m8 x y v zs :=
  ⟨blk_below h.c6 hb, blk_below h.cc hb, blk_below h.c8 hb, h.acc.below hb, h.ne, h.l6, h.lc, h.h6, h.hc, h.l8⟩
theorem WB.push {w wr w2 : World} {lo p6 pc m8 x y : Nat} {v v' : Value} {zs zs' : List Int} (h : WB w wr lo p6 pc m8 x y v zs) (HA : Acc elInt w lo w2 v' zs') (HG : Grew wr w2 v v') :
    WB w (w2.setCell ⟨m8, 0, none⟩ v') lo p6 pc m8 x y v' zs' ∧ ∃ u, w2.heap[m8]? = some (.cells #[u] 39 (0, 0)) := by
  obtain ⟨g1, g, g2, g3, g4⟩ := HG
  have h6 := h.h6
  have hc := h.hc
  have hl8 := h.l8
  have h8 := lt_of_block h.c8
  have hown := h.acc.1.lt
  have k6 : w2.heap[p6]? = _ := (g1.block p6 (by omega) fun e => by have := (hown p6 e.symm).1; omega).trans h.c6
  have kc : w2.heap[pc]? = _ := (g1.block pc (by omega) fun e => by have := (hown pc e.symm).1; omega).trans h.cc
  have k8 : w2.heap[m8]? = _ := (g1.block m8 h8 fun e => h.ne m8 e.symm rfl).trans h.c8
  have hg : g ≠ m8 := by
    rcases g3 with g3 | g3
    · exact h.ne g g3
    · omega
  have hw : w.heap.size ≤ m8 := Nat.le_trans h.acc.2.2.1 hl8
  refine ⟨⟨(Below.heap_setCell _ _ _ _ (by show p6 ≠ m8; omega)).trans k6, (Below.heap_setCell _ _ _ _ (by show pc ≠ m8; omega)).trans kc, (blk_setCell k8 _).trans (by simp), ⟨HA.1.same fun k hk => Below.heap_setCell _ _ _ _ ?_, HA.2.1.setCell hw _, HA.2.2.1, by simpa using HA.2.2.2⟩, fun k hk => ?_, h.l6, h.lc, h.h6, h.hc, h.l8⟩, ⟨_, k8⟩⟩
  · rw [g2] at hk
    obtain rfl := Option.some.inj hk
    exact hg
  · rw [g2] at hk
    obtain rfl := Option.some.inj hk
    exact hg
theorem WB.store {w wr : World} {lo p6 pc m8 x y g n cap : Nat} {zs : List Int} (h : WB w wr lo p6 pc m8 x y (.slice (some ⟨g, 0, none⟩) n cap) zs) (hl : zs.length = n) (i : Nat) (z : Int) :
    WB w (wr.setCell ⟨g, i, none⟩ (.int .i64 z)) lo p6 pc m8 x y (.slice (some ⟨g, 0, none⟩) n cap) (zs.set i z) := by
  have hg := h.acc.1.lt g rfl
  have hn := h.ne g rfl
  have h6 := h.h6
  have hc := h.hc
  have hw := h.acc.2.2.1
  exact ⟨(Below.heap_setCell _ _ _ _ (by show p6 ≠ g; omega)).trans h.c6, (Below.heap_setCell _ _ _ _ (by show pc ≠ g; omega)).trans h.cc, (Below.heap_setCell _ _ _ _ (by show m8 ≠ g; omega)).trans h.c8,
    ⟨ownF_int.2 ((ownF_int.1 h.acc.1).stow hl i z), h.acc.2.1.setCell (by show w.heap.size ≤ g; omega) _, hw, by simpa using h.acc.2.2.2⟩, h.ne, h.l6, h.lc, h.h6, h.hc, h.l8⟩
theorem shl_w (x : Nat) (hx : x ≤ 7) : wrap64 ((2 : Int) ^ x) = ((2 ^ x : Nat) : Int) ∧ IntKind.i64.wrap ((2 : Int) ^ x) = ((2 ^ x : Nat) : Int) ∧ 2 ^ x ≤ 128 := by
  have h : (2 ^ x : Nat) ≤ 2 ^ 7 := Nat.pow_le_pow_right (by omega) hx
  have e : ((2 : Int) ^ x) = ((2 ^ x : Nat) : Int) := by simp
  rw [e]
  generalize (2 ^ x : Nat) = p at *
  simp at h
  refine ⟨?_, IntWalk.i64_in _ (by omega), h⟩
  unfold wrap64
  omega
theorem i64_orW (a b : Nat) (ha : a < 4611686018427387904) (hb : b < 4611686018427387904) : bits .or .i64 (a : Int) (b : Int) = ((a ||| b : Nat) : Int) := by
  have hlt : a ||| b < 2 ^ 62 := Nat.or_lt_two_pow (by omega) (by omega)
  have ea : ((a : Int) % ((2 ^ 64 : Nat) : Int)).toNat = a := by omega
  have eb : ((b : Int) % ((2 ^ 64 : Nat) : Int)).toNat = b := by omega
  have key : (BitVec.ofInt 64 (a : Int) ||| BitVec.ofInt 64 (b : Int)).toNat = a ||| b := by
    rw [BitVec.toNat_or, BitVec.toNat_ofInt, BitVec.toNat_ofInt, ea, eb]
  show IntKind.i64.wrap ((BitVec.ofInt 64 (a : Int) ||| BitVec.ofInt 64 (b : Int)).toNat : Nat) = _
  rw [key, IntKind.wrap_i64]
  generalize a ||| b = q at *
  simp at hlt
  omega
theorem sub_w {ro q2 : Nat} (h : q2 ≤ ro) (h2 : ro ≤ 255) : IntKind.i64.wrap ((ro : Int) - (q2 : Int)) = ((ro - q2 : Nat) : Int) ∧ (ro : Int) - (q2 : Int) = ((ro - q2 : Nat) : Int) ∧ wrap64 ((ro - q2 : Nat) : Int) = ((ro - q2 : Nat) : Int) := by
  have e : (ro : Int) - (q2 : Int) = ((ro - q2 : Nat) : Int) := by omega
  exact ⟨by rw [e]; exact IntWalk.i64_in _ (by omega), e, by unfold wrap64; omega⟩
theorem or_at {r x : Nat} (hr : r ≤ 255) (hx : x ≤ 7) : bits .or .i64 (r : Int) ((2 ^ x : Nat) : Int) = ((r ||| 2 ^ x : Nat) : Int) ∧ r ||| 2 ^ x ≤ 255 ∧ 2 ^ x ≤ r ||| 2 ^ x := by
  have h : (2 ^ x : Nat) < 2 ^ 8 := Nat.pow_lt_pow_right (by omega) (by omega)
  have h2 := Nat.or_lt_two_pow (n := 8) (show r < 2 ^ 8 by omega) h
  refine ⟨i64_orW _ _ (by omega) (by omega), by omega, Nat.right_le_or⟩

set_option maxRecDepth 100000 in
set_option maxHeartbeats 700000 in
theorem WithCell_off (v : Value) (zs : List Int) (B : Nat) (w : World) (h : RdI w B v zs) (hB : B ≤ w.heap.size) (hok : regOkB zs = true) (x y : Nat) (hx : x ≤ 7) (hy : y ≤ 7) :
    Calls Try.prog 164 #[.agg #[v], spotV x y, .bool false] w fun e w' => ∃ u, e = .returned (.tuple #[.agg #[u], .bool true]) ∧ OwnI w' w.heap.size u (offRow zs x y) ∧ Below w.heap.size w w' := by
  have hl8 := regOk_len hok
  have hcok : spotB 7 (x : Int) (y : Int) = true := (spotB_iff _ _ _).2 ⟨by omega, by omega⟩
  have HCP := Lib.hid (fun V (hb : Below w.heap.size w V) => l03Copy_yes v zs B V (h.below (hb.mono hB)) (Nat.le_trans hB hb.size) hl8)
  have HRO := Lib.hid (fun V (hb : Below w.heap.size w V) => specRegionOk_yes v zs B V (h.below (hb.mono hB)) (Nat.le_trans hB hb.size) hok)
  have hpl : (padZ zs (8 - zs.length)).length = 8 := by unfold padZ; rw [List.length_append, List.length_replicate]; omega
  have hel : 0 ≤ el (padZ zs (8 - zs.length)) y ∧ el (padZ zs (8 - zs.length)) y ≤ 255 := by
    rw [padZ_el]
    split
    · exact regOk_el hok (by assumption)
    · omega
  obtain ⟨r, hr⟩ := Int.eq_ofNat_of_zero_le hel.1
  have hr255 : r ≤ 255 := by omega
  obtain ⟨ho1, ho2, ho3⟩ := or_at hr255 hx
  obtain ⟨hs1, hs2, hs3⟩ := shl_w x hx
  have HOR : Hid (offRow zs x y = ((padZ zs (8 - zs.length)).set y ((r ||| 2 ^ x : Nat) : Int)).set y (((r ||| 2 ^ x) - 2 ^ x : Nat) : Int)) := by
    unfold Hid offRow
    rw [hr, Int.toNat_natCast, List.set_set]
  rw [HOR.out]
  have HPZ : Hid (∀ j, padZ zs (j + 1) = padZ zs j ++ [0]) := fun j => by unfold padZ; rw [List.replicate_succ', List.append_assoc]
  have HP0 : Hid (padZ zs 0 = zs) := by unfold Hid padZ; simp
  have HPLN : Hid (∀ j, (padZ zs j).length = zs.length + j) := fun j => by unfold padZ; simp
  have HR := Lib.hid hr
  have HO1 := Lib.hid ho1
  obtain ⟨q2, HQ2⟩ : ∃ q2, Hid ((2 ^ x : Nat) = q2) := ⟨_, rfl⟩
  rw [HQ2.out] at hs1 hs2 hs3 HO1 ho2 ho3 ⊢
  obtain ⟨ro, HRO2⟩ : ∃ ro, Hid (r ||| q2 = ro) := ⟨_, rfl⟩
  rw [HRO2.out] at HO1 ho2 ho3 ⊢
  obtain ⟨hsb1, hsb2, hsb3⟩ := sub_w ho3 ho2
  have HW1 := Lib.hid hs1; have HW2 := Lib.hid hs2; have HSB1 := Lib.hid hsb1; have HSB2 := Lib.hid hsb2; have HSB3 := Lib.hid hsb3
  clear HQ2 HRO2 hel ho1 HOR hok hpl hs1 hs2 hsb1 hsb2 hsb3 hr
  obtain ⟨A, c, rfl, g1, g2, _⟩ := h
  unfold maxLen at g2
  obtain ⟨W, hW, k0, k1, k2, hb0⟩ := three_alloc w (.cells #[.slice A zs.length c] 39) (.cells #[.int .i64 (x : Int), .int .i64 (y : Int)] 44) (.cells #[.slice none 0 0] 39)
  have c0 : W.cell? ⟨w.heap.size, 0, none⟩ = some (.slice A zs.length c) := by rw [blk_cell k0]; rfl
  have HK0 := Lib.hid k0; have HK1 := Lib.hid k1; have HK2 := Lib.hid k2
  have HB0 := Lib.hid hb0
  have HWS : Hid (W.heap.size = w.heap.size + 3) := by unfold Hid; rw [hW]; simp
  go_enter Try.func164, Try.ntmps164
  go_upto_region 1 with (fail)
  rw [← hW]
  clear hW k0 k1 k2 hb0
  go_wp2_with fail
  refine (HCP.out W HB0.out).mono ?_
  rintro e w1 ⟨u1, rfl, ho1, hb1⟩
  have HB1 := Lib.hid (HB0.out.trans (hb1.mono HB0.out.size))
  obtain ⟨W2, hW2, k8, hb2⟩ := one_alloc w1 (.cells #[u1] 39)
  have HWB : Hid (WB w W2 W.heap.size (w.heap.size + 2) (w.heap.size + 1) w1.heap.size x y u1 (padZ zs 0)) := by
    have hs := hb1.size
    have hws := HWS.out
    unfold Hid
    rw [HP0.out]
    refine ⟨blk_below (blk_below HK2.out hb1) hb2, blk_below (blk_below HK1.out hb1) hb2, k8, ⟨ownF_int.2 (ho1.below hb2), HB1.out.trans (hb2.mono HB1.out.size), by omega, Nat.le_trans hs hb2.size⟩, fun g hg => ?_, by omega, by omega, by omega, by omega, hs⟩
    have := (ho1.lt g hg).2
    omega
  have HB2 := Lib.hid (HB1.out.trans (hb2.mono HB1.out.size))
  have d0 : W2.cell? ⟨w.heap.size, 0, none⟩ = some (.slice A zs.length c) := by rw [blk_cell (blk_below (blk_below HK0.out hb1) hb2)]; rfl
  have HW2 := Lib.hid hW2
  rw [hW2] at d0
  obtain ⟨A1, ca1, hu1, _⟩ := ho1.rd
  subst hu1
  clear hW2 k8 hb1 hb2 c0 ho1
  go_wp2_with fail
  rw [← HW2.out]
  clear d0 HW2
  refine (HRO.out W2 HB2.out).mono ?_
  rintro e w3 ⟨rfl, hb3⟩
  have HWB3 := Lib.hid (HWB.out.below hb3)
  have HB3 := Lib.hid (HB2.out.trans (hb3.mono HB2.out.size))
  have e0 : w3.cell? ⟨w.heap.size + 1, 0, none⟩ = some (.int .i64 (x : Int)) := by rw [blk_cell HWB3.out.cc]; rfl
  have e1 : w3.cell? ⟨w.heap.size + 1, 1, none⟩ = some (.int .i64 (y : Int)) := by rw [blk_cell HWB3.out.cc]; rfl
  clear hb3
  go_wp2_with fail
  refine (specCellOk_any _ _ _).mono ?_
  rintro e w4 ⟨rfl, hb4⟩
  rw [hcok]
  have HWB4 := Lib.hid (HWB3.out.below hb4)
  clear hb4 e0 e1
  go_wp2_with fail
  go_loopg [] (8 - zs.length) (fun gk wr => ∃ (j : Nat) (u : Value), gk + j = 8 - zs.length ∧ Hid (WB w wr W.heap.size (w.heap.size + 2) (w.heap.size + 1) w1.heap.size x y u (padZ zs j)))
  case atStart => exact ⟨0, _, by omega, HWB4⟩
  case round =>
    obtain ⟨j, u, hj, HQ⟩ := hrel
    by_cases hlt : zs.length + j < 8
    · obtain ⟨Au, cu, hu, q1, q2, _⟩ := HQ.out.acc.1.rd okInt
      subst hu
      unfold maxLen at q2
      have m8 := cell_of_one HQ.out.c8
      have ht : decide (((padZ zs j).length : Int) < 8) = true := by simp only [decide_eq_true_eq]; have := HPLN.out j; omega
      have hps : (padZ zs j).length ≤ 8 := by have := HPLN.out j; omega
      have HPJ := Lib.hid (HPZ.out j)
      generalize padZ zs j = ps at *
      go_wp2_with (at_builtin; refine wpList_push okInt rfl _ _ rfl HQ.out.acc rfl (0 : Int) _ rfl _ rfl rfl (by omega) ?_; intro v10 w10 HA10 HG10; obtain ⟨A10, k10, hv10, _⟩ := HA10.out.1.rd okInt; rw [show (ps ++ [(0 : Int)]).length = ps.length + 1 by simp] at hv10; subst hv10; have HP10 := Lib.hid (HQ.out.push HA10.out HG10.out); obtain ⟨u9, hk9⟩ := HP10.out.2; have ck := cell_of_one hk9; have fk := free_of_one hk9; clear hk9)
      go_roundg (gk - 1)
      case measure => omega
      case rel => exact ⟨j + 1, _, by omega, by rw [HPJ.out]; exact HP10.out.1⟩
    · obtain rfl : gk = 0 := by omega
      obtain rfl : j = 8 - zs.length := by omega
      have HLN : Hid ((padZ zs (8 - zs.length)).length = 8) := by unfold Hid; rw [HPLN.out]; omega
      have ht : decide (((padZ zs (8 - zs.length)).length : Int) < 8) = false := by rw [HLN.out]; rfl
      have ho := ownF_int.1 HQ.out.acc.1
      have hps : (padZ zs (8 - zs.length)).length ≤ 8 := Nat.le_of_eq HLN.out
      obtain ⟨gg, cgg, hv1, hgb, hglt⟩ := World.ownsRow.form ho (by rw [HLN.out]; omega)
      subst hv1
      have m8 := cell_of_one HQ.out.c8
      obtain ⟨e0, fr⟩ := ho.look (i := y) rfl (by rw [HLN.out]; omega)
      rw [HR.out] at e0
      have xc0 : wr.cell? ⟨w.heap.size + 1, 0, none⟩ = some (.int .i64 (x : Int)) := by rw [blk_cell HQ.out.cc]; rfl
      have xc1 : wr.cell? ⟨w.heap.size + 1, 1, none⟩ = some (.int .i64 (y : Int)) := by rw [blk_cell HQ.out.cc]; rfl
      have hy0 : (0 : Int) ≤ (y : Int) := by omega
      have hy1 : (y : Int) < ((padZ zs (8 - zs.length)).length : Int) := by rw [HLN.out]; omega
      have hx0 : (0 : Int) ≤ (x : Int) := by omega
      have hx1 : (x : Int) < 64 := by omega
      have hw1 := HW1.out; have hw2 := HW2.out; have hor := HO1.out
      clear ho hlt
      generalize hps0 : padZ zs (8 - zs.length) = ps at *
      have HPS := Lib.hid hps0
      clear hps0
      go_wp2_with fail
      go_still_tail 15, (by kernel_rfl)
      change wpList _ _ _ _ _ wr.drew
      have HQd := Lib.hid (HQ.out.below (Below.refl wr.heap.size wr).drew)
      clear m8 e0 fr xc0 xc1 hor HQ
      generalize wr.drew = V at *
      obtain ⟨_, fr⟩ := (ownF_int.1 HQd.out.acc.1).look (i := y) rfl (by omega)
      go_wp2_with fail
      have HQ6 := Lib.hid (HQd.out.store rfl y (ro : Int))
      have HL6 : Hid ((ps.set y (ro : Int)).length = ps.length) := List.length_set
      have HE6 : Hid (el (ps.set y (ro : Int)) y = (ro : Int)) := by unfold Hid el; rw [List.getD_eq_getElem?_getD, List.getElem?_set_self (by omega)]; rfl
      generalize V.setCell ⟨gg, y, none⟩ (.int .i64 (ro : Int)) = V6 at *
      clear fr HQd
      obtain ⟨e6, fr6⟩ := (ownF_int.1 HQ6.out.acc.1).look (i := y) HL6.out (by omega)
      rw [HE6.out] at e6
      have m8 := cell_of_one HQ6.out.c8
      have xc0 : V6.cell? ⟨w.heap.size + 1, 0, none⟩ = some (.int .i64 (x : Int)) := by rw [blk_cell HQ6.out.cc]; rfl
      have xc1 : V6.cell? ⟨w.heap.size + 1, 1, none⟩ = some (.int .i64 (y : Int)) := by rw [blk_cell HQ6.out.cc]; rfl
      have hsb1 := HSB1.out; have hsb2 := HSB2.out; have hsb3 := HSB3.out
      go_still_tail 15, (by kernel_rfl)
      change wpList _ _ _ _ _ V6.drew
      have HQ7 := Lib.hid (HQ6.out.below (Below.refl V6.heap.size V6).drew)
      clear m8 e6 fr6 xc0 xc1 HQ6
      generalize V6.drew = V7 at *
      obtain ⟨_, fr7⟩ := (ownF_int.1 HQ7.out.acc.1).look (i := y) HL6.out (by omega)
      have HQ8 := Lib.hid (HQ7.out.store HL6.out y ((ro - q2 : Nat) : Int))
      obtain ⟨V8, HV8⟩ : ∃ V8, Hid (V8 = V7.setCell ⟨gg, y, none⟩ (.int .i64 ((ro - q2 : Nat) : Int))) := ⟨_, rfl⟩
      rw [← HV8.out] at HQ8
      have m8 := cell_of_one HQ8.out.c8
      have m6 := cell_of_one HQ8.out.c6
      have f6 := free_of_one HQ8.out.c6
      rw [HV8.out] at m8 m6 f6
      go_wp2_with fail
      rw [← HV8.out]
      have k9 : (V8.setCell ⟨w.heap.size + 1 + 1, 0, none⟩ (.slice (some ⟨gg, 0, none⟩) ps.length cgg)).heap[w.heap.size + 1 + 1]? = some (.cells #[.slice (some ⟨gg, 0, none⟩) ps.length cgg] 39 (0, 0)) := (blk_setCell HQ8.out.c6 _).trans (by simp)
      have r0 : (V8.setCell ⟨w.heap.size + 1 + 1, 0, none⟩ (.slice (some ⟨gg, 0, none⟩) ps.length cgg)).cell? ⟨w.heap.size + 1 + 1, 0, none⟩ = some (.slice (some ⟨gg, 0, none⟩) ps.length cgg) := cell_of_one k9
      have HN := Lib.hid ((ownF_int.1 HQ8.out.acc.1).setCell (p := ⟨w.heap.size + 1 + 1, 0, none⟩) (by have := HWS.out; show w.heap.size + 1 + 1 < _; omega) (.slice (some ⟨gg, 0, none⟩) ps.length cgg))
      have HBN := Lib.hid (HQ8.out.acc.2.1.setCell (p := ⟨w.heap.size + 1 + 1, 0, none⟩) (by show w.heap.size ≤ w.heap.size + 1 + 1; omega) (.slice (some ⟨gg, 0, none⟩) ps.length cgg))
      clear k9 m8 m6 f6
      refine bodyPost_ret (v := .tuple #[.agg #[.slice (some ⟨gg, 0, none⟩) ps.length cgg], .bool true]) (by simp [results, Try.results164, go_sem, r0]) rfl ⟨_, rfl, ?_, HBN.out⟩
      rw [HPS.out]
      exact HN.out.mono (by have := HWS.out; omega)
end Go.Proofs.Ytehnbalbpfmijaa

namespace Go.Proofs.Ytehnbalbpfmijaa
open Go.RowKit
set_option linter.unusedVariables false

/-- The rows without a domino across. -/
def offDom (zs : List Int) (x y : Nat) : List Int := offRow (offRow zs x y) (x + 1) y
set_option maxRecDepth 100000 in
set_option maxHeartbeats 1000000 in
theorem CountWith_yes (v : Value) (zs : List Int) (B : Nat) (w : World) (h : RdI w B v zs) (hB : B ≤ w.heap.size) (hok : regOkB zs = true) (x y : Nat) (hx : x ≤ 6) (hy : y ≤ 7) (hok1 : regOkB (offRow zs x y) = true) (hok2 : regOkB (offDom zs x y) = true) (ha : hasB (setZ zs) x y = true) (hb : hasB (setZ zs) (x + 1) y = true) :
    Calls Try.prog 163 #[.agg #[v], triV (x : Int) (y : Int) false] w fun e w' => e = .returned (.int .i64 (profZ (setZ (offDom zs x y)))) ∧ Below w.heap.size w w' := by
  have hdm : domB (x : Int) (y : Int) false = true := (domB_iff _ _ _).2 ⟨by omega, by simp; omega⟩
  have hsx : sndX (x : Int) false = ((x + 1 : Nat) : Int) := by unfold sndX; simp; unfold wrap64; omega
  have hsy : sndY (y : Int) false = (y : Int) := by unfold sndY; simp
  have HDO := Lib.hid (fun V => specDominoOk_any (x : Int) (y : Int) false V)
  have HCU := Lib.hid (fun V => CellsUnder_yes (x : Int) (y : Int) false V hdm)
  rw [hsx, hsy] at HCU
  rw [hdm] at HDO
  have HH1 := Lib.hid (fun V (hV : Below w.heap.size w V) => HasCell_yes v zs B V (h.below (hV.mono hB)) (Nat.le_trans hB hV.size) hok x y (by omega) hy)
  have HH2 := Lib.hid (fun V (hV : Below w.heap.size w V) => HasCell_yes v zs B V (h.below (hV.mono hB)) (Nat.le_trans hB hV.size) hok (x + 1) y (by omega) hy)
  rw [ha] at HH1
  rw [hb] at HH2
  have HW1 := Lib.hid (fun V (hV : Below w.heap.size w V) => WithCell_off v zs B V (h.below (hV.mono hB)) (Nat.le_trans hB hV.size) hok x y (by omega) hy)
  have HW2 := Lib.hid (fun u V (hu : RdI V V.heap.size u (offRow zs x y)) => WithCell_off u (offRow zs x y) V.heap.size V hu (Nat.le_refl _) hok1 (x + 1) y (by omega) hy)
  have HOD : Hid (offRow (offRow zs x y) (x + 1) y = offDom zs x y) := rfl
  rw [HOD.out] at HW2
  have HLC := Lib.hid (fun u V (hu : RdI V V.heap.size u (offDom zs x y)) => l07Count_yes u (offDom zs x y) V.heap.size V hu (Nat.le_refl _) hok2)
  obtain ⟨A, c, rfl, g1, g2, _⟩ := h
  unfold maxLen at g2
  clear hdm hsx hsy hok hok1 hok2 ha hb HOD
  generalize profZ (setZ (offDom zs x y)) = p at *
  generalize offDom zs x y = zs2 at *
  generalize offRow zs x y = zs1 at *
  obtain ⟨X, HX⟩ : ∃ X : Int, Hid ((x : Int) = X) := ⟨_, rfl⟩
  obtain ⟨X1, HX1⟩ : ∃ X1 : Int, Hid (((x + 1 : Nat) : Int) = X1) := ⟨_, rfl⟩
  obtain ⟨Y, HY⟩ : ∃ Y : Int, Hid ((y : Int) = Y) := ⟨_, rfl⟩
  rw [HX.out, HY.out] at HDO HCU HH1 HW1 ⊢
  rw [HX1.out] at HCU
  rw [HX1.out, HY.out] at HH2 HW2
  obtain ⟨W, hW, k0, k1, hb0⟩ := two_alloc w (.cells #[.slice A zs.length c] 39) (triO X Y false 46)
  have HK0 := Lib.hid k0; have HK1 := Lib.hid k1
  have HB0 := Lib.hid hb0
  have c0 : W.cell? ⟨w.heap.size, 0, none⟩ = some (.slice A zs.length c) := by rw [blk_cell k0]; rfl
  have c1 : W.cell? ⟨w.heap.size + 1, 0, none⟩ = some (.int .i64 X) := by rw [blk_cell k1]; rfl
  have c2 : W.cell? ⟨w.heap.size + 1, 1, none⟩ = some (.int .i64 Y) := by rw [blk_cell k1]; rfl
  have c3 : W.cell? ⟨w.heap.size + 1, 2, none⟩ = some (.bool false) := by rw [blk_cell k1]; rfl
  go_enter Try.func163, Try.ntmps163
  go_upto_region 1 with (fail)
  rw [← hW]
  clear hW k0 k1 hb0
  go_wp2_with fail
  refine (HDO.out W).mono ?_
  rintro e w1 ⟨rfl, hb1⟩
  have HB1 := Lib.hid (HB0.out.trans (hb1.mono HB0.out.size))
  have HK01 := Lib.hid (blk_below HK0.out hb1); have HK11 := Lib.hid (blk_below HK1.out hb1)
  have d1 : w1.cell? ⟨w.heap.size + 1, 0, none⟩ = some (.int .i64 X) := by rw [blk_cell HK11.out]; rfl
  have d2 : w1.cell? ⟨w.heap.size + 1, 1, none⟩ = some (.int .i64 Y) := by rw [blk_cell HK11.out]; rfl
  have d3 : w1.cell? ⟨w.heap.size + 1, 2, none⟩ = some (.bool false) := by rw [blk_cell HK11.out]; rfl
  clear hb1 c0 c1 c2 c3
  go_wp2_with fail
  refine (HCU.out w1).mono ?_
  rintro e w2 ⟨rfl, hb2⟩
  have HB2 := Lib.hid (HB1.out.trans (hb2.mono HB1.out.size))
  have HK02 := Lib.hid (blk_below HK01.out hb2)
  obtain ⟨V2, hV2, p1, p2, hbv2⟩ := two_alloc w2 (.cells #[.int .i64 X, .int .i64 Y] 44) (.cells #[.int .i64 X1, .int .i64 Y] 44)
  have HBV2 := Lib.hid (HB2.out.trans (hbv2.mono HB2.out.size))
  have HKV2 := Lib.hid (blk_below HK02.out hbv2)
  have HP1 := Lib.hid p1; have HP2 := Lib.hid p2
  have e0 : V2.cell? ⟨w.heap.size, 0, none⟩ = some (.slice A zs.length c) := by rw [blk_cell HKV2.out]; rfl
  have e1 : V2.cell? ⟨w2.heap.size, 0, none⟩ = some (.int .i64 X) := by rw [blk_cell p1]; rfl
  have e2 : V2.cell? ⟨w2.heap.size, 1, none⟩ = some (.int .i64 Y) := by rw [blk_cell p1]; rfl
  have HV2 := Lib.hid hV2
  rw [hV2] at e0 e1 e2
  clear hV2 p1 p2 hbv2 hb2 d1 d2 d3
  go_wp2_with fail
  rw [← HV2.out]
  clear e0 e1 e2 HV2
  refine (HH1.out V2 HBV2.out).mono ?_
  rintro e w3 ⟨rfl, hb3⟩
  have HB3 := Lib.hid (HBV2.out.trans (hb3.mono HBV2.out.size))
  have HK3 := Lib.hid (blk_below HKV2.out hb3)
  have HP13 := Lib.hid (blk_below HP1.out hb3); have HP23 := Lib.hid (blk_below HP2.out hb3)
  have e0 : w3.cell? ⟨w.heap.size, 0, none⟩ = some (.slice A zs.length c) := by rw [blk_cell HK3.out]; rfl
  have e1 : w3.cell? ⟨w2.heap.size + 1, 0, none⟩ = some (.int .i64 X1) := by rw [blk_cell HP23.out]; rfl
  have e2 : w3.cell? ⟨w2.heap.size + 1, 1, none⟩ = some (.int .i64 Y) := by rw [blk_cell HP23.out]; rfl
  clear hb3
  go_wp2_with fail
  refine (HH2.out w3 HB3.out).mono ?_
  rintro e w4 ⟨rfl, hb4⟩
  have HB4 := Lib.hid (HB3.out.trans (hb4.mono HB3.out.size))
  have HK4 := Lib.hid (blk_below HK3.out hb4)
  have HP14 := Lib.hid (blk_below HP13.out hb4); have HP24 := Lib.hid (blk_below HP23.out hb4)
  clear hb4 e0 e1 e2
  have e0 : w4.cell? ⟨w.heap.size, 0, none⟩ = some (.slice A zs.length c) := by rw [blk_cell HK4.out]; rfl
  have e1 : w4.cell? ⟨w2.heap.size, 0, none⟩ = some (.int .i64 X) := by rw [blk_cell HP14.out]; rfl
  have e2 : w4.cell? ⟨w2.heap.size, 1, none⟩ = some (.int .i64 Y) := by rw [blk_cell HP14.out]; rfl
  go_wp2_with fail
  refine (HW1.out w4 HB4.out).mono ?_
  rintro e w5 ⟨u5, rfl, ho5, hb5⟩
  have hr5 := ho5.rd
  clear ho5
  have HB5 := Lib.hid (HB4.out.trans (hb5.mono HB4.out.size))
  have HP25 := Lib.hid (blk_below HP24.out hb5)
  obtain ⟨V6, hV6, k6, hb6⟩ := one_alloc w5 (.cells #[u5] 39)
  have HB6 := Lib.hid (HB5.out.trans (hb6.mono HB5.out.size))
  have HP26 := Lib.hid (blk_below HP25.out hb6)
  have HR6 := Lib.hid ((hr5.below hb6).more hb6.size)
  have m0 : V6.cell? ⟨w5.heap.size, 0, none⟩ = some u5 := by rw [blk_cell k6]; rfl
  have m1 : V6.cell? ⟨w2.heap.size + 1, 0, none⟩ = some (.int .i64 X1) := by rw [blk_cell HP26.out]; rfl
  have m2 : V6.cell? ⟨w2.heap.size + 1, 1, none⟩ = some (.int .i64 Y) := by rw [blk_cell HP26.out]; rfl
  have HV6 := Lib.hid hV6
  rw [hV6] at m0 m1 m2
  obtain ⟨A5, c5, rfl, _, _, _⟩ := hr5
  clear hV6 k6 hb6 hb5 e0 e1 e2
  go_wp2_with fail
  rw [← HV6.out]
  clear m0 m1 m2 HV6
  refine (HW2.out _ V6 HR6.out).mono ?_
  rintro e w7 ⟨u7, rfl, ho7, hb7⟩
  have hr7 := ho7.rd
  clear ho7
  have HB7 := Lib.hid (HB6.out.trans (hb7.mono HB6.out.size))
  obtain ⟨V8, hV8, k8, hb8⟩ := one_alloc w7 (.cells #[u7] 39)
  have HB8 := Lib.hid (HB7.out.trans (hb8.mono HB7.out.size))
  have HR8 := Lib.hid ((hr7.below hb8).more hb8.size)
  have m0 : V8.cell? ⟨w7.heap.size, 0, none⟩ = some u7 := by rw [blk_cell k8]; rfl
  have HV8 := Lib.hid hV8
  rw [hV8] at m0
  obtain ⟨A7, c7, rfl, _, _, _⟩ := hr7
  clear hV8 k8 hb8 hb7
  go_wp2_with fail
  rw [← HV8.out]
  clear m0 HV8
  refine (HLC.out _ V8 HR8.out).mono ?_
  rintro e w9 ⟨rfl, hb9⟩
  have HB9 := Lib.hid (HB8.out.trans (hb9.mono HB8.out.size))
  clear hb9
  go_wp2_with fail
  go_ret
  exact ⟨rfl, HB9.out⟩
end Go.Proofs.Ytehnbalbpfmijaa

namespace Go.Proofs.Ytehnbalbpfmijaa
open Go.RowKit
set_option linter.unusedVariables false

theorem NN.put_el {nx : List Int} {j : Nat} {n : Int} (h : NN nx) (hn : 0 ≤ n) (hs : nx.sum + n ≤ 1099511627776) (i : Nat) : el nx i ≤ el (putZ nx j n) i ∧ (j < nx.length → i = j → n ≤ el (putZ nx j n) i) := by
  have h1 := h.atk j
  have h2 := h.le j
  have hw : wrap64 (el nx j + n) = el nx j + n := by unfold wrap64; omega
  unfold putZ
  rw [hw, el_set']
  by_cases e : i = j ∧ j < nx.length
  · rw [if_pos e, e.1]
    exact ⟨by omega, fun _ _ => by omega⟩
  · rw [if_neg e]
    exact ⟨Int.le_refl _, fun h1 h2 => absurd ⟨h2, h1⟩ e⟩
theorem NN.in_el {h b r : Bool} {x k : Nat} {n : Int} {nx : List Int} (hx : NN nx) (hn : 0 ≤ n) (hs : nx.sum + 2 * n ≤ 1099511627776) (i : Nat) : el nx i ≤ el (inZ h b r x n k nx) i := by
  have p1 := fun j => hx.put (j := j) hn (by omega)
  have p2 := fun j => (hx.put_el (j := j) hn (by omega) i).1
  unfold inZ
  by_cases h0 : n = 0
  · rw [if_pos h0]; exact Int.le_refl _
  · rw [if_neg h0]
    split
    · split
      · exact p2 _
      · split
        · split
          · refine Int.le_trans (p2 (k ||| 2 ^ x)) ?_
            exact ((p1 (k ||| 2 ^ x)).1.put_el hn (by have := (p1 (k ||| 2 ^ x)).2; omega) i).1
          · exact p2 _
        · split
          · exact p2 _
          · exact Int.le_refl _
    · split
      · exact Int.le_refl _
      · exact p2 _
/-- Where a state goes if a domino across is laid wherever one can be. -/
def nxtS (h r : Bool) (x k : Nat) : Option Nat :=
  if h then (if k.testBit x then some (k - 2 ^ x) else if r && !k.testBit (x + 1) then some (k ||| 2 ^ (x + 1)) else none)
  else if k.testBit x then none else some k
theorem NN.in_at {h b r : Bool} {x k s : Nat} {n : Int} {nx : List Int} (hx : NN nx) (hn : 0 < n) (hs : nx.sum + 2 * n ≤ 1099511627776) (hk : nxtS h r x k = some s) (hl : s < nx.length) : n ≤ el (inZ h b r x n k nx) s := by
  have p1 := fun j => hx.put (j := j) (n := n) (by omega) (by omega)
  have p2 := fun j => (hx.put_el (j := j) (n := n) (by omega) (by omega) s).2
  unfold nxtS at hk
  unfold inZ
  rw [if_neg (by omega)]
  cases h
  · simp only [Bool.false_eq_true, if_false] at hk ⊢
    cases hb : k.testBit x
    · rw [hb] at hk
      simp only [Bool.false_eq_true, if_false, Option.some.injEq] at hk ⊢
      exact p2 k (by rw [hk]; exact hl) hk.symm
    · rw [hb] at hk; simp at hk
  · simp only [if_true] at hk ⊢
    cases hb : k.testBit x
    · rw [hb] at hk
      simp only [Bool.false_eq_true, if_false] at hk ⊢
      cases hr : (r && !k.testBit (x + 1))
      · rw [hr] at hk; simp at hk
      · rw [hr] at hk
        simp only [if_true, Option.some.injEq] at hk ⊢
        split
        · refine ((p1 (k ||| 2 ^ x)).1.put_el (n := n) (by omega) (by have := (p1 (k ||| 2 ^ x)).2; omega) s).2 (by rw [putZ_len, hk]; exact hl) hk.symm
        · exact p2 _ (by rw [hk]; exact hl) hk.symm
    · rw [hb] at hk
      simp only [if_true, Option.some.injEq] at hk ⊢
      exact p2 _ (by rw [hk]; exact hl) hk.symm
theorem NN.step_at (h b r : Bool) (x : Nat) {zs : List Int} (hz : NN zs) (hs : zs.sum ≤ 274877906944) {k s : Nat} (hk : nxtS h r x k = some s) (hl : s < 256) (hp : 0 < el zs k) : ∀ m, k < m → el zs k ≤ el (stepTo h b r x zs m) s
  | 0, h0 => by omega
  | m + 1, hm => by
    obtain ⟨h1, h2⟩ := NN.step h b r x hz hs m
    have h4 := sum_take_le hz (m + 1)
    have h3 := sum_take zs m
    have h5 := hz.atk m
    have h9 : 0 ≤ (zs.take m).sum := NN.sum fun x hx => hz x (List.mem_of_mem_take hx)
    have hc : cF h * (zs.take m).sum ≤ 2 * (zs.take m).sum := by cases h <;> simp [cF] <;> omega
    rw [stepTo]
    rcases Nat.lt_succ_iff_lt_or_eq.1 hm with hm | rfl
    · exact Int.le_trans (NN.step_at h b r x hz hs hk hl hp m hm) (h1.in_el h5 (by omega) s)
    · exact h1.in_at hp (by omega) hk (by rw [stepTo_len]; exact hl)
/-- The states on the way, from a cell on. -/
def wayB (T : Nat) : Nat → Nat → Nat → Bool
  | 0, i, s => decide (i = 64) && decide (s = 0)
  | f + 1, i, s => match nxtS (hasC T (i % 8) (i / 8)) (hasC T (i % 8 + 1) (i / 8)) (i % 8) s with
    | none => false
    | some s' => decide (s' < 256) && wayB T f (i + 1) s'
theorem way_pos (T : Nat) (hT : nCell T 64 ≤ 37) : ∀ (f i s : Nat), wayB T f i s = true → i + f = 64 → 0 < el (profTo T i) s → 0 < profZ T
  | 0, i, s, h, hf, hp => by
    rw [wayB, Bool.and_eq_true, decide_eq_true_eq, decide_eq_true_eq] at h
    obtain ⟨rfl, rfl⟩ := h
    exact hp
  | f + 1, i, s, h, hf, hp => by
    have hmono : ∀ d, nCell T i ≤ nCell T (i + d) := fun d => by
      induction d with
      | zero => exact Nat.le_refl _
      | succ d ih => rw [← Nat.add_assoc, nCell]; omega
    have hc : nCell T i ≤ 37 := by
      have := hmono (f + 1)
      rw [hf] at this; omega
    obtain ⟨h1, h2⟩ := NN.prof T i hc
    have hpw : (2 : Int) ^ nCell T i ≤ 2 ^ 37 := by
      have := Nat.pow_le_pow_right (n := 2) (by omega) hc
      exact_mod_cast this
    rw [wayB] at h
    split at h
    · simp at h
    · rename_i s' hs'
      rw [Bool.and_eq_true, decide_eq_true_eq] at h
      have hst := NN.step_at _ (hasC T (i % 8) (i / 8 + 1)) _ _ h1 (by omega) hs' h.1 hp 256 (by
        rcases Nat.lt_or_ge s 256 with g | g
        · exact g
        · rw [show el (profTo T i) s = 0 by unfold el; rw [List.getD_eq_getElem?_getD, List.getElem?_eq_none (by rw [profTo_len]; exact g)]; rfl] at hp
          omega)
      refine way_pos T hT f (i + 1) s' h.2 (by omega) ?_
      rw [profTo]
      omega
theorem way_some {T : Nat} (hT : (decide (nCell T 64 ≤ 37) && wayB T 64 0 0) = true) : profZ T ≠ 0 := by
  rw [Bool.and_eq_true, decide_eq_true_eq] at hT
  have := way_pos T hT.1 64 0 0 hT.2 rfl (by show 0 < el (zeros.set 0 1) 0; decide +kernel)
  omega
end Go.Proofs.Ytehnbalbpfmijaa
