/- The program's count of fault-free tilings is the reference's, at each size. -/
import Derived.Test.YtiecphhenpapoaaCff56
import Derived.Test.YtiecphhenpapoaaCff65
import Derived.Test.YtiecphhenpapoaaCff46
import Derived.Test.YtiecphhenpapoaaFindS
namespace Go.Proofs.Ytiecphhenpapoaa
open Go.RowKit
set_option linter.unusedVariables false
set_option maxRecDepth 100000

def CffAt (a b : Nat) : Prop := cntE (iffB (a : Int) (b : Int)) 61 (setZ (rectZ a b)) [] 0 = findZ a b 31 0 0

theorem cffAt11 : CffAt 1 1 := show cntE (iffB ((1 : Nat) : Int) ((1 : Nat) : Int)) 61 (setZ (rectZ 1 1)) [] 0 = findZ 1 1 31 0 0 by decide +kernel
theorem cffAt12 : CffAt 1 2 := show cntE (iffB ((1 : Nat) : Int) ((2 : Nat) : Int)) 61 (setZ (rectZ 1 2)) [] 0 = findZ 1 2 31 0 0 by decide +kernel
theorem cffAt13 : CffAt 1 3 := show cntE (iffB ((1 : Nat) : Int) ((3 : Nat) : Int)) 61 (setZ (rectZ 1 3)) [] 0 = findZ 1 3 31 0 0 by decide +kernel
theorem cffAt14 : CffAt 1 4 := show cntE (iffB ((1 : Nat) : Int) ((4 : Nat) : Int)) 61 (setZ (rectZ 1 4)) [] 0 = findZ 1 4 31 0 0 by decide +kernel
theorem cffAt15 : CffAt 1 5 := show cntE (iffB ((1 : Nat) : Int) ((5 : Nat) : Int)) 61 (setZ (rectZ 1 5)) [] 0 = findZ 1 5 31 0 0 by decide +kernel
theorem cffAt16 : CffAt 1 6 := show cntE (iffB ((1 : Nat) : Int) ((6 : Nat) : Int)) 61 (setZ (rectZ 1 6)) [] 0 = findZ 1 6 31 0 0 by decide +kernel
theorem cffAt21 : CffAt 2 1 := show cntE (iffB ((2 : Nat) : Int) ((1 : Nat) : Int)) 61 (setZ (rectZ 2 1)) [] 0 = findZ 2 1 31 0 0 by decide +kernel
theorem cffAt22 : CffAt 2 2 := show cntE (iffB ((2 : Nat) : Int) ((2 : Nat) : Int)) 61 (setZ (rectZ 2 2)) [] 0 = findZ 2 2 31 0 0 by decide +kernel
theorem cffAt23 : CffAt 2 3 := show cntE (iffB ((2 : Nat) : Int) ((3 : Nat) : Int)) 61 (setZ (rectZ 2 3)) [] 0 = findZ 2 3 31 0 0 by decide +kernel
theorem cffAt24 : CffAt 2 4 := show cntE (iffB ((2 : Nat) : Int) ((4 : Nat) : Int)) 61 (setZ (rectZ 2 4)) [] 0 = findZ 2 4 31 0 0 by decide +kernel
theorem cffAt25 : CffAt 2 5 := show cntE (iffB ((2 : Nat) : Int) ((5 : Nat) : Int)) 61 (setZ (rectZ 2 5)) [] 0 = findZ 2 5 31 0 0 by decide +kernel
theorem cffAt26 : CffAt 2 6 := show cntE (iffB ((2 : Nat) : Int) ((6 : Nat) : Int)) 61 (setZ (rectZ 2 6)) [] 0 = findZ 2 6 31 0 0 by decide +kernel
theorem cffAt31 : CffAt 3 1 := show cntE (iffB ((3 : Nat) : Int) ((1 : Nat) : Int)) 61 (setZ (rectZ 3 1)) [] 0 = findZ 3 1 31 0 0 by decide +kernel
theorem cffAt32 : CffAt 3 2 := show cntE (iffB ((3 : Nat) : Int) ((2 : Nat) : Int)) 61 (setZ (rectZ 3 2)) [] 0 = findZ 3 2 31 0 0 by decide +kernel
theorem cffAt33 : CffAt 3 3 := show cntE (iffB ((3 : Nat) : Int) ((3 : Nat) : Int)) 61 (setZ (rectZ 3 3)) [] 0 = findZ 3 3 31 0 0 by decide +kernel
theorem cffAt34 : CffAt 3 4 := show cntE (iffB ((3 : Nat) : Int) ((4 : Nat) : Int)) 61 (setZ (rectZ 3 4)) [] 0 = findZ 3 4 31 0 0 by decide +kernel
theorem cffAt35 : CffAt 3 5 := show cntE (iffB ((3 : Nat) : Int) ((5 : Nat) : Int)) 61 (setZ (rectZ 3 5)) [] 0 = findZ 3 5 31 0 0 by decide +kernel
theorem cffAt36 : CffAt 3 6 := show cntE (iffB ((3 : Nat) : Int) ((6 : Nat) : Int)) 61 (setZ (rectZ 3 6)) [] 0 = findZ 3 6 31 0 0 by decide +kernel
theorem cffAt41 : CffAt 4 1 := show cntE (iffB ((4 : Nat) : Int) ((1 : Nat) : Int)) 61 (setZ (rectZ 4 1)) [] 0 = findZ 4 1 31 0 0 by decide +kernel
theorem cffAt42 : CffAt 4 2 := show cntE (iffB ((4 : Nat) : Int) ((2 : Nat) : Int)) 61 (setZ (rectZ 4 2)) [] 0 = findZ 4 2 31 0 0 by decide +kernel
theorem cffAt43 : CffAt 4 3 := show cntE (iffB ((4 : Nat) : Int) ((3 : Nat) : Int)) 61 (setZ (rectZ 4 3)) [] 0 = findZ 4 3 31 0 0 by decide +kernel
theorem cffAt44 : CffAt 4 4 := show cntE (iffB ((4 : Nat) : Int) ((4 : Nat) : Int)) 61 (setZ (rectZ 4 4)) [] 0 = findZ 4 4 31 0 0 by decide +kernel
theorem cffAt45 : CffAt 4 5 := show cntE (iffB ((4 : Nat) : Int) ((5 : Nat) : Int)) 61 (setZ (rectZ 4 5)) [] 0 = findZ 4 5 31 0 0 by decide +kernel
theorem cffAt46 : CffAt 4 6 := cff46.trans (by decide +kernel)
theorem cffAt51 : CffAt 5 1 := show cntE (iffB ((5 : Nat) : Int) ((1 : Nat) : Int)) 61 (setZ (rectZ 5 1)) [] 0 = findZ 5 1 31 0 0 by decide +kernel
theorem cffAt52 : CffAt 5 2 := show cntE (iffB ((5 : Nat) : Int) ((2 : Nat) : Int)) 61 (setZ (rectZ 5 2)) [] 0 = findZ 5 2 31 0 0 by decide +kernel
theorem cffAt53 : CffAt 5 3 := show cntE (iffB ((5 : Nat) : Int) ((3 : Nat) : Int)) 61 (setZ (rectZ 5 3)) [] 0 = findZ 5 3 31 0 0 by decide +kernel
theorem cffAt54 : CffAt 5 4 := show cntE (iffB ((5 : Nat) : Int) ((4 : Nat) : Int)) 61 (setZ (rectZ 5 4)) [] 0 = findZ 5 4 31 0 0 by decide +kernel
theorem cffAt55 : CffAt 5 5 := show cntE (iffB ((5 : Nat) : Int) ((5 : Nat) : Int)) 61 (setZ (rectZ 5 5)) [] 0 = findZ 5 5 31 0 0 by decide +kernel
theorem cffAt56 : CffAt 5 6 := cff56.trans (by decide +kernel)
theorem cffAt61 : CffAt 6 1 := show cntE (iffB ((6 : Nat) : Int) ((1 : Nat) : Int)) 61 (setZ (rectZ 6 1)) [] 0 = findZ 6 1 31 0 0 by decide +kernel
theorem cffAt62 : CffAt 6 2 := show cntE (iffB ((6 : Nat) : Int) ((2 : Nat) : Int)) 61 (setZ (rectZ 6 2)) [] 0 = findZ 6 2 31 0 0 by decide +kernel
theorem cffAt63 : CffAt 6 3 := show cntE (iffB ((6 : Nat) : Int) ((3 : Nat) : Int)) 61 (setZ (rectZ 6 3)) [] 0 = findZ 6 3 31 0 0 by decide +kernel
theorem cffAt64 : CffAt 6 4 := cff64.trans (by decide +kernel)
theorem cffAt65 : CffAt 6 5 := cff65.trans (by decide +kernel)
end Go.Proofs.Ytiecphhenpapoaa
