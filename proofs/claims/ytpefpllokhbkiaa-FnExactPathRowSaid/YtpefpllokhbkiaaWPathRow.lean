/- The walk of the law FnExactPathRow: it returns true. -/
import Derived.Test.YtpefpllokhbkiaaPathRowS
import Derived.Test.YtpefpllokhbkiaaEqSS
import Derived.Test.YtpefpllokhbkiaaMarkS
import Derived.Test.YtpefpllokhbkiaaGrown
namespace Go.Proofs.Ytpefpllokhbkiaa
open Go.RowKit

def prOut (b c : Int) (st : List Int) : List Int := if prB b c st then (prow c st st.length).1 else []
theorem prOut_len (b c : Int) (st : List Int) : (prOut b c st).length ≤ 3 := by
  unfold prOut
  split
  · rename_i h
    simp only [prB, Bool.and_eq_true] at h
    obtain ⟨_, _, _, hl⟩ := (rowB_iff _ _ _).1 h.1
    omega
  · simp
theorem pathRow_o (b c : Int) (u : Value) (st : List Int) (B : Nat) (w : World) (h : RdI w B u st) (hB : B ≤ w.heap.size) (hl : st.length ≤ 1048576) :
    Calls Try.prog 56 #[.int .i64 b, .int .i64 c, u] w fun e w' => ∃ v, e = .returned (.tuple #[v, .bool (prB b c st)]) ∧ OwnI w' w.heap.size v (prOut b c st) ∧ Below w.heap.size w w' :=
  (PathRow_any b c u st B w h hB hl).mono fun _ _ h => h
theorem specPathRow_o (b c : Int) (u : Value) (st : List Int) (B : Nat) (w : World) (h : RdI w B u st) (hB : B ≤ w.heap.size) (hl : st.length ≤ 1048576) :
    Calls Try.prog 55 #[.int .i64 b, .int .i64 c, u] w fun e w' => ∃ v, e = .returned (.tuple #[v, .bool (prB b c st)]) ∧ OwnI w' w.heap.size v (prOut b c st) ∧ Below w.heap.size w w' :=
  (specPathRow_any b c u st B w h hB hl).mono fun _ _ h => h

set_option maxHeartbeats 4000000 in
theorem walkPathRow (a0 : Int) (_ : (Lit.int .i64 a0).wf = true) (a1 : Int) (_ : (Lit.int .i64 a1).wf = true) (u : Value) (zs : List Int) (w : World) (hu : RdI w w.heap.size u zs) :
    Calls Try.prog 14 #[.int .i64 a0, .int .i64 a1, u] w fun e w' => e = .returned (.bool true) ∧ Below w.heap.size w w' := by
  have HU := Lib.hid hu
  obtain ⟨A, cp, rfl, h1, h2, h3⟩ := hu
  unfold maxLen at h2
  clear h3
  by_cases c1 : (1048576 : Int) < (zs.length : Int)
  · go_enter Try.func14, Try.ntmps14
    go_wp2_with fail
    go_ret
    exact ⟨rfl, Below.refl _ _⟩
  · have hlen := prOut_len a0 a1 zs
    have hne : ((1 : Int) + ((prOut a0 a1 zs).length : Int) != 1 + ((prOut a0 a1 zs).length : Int)) = false := by simp
    have hbb : (prB a0 a1 zs != prB a0 a1 zs) = false := by simp
    go_enter Try.func14, Try.ntmps14
    go_wp2_with fail
    refine (toIntS_any _ zs _ _ HU.out (Nat.le_refl _) (by omega)).mono ?_
    rintro e w1 ⟨v1, rfl, ho1, hb1⟩
    have hz1 := hb1.size
    have hq1 := hb1
    have hs1 := hq1.size
    have L1 := Lib.hid ho1.lt
    go_wp2_with fail
    refine (specPathRow_o _ _ _ zs _ _ ho1.rd (Nat.le_refl _) (by omega)).mono ?_
    rintro e w2 ⟨v2, rfl, ho2, hb2⟩
    have hz2 := hb2.size
    have hq2 := hq1.trans (hb2.mono hs1)
    have hs2 := hq2.size
    have ho1_2 := ho1.below hb2
    have L2 := Lib.hid ho2.lt
    go_wp2_with fail
    refine (toIntS_any _ zs _ _ (HU.out.below hq2) hs2 (by omega)).mono ?_
    rintro e w3 ⟨v3, rfl, ho3, hb3⟩
    have hz3 := hb3.size
    have hq3 := hq2.trans (hb3.mono hs2)
    have hs3 := hq3.size
    have ho2_3 := ho2.below hb3
    have L3 := Lib.hid ho3.lt
    go_wp2_with fail
    refine (pathRow_o _ _ _ zs _ _ ho3.rd (Nat.le_refl _) (by omega)).mono ?_
    rintro e w4 ⟨v4, rfl, ho4, hb4⟩
    have hz4 := hb4.size
    have hq4 := hq3.trans (hb4.mono hs3)
    have hs4 := hq4.size
    have ho2_4 := ho2_3.below hb4
    have ho3_4 := ho3.below hb4
    have L4 := Lib.hid ho4.lt
    go_wp2_with fail
    refine (eqIntS_self _ _ (prOut a0 a1 zs) _ _ _ ho4.rd ho2_4.rd).mono ?_
    rintro e w5 ⟨rfl, hd5⟩
    have hb5 := hd5.below w4.heap.size
    have hz5 := hb5.size
    have hq5 := hq4.trans (hb5.mono hs4)
    have hs5 := hq5.size
    have ho2_5 := ho2_4.below hb5
    have ho3_5 := ho3_4.below hb5
    have ho4_5 := ho4.below hb5
    go_wp2_with fail
    refine (toIntS_any _ zs _ _ (HU.out.below hq5) hs5 (by omega)).mono ?_
    rintro e w6 ⟨v6, rfl, ho6, hb6⟩
    have hz6 := hb6.size
    have hq6 := hq5.trans (hb6.mono hs5)
    have hs6 := hq6.size
    have ho2_6 := ho2_5.below hb6
    have ho3_6 := ho3_5.below hb6
    have ho4_6 := ho4_5.below hb6
    have L6 := Lib.hid ho6.lt
    go_wp2_with fail
    refine (eqIntS_self _ _ zs _ _ _ ho3_6.rd ho6.rd).mono ?_
    rintro e w7 ⟨rfl, hd7⟩
    have hb7 := hd7.below w6.heap.size
    have hz7 := hb7.size
    have hq7 := hq6.trans (hb7.mono hs6)
    have hs7 := hq7.size
    have ho2_7 := ho2_6.below hb7
    have ho3_7 := ho3_6.below hb7
    have ho4_7 := ho4_6.below hb7
    have ho6_7 := ho6.below hb7
    go_wp2_with fail
    refine (markIntS_any _ zs _ 1 _ ho3_7 (by omega) (by omega) (by omega)).mono ?_
    rintro e w8 ⟨rfl, hm8, hg8⟩
    have hz8 := hg8.size
    have ho2_8 := ho2_7.grown hg8 (fun k hk e => by have h1 := L2.out k hk; have h2 := L3.out _ e.symm; omega)
    have ho4_8 := ho4_7.grown hg8 (fun k hk e => by have h1 := L4.out k hk; have h2 := L3.out _ e.symm; omega)
    have hq8 := hq7.grown hg8 hs7 (fun k hk => by have h2 := (L3.out k hk).1; omega)
    have hs8 := hq8.size
    go_wp2_with fail
    refine (eqIntS_self _ _ (prOut a0 a1 zs) _ _ _ ho4_8.rd ho2_8.rd).mono ?_
    rintro e w9 ⟨rfl, hd9⟩
    have hb9 := hd9.below w8.heap.size
    have hz9 := hb9.size
    have hq9 := hq8.trans (hb9.mono hs8)
    have hs9 := hq9.size
    have ho2_9 := ho2_8.below hb9
    have ho4_9 := ho4_8.below hb9
    go_wp2_with fail
    refine (markIntS_any _ (prOut a0 a1 zs) _ 1 _ ho4_9 (by omega) (by omega) (by omega)).mono ?_
    rintro e w10 ⟨rfl, hm10, hg10⟩
    have hz10 := hg10.size
    have ho2_10 := ho2_9.grown hg10 (fun k hk e => by have h1 := L2.out k hk; have h2 := L4.out _ e.symm; omega)
    have hq10 := hq9.grown hg10 hs9 (fun k hk => by have h2 := (L4.out k hk).1; omega)
    have hs10 := hq10.size
    go_wp2_with fail
    refine (heldIntS_any _ (prOut a0 a1 zs).length 1 _ _ hm10.rd (by omega) (by omega) (by omega)).mono ?_
    rintro e w' ⟨rfl, rfl⟩
    go_wp2_with fail
    refine (toIntS_any _ zs _ _ (HU.out.below hq10) hs10 (by omega)).mono ?_
    rintro e w11 ⟨v11, rfl, ho11, hb11⟩
    have hz11 := hb11.size
    have hq11 := hq10.trans (hb11.mono hs10)
    have hs11 := hq11.size
    have ho2_11 := ho2_10.below hb11
    have ho4_11 := hm10.below hb11
    have L11 := Lib.hid ho11.lt
    go_wp2_with fail
    refine (pathRow_o _ _ _ zs _ _ ho11.rd (Nat.le_refl _) (by omega)).mono ?_
    rintro e w12 ⟨v12, rfl, ho12, hb12⟩
    have hz12 := hb12.size
    have hq12 := hq11.trans (hb12.mono hs11)
    have hs12 := hq12.size
    have ho2_12 := ho2_11.below hb12
    have ho4_12 := ho4_11.below hb12
    have ho11_12 := ho11.below hb12
    have L12 := Lib.hid ho12.lt
    go_wp2_with fail
    refine (eqIntS_self _ _ (prOut a0 a1 zs) _ _ _ ho12.rd ho2_12.rd).mono ?_
    rintro e w13 ⟨rfl, hd13⟩
    have hb13 := hd13.below w12.heap.size
    have hz13 := hb13.size
    have hq13 := hq12.trans (hb13.mono hs12)
    have hs13 := hq13.size
    have ho2_13 := ho2_12.below hb13
    have ho4_13 := ho4_12.below hb13
    have ho12_13 := ho12.below hb13
    go_wp2_with fail
    refine (heldIntS_any _ (prOut a0 a1 zs).length 1 _ _ ho4_13.rd (by omega) (by omega) (by omega)).mono ?_
    rintro e w' ⟨rfl, rfl⟩
    go_wp2_with fail
    go_ret
    exact ⟨rfl, hq13⟩
end Go.Proofs.Ytpefpllokhbkiaa
