/- The walk of the law FnExactAddCube: it returns true. -/
import Derived.Test.YtpockbbfbnaioaaAdd
import Derived.Test.YtpockbbfbnaioaaLawII
namespace Go.Proofs.Ytpockbbfbnaioaa
open Go.RowKit

theorem rect_flat {a b : Nat} {m : List (List Int)} (h : RShape a b m) : ∀ n, n ≤ a → flatTo m n = n * b
  | 0, _ => by simp [flatTo]
  | n + 1, hn => by rw [flatTo, rect_flat h n (by omega), h.2 n (by omega), Nat.succ_mul]
theorem addZ_bd (a b c : Int) (zss : List (List Int)) (r q : Int) : (addZ a b c zss r q).length ≤ 1048576 ∧ flatTo (addZ a b c zss r q) (addZ a b c zss r q).length ≤ 1048576 := by
  cases hh : addOk a b c zss r q
  · simp [addZ, hh, flatTo]
  · have e0 : addZ a b c zss r q = addM zss r.toNat q.toNat := by simp [addZ, hh]
    have h2 : heapB a b c (addM zss r.toNat q.toNat) = true := by unfold addOk at hh; simp only [Bool.and_eq_true] at hh; exact hh.2
    have hb := ((heapB_iff _ _ _ _).1 h2).1
    obtain ⟨n, rfl⟩ := Int.eq_ofNat_of_zero_le (show 0 ≤ a by omega)
    obtain ⟨m, rfl⟩ := Int.eq_ofNat_of_zero_le (show 0 ≤ b by omega)
    obtain ⟨hn, hm, _, hs, _⟩ := heap_facts h2
    rw [e0, hs.1, rect_flat hs n (Nat.le_refl _)]
    have : n * m ≤ 3 * 3 := Nat.mul_le_mul (by omega) (by omega)
    omega

set_option maxRecDepth 100000 in
set_option maxHeartbeats 8000000 in
theorem walkAddCube (a0 : Int) (_ : (Lit.int .i64 a0).wf = true) (a1 : Int) (_ : (Lit.int .i64 a1).wf = true) (a2 : Int) (_ : (Lit.int .i64 a2).wf = true) (u3 : Value) (x3 : List (List Int)) (a4 : Int) (_ : (Lit.int .i64 a4).wf = true) (a5 : Int) (_ : (Lit.int .i64 a5).wf = true) (w : World) (hu3 : RdII w w.heap.size u3 x3) :
    Calls Try.prog 3 #[.int .i64 a0, .int .i64 a1, .int .i64 a2, u3, .int .i64 a4, .int .i64 a5] w fun e w' => e = .returned (.bool true) ∧ Below w.heap.size w w' := by
  have HU3 := Lib.hid hu3
  obtain ⟨A3, c3, ev3, _⟩ := hu3.open_
  clear hu3 ev3
  by_cases hneg3 : szSS x3 (1048576) < 0
  · skip
    go_enter Try.func3, Try.ntmps3
    go_wp2_with fail
    refine (szIntSS_any _ x3 _ _ _ HU3.out (by omega) (by omega)).mono ?_
    rintro e w' ⟨rfl, rfl⟩
    go_wp2_with fail
    go_ret
    exact ⟨rfl, Below.refl _ _⟩
  obtain ⟨s1_3, s2_3⟩ := szSS_bd x3 (1048576) (by omega) (by omega)
  have S2_3 := Lib.hid s2_3
  clear s2_3
  have hfl3 := szSS_flat x3 (1048576) hneg3
  obtain ⟨hl, hf⟩ := addZ_bd a0 a1 a2 x3 a4 a5
  have hne : ((1 : Int) + (flatTo (addZ a0 a1 a2 x3 a4 a5) (addZ a0 a1 a2 x3 a4 a5).length : Int) != 1 + (flatTo (addZ a0 a1 a2 x3 a4 a5) (addZ a0 a1 a2 x3 a4 a5).length : Int)) = false := by simp
  have hbb_ : ((addOk a0 a1 a2 x3 a4 a5) != (addOk a0 a1 a2 x3 a4 a5)) = false := by simp
  go_enter Try.func3, Try.ntmps3
  go_wp2_with fail
  refine (szIntSS_any _ x3 _ _ _ HU3.out (by omega) (by omega)).mono ?_
  rintro e w' ⟨rfl, rfl⟩
  skip
  go_wp2_with fail
  refine (toIntSS_any _ x3 _ _ HU3.out (Nat.le_refl _) (by omega) (fun i hi => by have := S2_3.out i hi; omega)).mono ?_
  rintro e w1 ⟨v1, rfl, ho1, hb1⟩
  have hq1 := hb1
  have hs1 := hq1.size
  have hz1 := hb1.size
  have o_v1_1 := OwnII.m ho1
  go_wp2_with fail
  refine (specAddCube_any _ _ _ _ x3 _ _ _ _ o_v1_1.rd (Nat.le_refl _)).mono ?_
  rintro e w2 ⟨v2, hi2, rfl, ho2, hx2, hb2⟩
  have hq2 := hq1.trans (hb2.mono hs1)
  have hs2 := hq2.size
  have hz2 := hb2.size
  have o_v1_2 := o_v1_1.below hb2
  have o_v2_2 := ho2.more hx2
  go_wp2_with fail
  refine (toIntSS_any _ x3 _ _ (HU3.out.below hq2) hs2 (by omega) (fun i hi => by have := S2_3.out i hi; omega)).mono ?_
  rintro e w3 ⟨v3, rfl, ho3, hb3⟩
  have hq3 := hq2.trans (hb3.mono hs2)
  have hs3 := hq3.size
  have hz3 := hb3.size
  have o_v2_3 := o_v2_2.below hb3
  have o_v3_3 := OwnII.m ho3
  go_wp2_with fail
  refine (AddCube_any _ _ _ _ x3 _ _ _ _ o_v3_3.rd (Nat.le_refl _)).mono ?_
  rintro e w4 ⟨v4, hi4, rfl, ho4, hx4, hb4⟩
  have hq4 := hq3.trans (hb4.mono hs3)
  have hs4 := hq4.size
  have hz4 := hb4.size
  have o_v2_4 := o_v2_3.below hb4
  have o_v3_4 := o_v3_3.below hb4
  have o_v4_4 := ho4.more hx4
  go_wp2_with fail
  refine (eqIntSS_self _ _ (addZ a0 a1 a2 x3 a4 a5) _ _ _ o_v4_4.rd o_v2_4.rd).mono ?_
  rintro e w5 ⟨rfl, hd5⟩
  have hb5 := hd5.below w4.heap.size
  have hq5 := hq4.trans (hb5.mono hs4)
  have hs5 := hq5.size
  have hz5 := hb5.size
  have o_v2_5 := o_v2_4.below hb5
  have o_v3_5 := o_v3_4.below hb5
  have o_v4_5 := o_v4_4.below hb5
  go_wp2_with fail
  refine (toIntSS_any _ x3 _ _ (HU3.out.below hq5) hs5 (by omega) (fun i hi => by have := S2_3.out i hi; omega)).mono ?_
  rintro e w6 ⟨v6, rfl, ho6, hb6⟩
  have hq6 := hq5.trans (hb6.mono hs5)
  have hs6 := hq6.size
  have hz6 := hb6.size
  have o_v2_6 := o_v2_5.below hb6
  have o_v3_6 := o_v3_5.below hb6
  have o_v4_6 := o_v4_5.below hb6
  have o_v6_6 := OwnII.m ho6
  go_wp2_with fail
  refine (eqIntSS_self _ _ x3 _ _ _ o_v3_6.rd o_v6_6.rd).mono ?_
  rintro e w7 ⟨rfl, hd7⟩
  have hb7 := hd7.below w6.heap.size
  have hq7 := hq6.trans (hb7.mono hs6)
  have hs7 := hq7.size
  have hz7 := hb7.size
  have o_v2_7 := o_v2_6.below hb7
  have o_v3_7 := o_v3_6.below hb7
  have o_v4_7 := o_v4_6.below hb7
  have o_v6_7 := o_v6_6.below hb7
  go_wp2_with fail
  refine (markIntSS_aft _ x3 _ _ 1 _ o_v3_7 (by omega) (by omega) (by omega) (by omega)).mono ?_
  rintro e w8 ⟨rfl, hm8, hA8⟩
  have hq8 := hq7.trans ((hA8.below (by omega)).mono (by omega))
  have hs8 := hq8.size
  have hz8 := hA8.size
  have o_v2_8 := o_v2_7.aft hA8 (by omega)
  have o_v3_8 := hm8
  have o_v4_8 := o_v4_7.aft hA8 (by omega)
  go_wp2_with fail
  refine (eqIntSS_self _ _ (addZ a0 a1 a2 x3 a4 a5) _ _ _ o_v4_8.rd o_v2_8.rd).mono ?_
  rintro e w9 ⟨rfl, hd9⟩
  have hb9 := hd9.below w8.heap.size
  have hq9 := hq8.trans (hb9.mono hs8)
  have hs9 := hq9.size
  have hz9 := hb9.size
  have o_v2_9 := o_v2_8.below hb9
  have o_v4_9 := o_v4_8.below hb9
  go_wp2_with fail
  refine (markIntSS_aft _ (addZ a0 a1 a2 x3 a4 a5) _ _ 1 _ o_v4_9 hl hf (by omega) (by omega)).mono ?_
  rintro e w10 ⟨rfl, hm10, hA10⟩
  have hq10 := hq9.trans ((hA10.below (by omega)).mono (by omega))
  have hs10 := hq10.size
  have hz10 := hA10.size
  have o_v2_10 := o_v2_9.aft hA10 (by omega)
  have o_v4_10 := hm10
  go_wp2_with fail
  refine (heldIntSS_any _ (addZ a0 a1 a2 x3 a4 a5) 1 _ _ o_v4_10.rd hl hf (by omega) (by omega)).mono ?_
  rintro e w' ⟨rfl, rfl⟩
  go_wp2_with fail
  refine (toIntSS_any _ x3 _ _ (HU3.out.below hq10) hs10 (by omega) (fun i hi => by have := S2_3.out i hi; omega)).mono ?_
  rintro e w11 ⟨v11, rfl, ho11, hb11⟩
  have hq11 := hq10.trans (hb11.mono hs10)
  have hs11 := hq11.size
  have hz11 := hb11.size
  have o_v2_11 := o_v2_10.below hb11
  have o_v4_11 := o_v4_10.below hb11
  have o_v11_11 := OwnII.m ho11
  go_wp2_with fail
  refine (AddCube_any _ _ _ _ x3 _ _ _ _ o_v11_11.rd (Nat.le_refl _)).mono ?_
  rintro e w12 ⟨v12, hi12, rfl, ho12, hx12, hb12⟩
  have hq12 := hq11.trans (hb12.mono hs11)
  have hs12 := hq12.size
  have hz12 := hb12.size
  have o_v2_12 := o_v2_11.below hb12
  have o_v4_12 := o_v4_11.below hb12
  have o_v11_12 := o_v11_11.below hb12
  have o_v12_12 := ho12.more hx12
  go_wp2_with fail
  refine (eqIntSS_self _ _ (addZ a0 a1 a2 x3 a4 a5) _ _ _ o_v12_12.rd o_v2_12.rd).mono ?_
  rintro e w13 ⟨rfl, hd13⟩
  have hb13 := hd13.below w12.heap.size
  have hq13 := hq12.trans (hb13.mono hs12)
  have hs13 := hq13.size
  have hz13 := hb13.size
  have o_v2_13 := o_v2_12.below hb13
  have o_v4_13 := o_v4_12.below hb13
  have o_v12_13 := o_v12_12.below hb13
  go_wp2_with fail
  refine (heldIntSS_any _ (addZ a0 a1 a2 x3 a4 a5) 1 _ _ o_v4_13.rd hl hf (by omega) (by omega)).mono ?_
  rintro e w' ⟨rfl, rfl⟩
  go_wp2_with fail
  go_ret
  exact ⟨rfl, hq13⟩
end Go.Proofs.Ytpockbbfbnaioaa
