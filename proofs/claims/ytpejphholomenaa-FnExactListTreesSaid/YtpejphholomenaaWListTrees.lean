/- The walk of the law FnExactListTrees: it returns true. -/
import Derived.Test.YtpejphholomenaaTreesT
import Derived.Test.YtpejphholomenaaMarkLL
namespace Go.Proofs.Ytpejphholomenaa
open Go.RowKit

theorem RdF_of_own {w : World} {a : Nat} {v : Value} {x : List Lk} (h : OwnF elLink w a v x) {b : Nat} (_ : b ≤ w.heap.size) : RdF elLink w w.heap.size v x := h.rd okLink
theorem NRel.rdL {w wr : World} {base lo hi : Nat} {v : Value} {xs : List (List Lk)} (h : NRel (kdF elLink) eLL w base lo wr hi v xs) : RdN (RdF elLink) wr wr.heap.size v xs :=
  h.rdN (K := kdF elLink) okLL fun _ _ _ _ hb hx => RdF_of_own hx.1 hb
theorem RdN.belowL {w w' : World} {B : Nat} {v : Value} {xs : List (List Lk)} (h : RdN (RdF elLink) w B v xs) (hb : Below B w w') : RdN (RdF elLink) w' B v xs := RdN.below (fun _ _ hx => RdF.below hx hb) h hb
theorem cnt_leL (xs : List (List Lk)) (h : ∀ l ∈ xs, l.length ≤ 16) : ∀ i, i ≤ xs.length → cntTo szL xs i ≤ 48 * i
  | 0, _ => by simp [cntTo]
  | i + 1, hi => by
    rw [cntTo_succ xs i (by omega)]
    have h1 := cnt_leL xs h i (by omega)
    have h2 := h xs[i] (List.getElem_mem _)
    unfold szL at *
    omega

set_option maxRecDepth 100000 in
set_option maxHeartbeats 8000000 in
theorem walkListTrees (a0 : Int) (_ : (Lit.int .i64 a0).wf = true) (a1 : Int) (_ : (Lit.int .i64 a1).wf = true) (w : World) :
    Calls Try.prog 12 #[.int .i64 a0, .int .i64 a1] w fun e w' => e = .returned (.bool true) ∧ Below w.heap.size w w' := by
  obtain ⟨xs, HX⟩ : ∃ xs, Hid (xs = listTZ a0 a1) := ⟨_, rfl⟩
  have hlen := listTZ_len a0 a1
  have hmem := listTZ_mem a0 a1
  have HSP := Lib.hid (specListTrees_any a0 a1)
  have HIM := Lib.hid (ListTrees_any a0 a1)
  rw [← HX.out] at hlen hmem HSP HIM
  have hcnt : cntTo szL xs xs.length ≤ 200000 := by have := cnt_leL xs hmem xs.length (Nat.le_refl _); omega
  have hml : ∀ x ∈ xs, x.length ≤ 1048576 := fun x hx => by have := hmem x hx; omega
  have hne : ((1 : Int) + (cntTo szL xs xs.length : Int) != 1 + (cntTo szL xs xs.length : Int)) = false := by simp
  have HML := Lib.hid hml
  clear hmem hml
  go_enter Try.func12, Try.ntmps12
  go_wp2_with fail
  refine (HSP.out w).mono ?_
  rintro e w1 ⟨v1, hi1, rfl, hN1⟩
  have HB1 := Lib.hid hN1.big'
  have HR1 := Lib.hid hN1.rdL
  clear hN1
  go_wp2_with fail
  refine (HIM.out w1).mono ?_
  rintro e w2 ⟨v2, hi2, rfl, hN2⟩
  have HB2 := Lib.hid hN2.big'
  have HN2 := Lib.hid hN2
  clear hN2
  go_wp2_with fail
  refine (eqLinkSS_self _ _ xs _ _ _ HN2.out.rdL (HR1.out.belowL HB2.out) (Nat.le_refl _) HB2.out.size).mono ?_
  rintro e w3 ⟨rfl, hd3⟩
  have HB3 := Lib.hid hd3
  have HN3 := Lib.hid (HN2.out.below HB3.out)
  have HQ3 := Lib.hid (HB2.out.trans (HB3.out.mono HB2.out.size))
  clear hd3
  go_wp2_with fail
  refine (markLinkSS_any w1 _ xs _ _ _ 1 _ HN3.out (Nat.le_refl _) (by omega) HML.out (by omega) (by omega) (by omega)).mono ?_
  rintro e w4 ⟨rfl, hN4, hA4⟩
  have HN4 := Lib.hid hN4
  have HB4 : Hid (Below w1.heap.size w3 w4) := hA4.below HQ3.out.size
  clear hN4 hA4
  go_wp2_with fail
  refine (heldLinkSS_any _ xs 1 _ _ HN4.out.rdL (by omega) HML.out (by omega) (by omega) (by omega)).mono ?_
  rintro e w' ⟨rfl, rfl⟩
  go_wp2_with fail
  refine (HIM.out w4).mono ?_
  rintro e w5 ⟨v5, hi5, rfl, hN5⟩
  have HB5 := Lib.hid hN5.big'
  have HN5 := Lib.hid (HN4.out.below HB5.out)
  have HQ5 := Lib.hid ((HQ3.out.trans HB4.out).trans (HB5.out.mono (HQ3.out.trans HB4.out).size))
  have HR5 := Lib.hid hN5.rdL
  clear hN5
  go_wp2_with fail
  refine (eqLinkSS_self _ _ xs _ _ _ HR5.out (HR1.out.belowL HQ5.out) (Nat.le_refl _) HQ5.out.size).mono ?_
  rintro e w6 ⟨rfl, hd6⟩
  have HB6 := Lib.hid hd6
  have HN6 := Lib.hid (HN5.out.below HB6.out)
  have HQ6 := Lib.hid (HB1.out.trans ((HQ5.out.trans (HB6.out.mono HQ5.out.size)).mono HB1.out.size))
  clear hd6
  go_wp2_with fail
  refine (heldLinkSS_any _ xs 1 _ _ HN6.out.rdL (by omega) HML.out (by omega) (by omega) (by omega)).mono ?_
  rintro e w' ⟨rfl, rfl⟩
  go_wp2_with fail
  go_ret
  exact ⟨rfl, HQ6.out⟩
end Go.Proofs.Ytpejphholomenaa
