/- The walk of the law FnExactListHeaps: it returns true. -/
import Derived.Test.YtfamjhemecpgnaaLHeapsT
import Derived.Test.YtfamjhemecpgnaaMark3
namespace Go.Proofs.Ytfamjhemecpgnaa
open Go.RowKit

theorem NRel.rd3 {w wr : World} {base lo hi : Nat} {v : Value} {xs : List (List (List Int))} (h : NRel kdM eMM w base lo wr hi v xs) : RdN RdII wr wr.heap.size v xs :=
  h.rdN okRows fun _ _ _ _ _ hx => OwnM.rd hx
theorem RdN.below3 {w w' : World} {B : Nat} {v : Value} {xs : List (List (List Int))} (h : RdN RdII w B v xs) (hb : Below B w w') : RdN RdII w' B v xs := RdN.below (fun _ _ hx => RdII.below hx hb) h hb
theorem NRel.big {α : Type} {K : Kd α} {E : El Sl} {w wr : World} {base lo hi : Nat} {v : Value} {xs : List α} (h : NRel K E w base lo wr hi v xs) : Below w.heap.size w wr := h.choose_spec.1.2.1

set_option maxRecDepth 100000 in
set_option maxHeartbeats 8000000 in
theorem walkListHeaps (a0 : Int) (_ : (Lit.int .i64 a0).wf = true) (a1 : Int) (_ : (Lit.int .i64 a1).wf = true) (a2 : Int) (_ : (Lit.int .i64 a2).wf = true) (w : World) :
    Calls Try.prog 10 #[.int .i64 a0, .int .i64 a1, .int .i64 a2] w fun e w' => e = .returned (.bool true) ∧ Below w.heap.size w w' := by
  obtain ⟨xs, HX⟩ : ∃ xs, Hid (xs = listHZ a0 a1 a2) := ⟨_, rfl⟩
  have hlen := listHZ_len a0 a1 a2
  have hmem := listHZ_mem a0 a1 a2
  have HSP := Lib.hid (specListHeaps_any a0 a1 a2)
  have HIM := Lib.hid (ListHeaps_any a0 a1 a2)
  rw [← HX.out] at hlen hmem HSP HIM
  have hcnt : cntTo szMM xs xs.length ≤ 9000 := by have := cnt_le szMM xs 9 (fun x hx => (hmem x hx).2) xs.length (Nat.le_refl _); omega
  have hml : ∀ x ∈ xs, x.length ≤ 1048576 := fun x hx => by have := (hmem x hx).1; omega
  have hne : ((1 : Int) + (cntTo szMM xs xs.length : Int) != 1 + (cntTo szMM xs xs.length : Int)) = false := by simp
  have HML := Lib.hid hml
  clear hmem hml
  go_enter Try.func10, Try.ntmps10
  go_wp2_with fail
  refine (HSP.out w).mono ?_
  rintro e w1 ⟨v1, hi1, rfl, hN1⟩
  have HB1 := Lib.hid hN1.big
  have HR1 := Lib.hid hN1.rd3
  clear hN1
  go_wp2_with fail
  refine (HIM.out w1).mono ?_
  rintro e w2 ⟨v2, hi2, rfl, hN2⟩
  have HB2 := Lib.hid hN2.big
  have HN2 := Lib.hid hN2
  clear hN2
  go_wp2_with fail
  refine (eqIntSSS_self _ _ xs _ _ _ HN2.out.rd3 (HR1.out.below3 HB2.out)).mono ?_
  rintro e w3 ⟨rfl, hd3⟩
  have HB3 := Lib.hid (hd3.below w2.heap.size)
  have HN3 := Lib.hid (HN2.out.below HB3.out)
  have HQ3 := Lib.hid (HB2.out.trans (HB3.out.mono HB2.out.size))
  clear hd3
  go_wp2_with fail
  refine (markIntSSS_any w1 _ xs _ _ _ 1 _ HN3.out (Nat.le_refl _) (by omega) HML.out (by omega) (by omega) (by omega)).mono ?_
  rintro e w4 ⟨rfl, hN4, hA4⟩
  have HN4 := Lib.hid hN4
  have HB4 : Hid (Below w1.heap.size w3 w4) := hA4.below HQ3.out.size
  clear hN4 hA4
  go_wp2_with fail
  refine (heldIntSSS_any _ xs 1 _ _ HN4.out.rd3 (by omega) HML.out (by omega) (by omega) (by omega)).mono ?_
  rintro e w' ⟨rfl, rfl⟩
  go_wp2_with fail
  refine (HIM.out w4).mono ?_
  rintro e w5 ⟨v5, hi5, rfl, hN5⟩
  have HB5 := Lib.hid hN5.big
  have HN5 := Lib.hid (HN4.out.below HB5.out)
  have HQ5 := Lib.hid ((HQ3.out.trans HB4.out).trans (HB5.out.mono (HQ3.out.trans HB4.out).size))
  have HR5 := Lib.hid hN5.rd3
  clear hN5
  go_wp2_with fail
  refine (eqIntSSS_self _ _ xs _ _ _ HR5.out (HR1.out.below3 HQ5.out)).mono ?_
  rintro e w6 ⟨rfl, hd6⟩
  have HB6 := Lib.hid (hd6.below w5.heap.size)
  have HN6 := Lib.hid (HN5.out.below HB6.out)
  have HQ6 := Lib.hid (HB1.out.trans ((HQ5.out.trans (HB6.out.mono HQ5.out.size)).mono HB1.out.size))
  clear hd6
  go_wp2_with fail
  refine (heldIntSSS_any _ xs 1 _ _ HN6.out.rd3 (by omega) HML.out (by omega) (by omega) (by omega)).mono ?_
  rintro e w' ⟨rfl, rfl⟩
  go_wp2_with fail
  go_ret
  exact ⟨rfl, HQ6.out⟩
end Go.Proofs.Ytfamjhemecpgnaa
