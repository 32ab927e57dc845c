/- The walk of the law FnExactLinksOf: it returns true. -/
import Derived.Test.YtpefpllokhbkiaaLinks
import Derived.Test.YtpefpllokhbkiaaTriLink
namespace Go.Proofs.Ytpefpllokhbkiaa
open Go.RowKit

set_option maxHeartbeats 4000000 in
theorem walkLinksOf (a0 : Int) (_ : (Lit.int .i64 a0).wf = true) (a1 : Int) (_ : (Lit.int .i64 a1).wf = true) (w : World) :
    Calls Try.prog 3 #[.int .i64 a0, .int .i64 a1] w fun e w' => e = .returned (.bool true) ∧ Below w.heap.size w w' := by
  have hl : (linksZ a0 a1).length ≤ 1048576 := by have := linksZ_len a0 a1; omega
  have hne : ((1 : Int) + 3 * ((linksZ a0 a1).length : Int) != 1 + 3 * ((linksZ a0 a1).length : Int)) = false := by simp
  go_enter Try.func3, Try.ntmps3
  go_wp2_with fail
  refine (specLinksOf_any _ _ _).mono ?_
  rintro e w1 ⟨v1, rfl, ho1, hb1⟩
  have hs1 := hb1.size
  have hr1 := ho1.rd okLink
  clear ho1
  go_wp2_with fail
  refine (LinksOf_any _ _ _).mono ?_
  rintro e w2 ⟨v2, rfl, ho2, hb2⟩
  have hs2 := hb2.size
  go_wp2_with fail
  refine (eqLinkS_self _ _ (linksZ a0 a1) _ _ _ (ho2.rd okLink) (hr1.below hb2) (Nat.le_refl _) hs2).mono ?_
  rintro e w3 ⟨rfl, hb3⟩
  have ho3 := ho2.below hb3
  have hs3 := hb3.size
  have hc3 := hb2.trans (hb3.mono hs2)
  clear ho2
  go_wp2_with fail
  refine (markLinkS_any _ (linksZ a0 a1) _ 1 _ ho3 hl (by omega) (by omega)).mono ?_
  rintro e w4 ⟨rfl, ho4, hg4⟩
  have hc4 := hc3.grown hg4 hc3.size (fun k hk => (ho3.lt k hk).1)
  have hs4 := hc4.size
  clear ho3 hg4
  go_wp2_with fail
  refine (heldLinkS_any _ _ 1 _ _ (ho4.rd okLink) hl (by omega) (by omega)).mono ?_
  rintro e w' ⟨rfl, rfl⟩
  go_wp2_with fail
  refine (LinksOf_any _ _ _).mono ?_
  rintro e w5 ⟨v5, rfl, ho5, hb5⟩
  have hc5 := hc4.trans (hb5.mono hs4)
  have ho6 := ho4.below hb5
  have hs5 := hb5.size
  clear ho4
  go_wp2_with fail
  refine (eqLinkS_self _ _ (linksZ a0 a1) _ _ _ (ho5.rd okLink) (hr1.below hc5) (Nat.le_refl _) hc5.size).mono ?_
  rintro e w6 ⟨rfl, hb6⟩
  have ho7 := ho6.below hb6
  have hc6 := hc5.trans (hb6.mono hc5.size)
  clear ho6 ho5
  go_wp2_with fail
  refine (heldLinkS_any _ _ 1 _ _ (ho7.rd okLink) hl (by omega) (by omega)).mono ?_
  rintro e w' ⟨rfl, rfl⟩
  go_wp2_with fail
  go_ret
  exact ⟨rfl, hb1.trans (hc6.mono hs1)⟩
end Go.Proofs.Ytpefpllokhbkiaa
