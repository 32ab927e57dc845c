/- The walk of the law FnTrees: it returns true. -/
import Derived.Test.YtiecphhenpapoaaTreesF
import Derived.Test.YtiecphhenpapoaaDrawT
import Derived.Test.YtiecphhenpapoaaFrameB
import Derived.Test.YtiecphhenpapoaaLawSame
import Derived.Test.YtiecphhenpapoaaNum
namespace Go.Proofs.Ytiecphhenpapoaa
open Go.RowKit
set_option linter.unusedVariables false

theorem addOffT (g a n : Nat) : (⟨g, a, none⟩ : Addr).add n = ⟨g, a + n, none⟩ := by unfold Addr.add; split <;> simp_all
theorem rdF_cut {α : Type} {E : El α} {w : World} {B c g : Nat} {xs : List α} (h : RdF E w B (.slice (some ⟨g, 0, none⟩) xs.length c) xs) (h1 : 1 ≤ xs.length) (hc : ¬ c = 1) : RdF E w B (.slice (some ⟨g, E.s, none⟩) (xs.length - 1) (c - 1)) (xs.drop 1) := by
  obtain ⟨A', c', hv, h1', h2, h3⟩ := h
  obtain ⟨rfl, rfl⟩ : some (⟨g, 0, none⟩ : Addr) = A' ∧ c = c' := by simp at hv; exact ⟨hv.1, hv.2⟩
  have hl : (xs.drop 1).length = xs.length - 1 := by simp
  refine ⟨_, c - 1, by rw [hl], by omega, by omega, fun i x hx => ?_⟩
  rw [List.getElem?_drop] at hx
  obtain ⟨ad, e, hb, hcc⟩ := h3 (1 + i) x hx
  obtain rfl := Option.some.inj e
  refine ⟨⟨g, E.s, none⟩, rfl, hb, fun q u hu => ?_⟩
  have := hcc q u hu
  rw [addOffT] at this
  rw [addOffT]
  rw [show 0 + ((1 + i) * E.s + q) = E.s + (i * E.s + q) by rw [Nat.add_mul]; omega] at this
  exact this
theorem rdF_void {α : Type} {E : El α} {w : World} {B c n : Nat} {A : Option Addr} (hn : n = 0) (hc : c ≤ maxLen) : RdF E w B (.slice A n c) ([] : List α) := ⟨A, c, by rw [hn]; rfl, Nat.zero_le _, hc, fun j x hx => by simp at hx⟩
theorem RdF_of_ownT {w : World} {a : Nat} {v : Value} {x : List Lk} (h : OwnF elLink w a v x) {b : Nat} (_ : b ≤ w.heap.size) : RdF elLink w w.heap.size v x := h.rd okLink
theorem NRel.rdLT {w wr : World} {base lo hi : Nat} {v : Value} {xs : List (List Lk)} (h : NRel (kdF elLink) eLL w base lo wr hi v xs) : RdN (RdF elLink) wr wr.heap.size v xs :=
  h.rdN (K := kdF elLink) okLL fun _ _ _ _ hb hx => RdF_of_ownT hx.1 hb
theorem RdN.belowLT {w w' : World} {B : Nat} {v : Value} {xs : List (List Lk)} (h : RdN (RdF elLink) w B v xs) (hb : Below B w w') : RdN (RdF elLink) w' B v xs := RdN.below (fun _ _ hx => RdF.below hx hb) h hb
/-- A drawn tree. -/
def TreeRet (w : World) (e : Ending) (w' : World) : Prop :=
  ∃ (a b : Nat) (ls : List Lk) (u : Value), gridB a b = true ∧ treeB a b ls = true ∧ e = .returned (.tuple #[.int .i64 a, .int .i64 b, u]) ∧ OwnF elLink w' w.heap.size u ls ∧ Below w.heap.size w w'
theorem DrawTree_any (v : Value) (n B : Nat) (w : World) (hv : RdU w B v n) (hB : B ≤ w.heap.size) :
    Calls Try.prog 28 #[v] w (TreeRet w) := by
  go_enter Try.func28, Try.ntmps28
  go_wp2_with fail
  refine (new_any v n B w hv hB).mono ?_
  rintro e w1 ⟨rfl, hc1, hb1⟩
  go_wp2_with fail
  refine (l23Tree_any _ n v w1 hc1).mono ?_
  rintro e w2 ⟨a, b, ls, u, hg, ht, rfl, ho, hc2, hg2⟩
  go_wp2_with fail
  go_ret3
  exact ⟨a, b, ls, u, hg, ht, rfl, ho.mono hb1.size, below_young hb1 hg2 (Nat.le_refl _)⟩

set_option maxRecDepth 100000 in
set_option maxHeartbeats 8000000 in
theorem walkFnTrees (u : Value) (n : Nat) (w : World) (hu : RdU w w.heap.size u n) :
    Calls Try.prog 7 #[u] w fun e w' => e = .returned (.bool true) ∧ Below w.heap.size w w' := by
  have HU := Lib.hid hu
  clear hu
  by_cases c1 : (1048576 : Int) < (n : Int)
  · go_enter Try.func7, Try.ntmps7
    go_wp2_with fail
    refine (big_any _ n _ _ HU.out).mono ?_
    rintro e w1 ⟨rfl, rfl⟩
    go_wp2_with fail
    go_ret
    exact ⟨rfl, Below.refl _ _⟩
  · go_enter Try.func7, Try.ntmps7
    go_wp2_with fail
    refine (big_any _ n _ _ HU.out).mono ?_
    rintro e w0 ⟨rfl, rfl⟩
    go_wp2_with fail
    refine (DrawTree_any _ n _ _ HU.out (Nat.le_refl _)).mono ?_
    rintro e w1 ⟨a, b, ls, v1, hg, ht, rfl, ho1, hb1⟩
    obtain ⟨s1, s2, s3, s4⟩ := sym_facts a b hg
    have hl1 := tree_len ht
    have hbx := (gridB_iff _ _).1 hg
    have HCUT := Lib.hid (fun h => tree_cut ht h)
    have HG := Lib.hid hg; have HT := Lib.hid ht; have HS1 := Lib.hid s1; have HS3 := Lib.hid s3; have HS4 := Lib.hid s4
    have HB1 := Lib.hid hb1
    obtain ⟨A1, k1, hv1, q1, q2, _⟩ := ho1.rd okLink
    have HO1 := Lib.hid ho1
    have HR1 := Lib.hid (ho1.rd okLink)
    subst hv1
    unfold maxLen at q2
    clear ho1 hb1 hg ht s1 s3 s4
    go_wp2_with fail
    refine (at_any _ n _ 0 _ (HU.out.below HB1.out) (by omega) (by omega)).mono ?_
    rintro e w' ⟨z0, z00, z01, rfl, rfl⟩
    go_wp2_with fail
    refine (at_any _ n _ 1 _ (HU.out.below HB1.out) (by omega) (by omega)).mono ?_
    rintro e w' ⟨z1, z10, z11, rfl, rfl⟩
    go_wp2_with fail
    obtain ⟨p, hp⟩ : ∃ p : Nat, 1 + z0 % 3 = (p : Int) := ⟨(1 + z0 % 3).toNat, by omega⟩
    obtain ⟨r, hr⟩ : ∃ r : Nat, 1 + z1 % 2 = (r : Int) := ⟨(1 + z1 % 2).toNat, by omega⟩
    rw [hp, hr]
    obtain ⟨f1, f2, f3, f4⟩ := few_facts p r (by omega) (by omega)
    have HF1 := Lib.hid f1; have HF4 := Lib.hid f4
    clear f1 f4 hp hr
    obtain ⟨L, HL⟩ : ∃ L, Hid (listTZ (p : Int) r = L) := ⟨_, rfl⟩
    rw [HL.out] at HF1 f2 f3 HF4
    refine (ListTrees_any _ _ _).mono ?_
    rintro e w2 ⟨v2, hi2, rfl, hN2⟩
    rw [HL.out] at hN2
    have HN2 := Lib.hid (NRel.rdLT hN2)
    have hb2 := hN2.choose_spec.1.2.1
    have HQ2 := Lib.hid (HB1.out.trans (hb2.mono HB1.out.size))
    have HR2 := Lib.hid ((HR1.out.below hb2).more hb2.size)
    obtain ⟨A2, k2, rfl, g1, g2, _⟩ := HN2.out.open_
    unfold maxLen at g2
    clear hN2 hb2
    have hLn : ((L.length : Int) == 0) = false := by rw [beq_eq_false_iff_ne]; omega
    have hLq : ((L.length : Int) != (L.length : Int)) = false := by simp
    have hLz : (L.length == 0) = false := by rw [beq_eq_false_iff_ne]; omega
    obtain ⟨cz, HCZ⟩ : ∃ cz, Hid (countTreesZ a b = cz) := ⟨_, rfl⟩
    rw [HCZ.out] at HS1 s2
    have hcq : (cz != cz) = false := by simp
    go_wp2_with fail
    refine (CountTrees_any _ _ _).mono ?_
    rintro e w3 ⟨rfl, hb3⟩
    rw [HCZ.out]
    have HB3 := Lib.hid hb3
    clear hb3
    go_wp2_with fail
    refine (CountTrees_any _ _ _).mono ?_
    rintro e w4 ⟨rfl, hb4⟩
    rw [← HF1.out]
    have HB4 := Lib.hid (HB3.out.trans (hb4.mono HB3.out.size))
    clear hb4
    go_wp2_with fail
    refine (CountTrees_any _ _ _).mono ?_
    rintro e w5 ⟨rfl, hb5⟩
    rw [← HS1.out]
    have HB5 := Lib.hid (HB4.out.trans (hb5.mono HB4.out.size))
    clear hb5
    go_wp2_with fail
    refine (IsTree_any _ _ _ ls _ _ (HR2.out.below HB5.out) HB5.out.size).mono ?_
    rintro e w6 ⟨rfl, hb6⟩
    rw [HT.out]
    have HB6 := Lib.hid (HB5.out.trans (hb6.mono HB5.out.size))
    have HQ6 := Lib.hid (HQ2.out.trans (HB6.out.mono HQ2.out.size))
    clear hb6
    go_wp2_with fail
    refine (at_any _ n _ 2 _ (HU.out.below HQ6.out) (by omega) (by omega)).mono ?_
    rintro e w' ⟨z2, z20, z21, rfl, rfl⟩
    obtain ⟨kk, hkk⟩ : ∃ kk : Nat, z2 % (L.length : Int) = (kk : Int) := ⟨(z2 % (L.length : Int)).toNat, by have := Int.emod_nonneg z2 (show (L.length : Int) ≠ 0 by omega); omega⟩
    have hkl : kk < L.length := by have := Int.emod_lt_of_pos z2 (show (0 : Int) < (L.length : Int) by omega); omega
    have hk0 : (0 : Int) ≤ (kk : Int) := by omega
    have hk1 : (kk : Int) < (L.length : Int) := by omega
    obtain ⟨A3, k3, e3, _, _, g3⟩ := (HN2.out.belowLT HB6.out).open_
    obtain ⟨ad, s0, hA3, had, hs0, hr0⟩ := g3 kk hkl
    obtain ⟨rfl, rfl⟩ : A2 = A3 ∧ k2 = k3 := by simp at e3; exact e3
    subst hA3
    obtain ⟨As, ns, cs⟩ := s0
    have HL0 := Lib.hid hr0
    have HTK := Lib.hid (HF4.out _ (List.getElem_mem hkl))
    generalize L[kk] = l0 at *
    clear hr0 g3 e3
    go_wp2_with fail
    refine (IsTree_any _ _ _ l0 _ _ HL0.out HB6.out.size).mono ?_
    rintro e w7 ⟨rfl, hb7⟩
    rw [HTK.out]
    have HB7 := Lib.hid (HB6.out.trans (hb7.mono HB6.out.size))
    clear hb7 hs0
    have hnab : 1 ≤ a * b ∧ a * b ≤ 16 := ⟨Nat.mul_pos (by omega) (by omega), Nat.mul_le_mul (show a ≤ 4 by omega) (show b ≤ 4 by omega)⟩
    have hmul : (a : Int) * (b : Int) = ((a * b : Nat) : Int) := by simp
    have hm0 : 0 ≤ (a : Int) * (b : Int) := by omega
    have hm1 : (a : Int) * (b : Int) ≤ 16 := by omega
    have hmm : 2 * (a : Int) * (b : Int) = 2 * ((a : Int) * (b : Int)) := Int.mul_assoc _ _ _
    have hp0 : 0 ≤ 2 * (a : Int) * (b : Int) := by omega
    have hp1 : 2 * (a : Int) * (b : Int) ≤ 32 := by omega
    obtain ⟨all, HALL⟩ : ∃ x, Hid (linksZ (a : Int) b = x) := ⟨_, rfl⟩
    obtain ⟨tm, HTM⟩ : ∃ x, Hid (treeZ (a : Int) b = x) := ⟨_, rfl⟩
    rw [HALL.out] at HS3
    rw [HTM.out] at HS4
    have hs3 : 2 * (a : Int) * (b : Int) - (a : Int) - (b : Int) = (all.length : Int) := HS3.out.symm
    have hs4 : (a : Int) * (b : Int) - 1 = (tm.length : Int) := HS4.out.symm
    have hl2 : (tm.length : Int) = (ls.length : Int) := by omega
    clear hmul hmm hnab hl1
    go_wp2_with fail
    refine (LinksOf_any _ _ _).mono ?_
    rintro e w8 ⟨v8, rfl, ho8, hb8⟩
    rw [HALL.out] at ho8
    obtain ⟨A8, k8, hv8, _, _, _⟩ := ho8.rd okLink
    subst hv8
    have HB8 := Lib.hid (HB7.out.trans (hb8.mono HB7.out.size))
    clear ho8 hb8
    go_wp2_with fail
    refine (TreeMatrix_any _ _ _).mono ?_
    rintro e w9 ⟨v9, hi9, rfl, ho9, hx9, hb9⟩
    rw [HTM.out] at ho9
    obtain ⟨A9, k9, hv9, _⟩ := ho9.rd.open_
    subst hv9
    have HB9 := Lib.hid (HB8.out.trans (hb9.mono HB8.out.size))
    have HQ9 := Lib.hid (HQ2.out.trans (HB9.out.mono HQ2.out.size))
    clear ho9 hb9 hx9
    go_wp2_with fail
    refine (GridOk_any _ _ _).mono ?_
    rintro e w' ⟨rfl, rfl⟩
    rw [HG.out]
    by_cases hz : ls.length = 0
    · have hzq : ((ls.length : Int) == 0) = true := by simp [hz]
      have hzq' : (ls.length == 0) = true := by simp [hz]
      have HZ := Lib.hid hz
      clear hz
      go_wp2_with fail
      refine (CountTrees_any _ _ _).mono ?_
      rintro e w10 ⟨rfl, hb10⟩
      rw [big_count]
      have HQ10 := Lib.hid (HQ9.out.trans (hb10.mono HQ9.out.size))
      go_wp2_with fail
      go_ret
      exact ⟨rfl, HQ10.out⟩
    · have hzq : ((ls.length : Int) == 0) = false := by rw [beq_eq_false_iff_ne]; omega
      have hzq' : (ls.length == 0) = false := by rw [beq_eq_false_iff_ne]; omega
      have HC := Lib.hid (HCUT.out hz)
      obtain ⟨g, cg, hvg, _, _⟩ := World.ownsRow.form HO1.out (by omega)
      obtain ⟨rfl, rfl⟩ : A1 = some ⟨g, 0, none⟩ ∧ k1 = cg := by simp at hvg; exact hvg
      have hl0 : (1 : Int) ≤ (ls.length : Int) := by omega
      have hl00 : 1 ≤ ls.length := by omega
      have HR9 := Lib.hid (HR2.out.below HB9.out)
      clear hz hvg
      by_cases hcc : k1 = 1
      · have HV : Hid (∀ (A : Option Addr) (c nn : Nat), nn = 0 → c ≤ 1 → RdF elLink w9 w2.heap.size (.slice A nn c) (ls.drop 1)) := by
          intro A c nn h1 h2
          rw [List.drop_of_length_le (by omega)]
          exact rdF_void h1 (by unfold maxLen; omega)
        have hl11 : ls.length = 1 := by omega
        have HL11 := Lib.hid hl11
        clear hl11
        subst hcc
        go_wp2_with fail
        refine (IsTree_any _ _ _ (ls.drop 1) _ _ (HV.out _ _ _ (by have := HL11.out; omega) (by omega)) HB9.out.size).mono ?_
        rintro e w10 ⟨rfl, hb10⟩
        rw [HC.out]
        have HQ10 := Lib.hid (HQ9.out.trans (hb10.mono HQ9.out.size))
        clear hb10
        go_wp2_with fail
        refine (CountTrees_any _ _ _).mono ?_
        rintro e w11 ⟨rfl, hb11⟩
        rw [big_count]
        have HQ11 := Lib.hid (HQ10.out.trans (hb11.mono HQ10.out.size))
        go_wp2_with fail
        go_ret
        exact ⟨rfl, HQ11.out⟩
      · have HV := Lib.hid (rdF_cut HR9.out hl00 hcc)
        go_wp2_with fail
        refine (IsTree_any _ _ _ (ls.drop 1) _ _ HV.out HB9.out.size).mono ?_
        rintro e w10 ⟨rfl, hb10⟩
        rw [HC.out]
        have HQ10 := Lib.hid (HQ9.out.trans (hb10.mono HQ9.out.size))
        clear hb10
        go_wp2_with fail
        refine (CountTrees_any _ _ _).mono ?_
        rintro e w11 ⟨rfl, hb11⟩
        rw [big_count]
        have HQ11 := Lib.hid (HQ10.out.trans (hb11.mono HQ10.out.size))
        go_wp2_with fail
        go_ret
        exact ⟨rfl, HQ11.out⟩
end Go.Proofs.Ytiecphhenpapoaa
