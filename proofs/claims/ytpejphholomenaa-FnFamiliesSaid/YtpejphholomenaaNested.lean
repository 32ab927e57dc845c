/- Contracts of isNested and of AreNested of the program and of the reference. -/
import Derived.Test.YtpejphholomenaaSpotsOk
namespace Go.Proofs.Ytpejphholomenaa
open Go.RowKit

/-- At k the points do not go on to the right and down. -/
def nestBad (ps : List (Int × Int)) (k : Nat) : Bool := decide (px ps k ≤ px ps (k - 1)) || decide (py ps (k - 1) ≤ py ps k)
def nestB (ps : List (Int × Int)) : Bool := upFrom (fun k => !nestBad ps k) 1 ps.length
def nestedB (ps qs : List (Int × Int)) : Bool := spotsOkB ps qs && nestB ps && nestB qs
theorem nest_cases (b1 b2 : Bool) : b1 = true ∨ (b1 = false ∧ b2 = true) ∨ (b1 = false ∧ b2 = false) := by cases b1 <;> cases b2 <;> simp

/-- The two cells of the element at k, at a world that has turned nothing below B. -/
theorem RdQ.two {w wr : World} {B : Nat} {A : Option Addr} {ps : List (Int × Int)} (h : RdQ w B A ps) (hb : Below w.heap.size w wr) (hB : B ≤ w.heap.size) {ad : Addr} (hA : A = some ad) {k : Nat} (hk : k < ps.length) :
    wr.cell? (ad.add (k * 2)) = some (.int .i64 (px ps k)) ∧ wr.cell? ⟨(ad.add (k * 2)).block, (ad.add (k * 2)).off + 1, none⟩ = some (.int .i64 (py ps k)) := by
  obtain ⟨ad', e, hl, hx, hy⟩ := h k hk
  obtain rfl : ad = ad' := Option.some.inj (hA.symm.trans e)
  have l1 : (ad.add (k * 2)).block < w.heap.size := by rw [addBlock]; omega
  exact ⟨(hb.cell l1).trans hx, (hb.cell (p := ⟨(ad.add (k * 2)).block, (ad.add (k * 2)).off + 1, none⟩) l1).trans hy⟩

set_option maxHeartbeats 1000000 in
theorem isNested_any (v : Value) (ps : List (Int × Int)) (B : Nat) (w : World) (h : RdP w B v ps) (hB : B ≤ w.heap.size) :
    Calls Try.prog 69 #[v] w fun e w' => e = .returned (.bool (nestB ps)) ∧ Below w.heap.size w w' := by
  obtain ⟨A, c, rfl, g1, g2, g3⟩ := h
  unfold maxLen at g2
  have G3 := Lib.hid g3; clear g3
  generalize hr : nestB ps = r
  have HR : Hid (upFrom (fun k => !nestBad ps k) 1 ps.length = r) := hr
  clear hr
  go_enter Try.func69, Try.ntmps69
  go_wp2_with fail
  go_loopw [3] (fun i wr => ∃ k : Nat, 1 ≤ k ∧ i = .int .i64 k ∧ Hid (upFrom (fun k => !nestBad ps k) k ps.length = r) ∧ Below w.heap.size w wr) (fun i _ => ps.length - (intOf i).toNat)
  case atStart => exact ⟨1, Nat.le_refl _, rfl, HR, Below.refl _ _⟩
  case round =>
    obtain ⟨k, hk1, rfl, HE, hd⟩ := hrel
    by_cases hlt : k < ps.length
    · have hs := upFrom_step (fun k => !nestBad ps k) k ps.length hlt
      obtain ⟨ad, rfl, hb, _, _⟩ := G3.out k hlt
      obtain ⟨c1, c2⟩ := RdQ.two G3.out hd hB rfl hlt
      obtain ⟨c3, c4⟩ := RdQ.two G3.out hd hB rfl (show k - 1 < ps.length by omega)
      have e1 : IntKind.i64.wrap ((k : Int) - 1) = (k : Int) - 1 := IntWalk.i64_in _ (by omega)
      have e2 : 0 ≤ (k : Int) - 1 := by omega
      have e3 : ((k : Int) - 1).toNat = k - 1 := by omega
      have e4 : (k : Int) - 1 < (ps.length : Int) := by omega
      have e5 : (k : Int) < (ps.length : Int) := by omega
      have e6 : 0 ≤ (k : Int) := by omega
      rcases nest_cases (decide (px ps k ≤ px ps (k - 1))) (decide (py ps (k - 1) ≤ py ps k)) with b1 | ⟨b1, b2⟩ | ⟨b1, b2⟩
      · have HF : Hid (r = false) := by unfold Hid; rw [← HE.out, hs, nestBad, b1]; rfl
        clear hs
        go_wp2_with fail
        go_quiet (fail)
        go_wp2_with fail
        go_ret
        exact ⟨ret_bool HF.out.symm, hd.trans (Drawn.below ⟨_, rfl⟩ _)⟩
      · have HF : Hid (r = false) := by unfold Hid; rw [← HE.out, hs, nestBad, b1, b2]; rfl
        clear hs
        go_wp2_with fail
        go_quiet (fail)
        go_wp2_with fail
        go_ret
        exact ⟨ret_bool HF.out.symm, hd.trans (Drawn.below ⟨_, rfl⟩ _)⟩
      · have HN : Hid (upFrom (fun k => !nestBad ps k) (k + 1) ps.length = r) := by unfold Hid; rw [← HE.out, hs, nestBad, b1, b2]; rfl
        clear hs
        go_wp2_with fail
        go_quiet (fail)
        go_wp2_with fail
        go_roundw
        case rel => exact ⟨k + 1, by omega, by go_num, HN, hd.trans (Drawn.below ⟨_, rfl⟩ _)⟩
        case measure => simp [intOf]; omega
    · have HF : Hid (r = true) := by unfold Hid; rw [← HE.out, upFrom_end _ k _ (by omega)]
      go_wp2_with fail
      go_ret
      exact ⟨ret_bool HF.out.symm, hd⟩

set_option maxHeartbeats 1000000 in
theorem AreNested_any (u v : Value) (ps qs : List (Int × Int)) (B : Nat) (w : World) (hu : RdP w B u ps) (hv : RdP w B v qs) (hB : B ≤ w.heap.size) :
    Calls Try.prog 20 #[u, v] w fun e w' => e = .returned (.bool (nestedB ps qs)) ∧ Below w.heap.size w w' := by
  have HU := Lib.hid hu; have HV := Lib.hid hv
  clear hu hv
  cases i1 : spotsOkB ps qs
  · rw [show nestedB ps qs = false from by rw [nestedB, i1]; rfl]
    go_enter Try.func20, Try.ntmps20
    go_wp2_with fail
    refine (SpotsOk_any _ _ ps qs B _ HU.out HV.out hB).mono ?_
    rintro e w1 ⟨rfl, hb1⟩
    go_wp2_with fail
    go_ret
    exact ⟨rfl, hb1⟩
  · cases i2 : nestB ps
    · rw [show nestedB ps qs = false from by rw [nestedB, i1, i2]; rfl]
      go_enter Try.func20, Try.ntmps20
      go_wp2_with fail
      refine (SpotsOk_any _ _ ps qs B _ HU.out HV.out hB).mono ?_
      rintro e w1 ⟨rfl, hb1⟩
      go_wp2_with fail
      refine (isNested_any _ ps B _ (HU.out.below (hb1.mono hB)) (Nat.le_trans hB hb1.size)).mono ?_
      rintro e w2 ⟨rfl, hb2⟩
      go_wp2_with fail
      go_ret
      exact ⟨rfl, hb1.trans (hb2.mono hb1.size)⟩
    · rw [show nestedB ps qs = nestB qs from by rw [nestedB, i1, i2]; rfl]
      go_enter Try.func20, Try.ntmps20
      go_wp2_with fail
      refine (SpotsOk_any _ _ ps qs B _ HU.out HV.out hB).mono ?_
      rintro e w1 ⟨rfl, hb1⟩
      go_wp2_with fail
      refine (isNested_any _ ps B _ (HU.out.below (hb1.mono hB)) (Nat.le_trans hB hb1.size)).mono ?_
      rintro e w2 ⟨rfl, hb2⟩
      have hb3 := hb1.trans (hb2.mono hb1.size)
      go_wp2_with fail
      refine (isNested_any _ qs B _ (HV.out.below (hb3.mono hB)) (Nat.le_trans hB hb3.size)).mono ?_
      rintro e w3 ⟨rfl, hb4⟩
      go_wp2_with fail
      go_ret
      exact ⟨rfl, hb3.trans (hb4.mono hb3.size)⟩

theorem five : ∀ b1 b2 b3 b4 : Bool, b1 = true ∨ (b1 = false ∧ b2 = true) ∨ (b1 = false ∧ b2 = false ∧ b3 = true) ∨ (b1 = false ∧ b2 = false ∧ b3 = false ∧ b4 = true) ∨ (b1 = false ∧ b2 = false ∧ b3 = false ∧ b4 = false) := by decide
theorem nested_both (ps qs : List (Int × Int)) (h : spotsOkB ps qs = true) : nestedB ps qs = upFrom (fun k => !nestBad ps k && !nestBad qs k) 1 ps.length ∧ qs.length = ps.length := by
  have hl : qs.length = ps.length := by
    simp only [spotsOkB, Bool.and_eq_true, decide_eq_true_eq] at h; omega
  refine ⟨?_, hl⟩
  rw [Bool.eq_iff_iff]
  simp only [nestedB, h, nestB, Bool.true_and, Bool.and_eq_true, upFrom_iff, hl]
  exact ⟨fun ⟨a, b⟩ j h1 h2 => ⟨a j h1 h2, b j h1 h2⟩, fun a => ⟨fun j h1 h2 => (a j h1 h2).1, fun j h1 h2 => (a j h1 h2).2⟩⟩

end Go.Proofs.Ytpejphholomenaa
