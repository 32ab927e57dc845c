/- The contract of IsHeap; what a slice of slices of integers reads as. -/
import Derived.Test.YtgehollikdbapaaHeapLaw
namespace Go.Proofs.Ytgehollikdbapaa
open Go.RowKit

theorem Rd.el {w : World} {B : Nat} {A : Option Addr} {zs : List Int} (h : Rd w B A (zs.map (Value.int .i64))) {k : Nat} (hk : k < zs.length) :
    ∃ ad, A = some ad ∧ ad.block < B ∧ w.cell? (ad.add k) = some (.int .i64 (el zs k)) := by
  rw [el_get zs k hk]; exact h.int hk

/-- v is a slice of slices that reads as zss. -/
def RdII (w : World) (B : Nat) (v : Value) (zss : List (List Int)) : Prop :=
  ∃ A c vs, v = .slice A zss.length c ∧ zss.length ≤ c ∧ c ≤ maxLen ∧ vs.length = zss.length ∧ Rd w B A vs ∧ ∀ i u, vs[i]? = some u → RdI w B u (rw' zss i)
theorem RdII.below {w w' : World} {B : Nat} {v : Value} {zss : List (List Int)} (h : RdII w B v zss) (hb : Below B w w') : RdII w' B v zss := by
  obtain ⟨A, c, vs, e, h1, h2, h3, h4, h5⟩ := h
  exact ⟨A, c, vs, e, h1, h2, h3, h4.below hb, fun i u hu => (h5 i u hu).below hb⟩
theorem RdII.more {w : World} {B B' : Nat} {v : Value} {zss : List (List Int)} (h : RdII w B v zss) (hb : B ≤ B') : RdII w B' v zss := by
  obtain ⟨A, c, vs, e, h1, h2, h3, h4, h5⟩ := h
  exact ⟨A, c, vs, e, h1, h2, h3, h4.more hb, fun i u hu => (h5 i u hu).more hb⟩
/-- The row at an index. -/
def RowAt (w : World) (B : Nat) (A : Option Addr) (zss : List (List Int)) : Prop :=
  ∀ i, i < zss.length → ∃ ad u, A = some ad ∧ ad.block < B ∧ w.cell? (ad.add i) = some u ∧ RdI w B u (rw' zss i)
theorem RdII.open_ {w : World} {B : Nat} {v : Value} {zss : List (List Int)} (h : RdII w B v zss) : ∃ A c, v = .slice A zss.length c ∧ zss.length ≤ c ∧ c ≤ maxLen ∧ RowAt w B A zss := by
  obtain ⟨A, c, vs, e, h1, h2, h3, h4, h5⟩ := h
  refine ⟨A, c, e, h1, h2, fun i hi => ?_⟩
  obtain ⟨ad, ha, hb, hc⟩ := h4.at (k := i) (by omega)
  exact ⟨ad, vs[i]'(by omega), ha, hb, hc, h5 i _ (List.getElem?_eq_getElem (by omega))⟩

set_option maxHeartbeats 4000000 in
theorem IsHeap_in (a b c : Int) (v : Value) (zss : List (List Int)) (B : Nat) (w : World) (h : RdII w B v zss) (hB : B ≤ w.heap.size)
    (hbox : boxB a b c = true) (hlen : (zss.length : Int) = a) :
    Calls Try.prog 23 #[.int .i64 a, .int .i64 b, .int .i64 c, v] w fun e w' => e = .returned (.bool (heapB a b c zss)) ∧ Below w.heap.size w w' := by
  obtain ⟨A, cp, rfl, h1, h2, h3⟩ := h.open_
  unfold maxLen at h2
  clear h
  have hr : heapB a b c zss = upFrom (fun i => hrowB b c (rw' zss (i - 1)) (rw' zss i) i) 0 zss.length := by simp [heapB, hbox, hlen]
  generalize heapB a b c zss = r at *
  have HR : Hid (upFrom (fun i => hrowB b c (rw' zss (i - 1)) (rw' zss i) i) 0 zss.length = r) := hr.symm
  clear hr
  have hne : ((zss.length : Int) != a) = false := by rw [bne_eq_false_iff_eq]; exact hlen
  clear hlen
  have H3 := Lib.hid h3
  clear h3
  go_enter Try.func23, Try.ntmps23
  go_wp2_with fail
  refine (BoxOk_any _ _ _ _).mono ?_
  rintro e w0 ⟨rfl, hw0⟩
  go_wp2_with fail
  go_loopw [25] (fun s wr => ∃ i : Nat, i ≤ zss.length ∧ s = .int .i64 i ∧ Hid (upFrom (fun i => hrowB b c (rw' zss (i - 1)) (rw' zss i) i) i zss.length = r) ∧ Hid (0 < i → ((rw' zss (i - 1)).length : Int) = b) ∧ Below w.heap.size w wr) (fun s _ => zss.length - (intOf s).toNat)
  case atStart => exact ⟨0, Nat.zero_le _, rfl, HR, (fun h => absurd h (Nat.lt_irrefl 0)), hw0⟩
  case round =>
    obtain ⟨i, hi, rfl, HE, HL, hb⟩ := hrel
    by_cases hlt : i < zss.length
    · have hs := upFrom_step (fun i => hrowB b c (rw' zss (i - 1)) (rw' zss i) i) i zss.length hlt
      obtain ⟨ad, u, rfl, hbl, hc, A', c', rfl, g1, g2, g3⟩ := H3.out i hlt
      unfold maxLen at g2
      have hc' := (hb.cell (p := ad.add i) (by rw [addBlock]; omega)).trans hc
      clear hc
      by_cases hlb : ((rw' zss i).length : Int) = b
      · cases hall : allB (rw' zss i) 0 c
        · have HF : Hid (r = false) := by unfold Hid; rw [← HE.out, hs, hrowB, hall]; simp
          have hnb : (((rw' zss i).length : Int) != b) = false := by rw [bne_eq_false_iff_eq]; exact hlb
          clear hs hlb
          go_wp2_with fail
          refine (allWithin_any _ (rw' zss i) _ _ B _ ⟨_, _, rfl, g1, by unfold maxLen; omega, g3.below (hb.mono hB)⟩).mono ?_
          rintro e w1 ⟨rfl, rfl⟩
          go_wp2_with fail
          go_ret
          exact ⟨ret_bool HF.out.symm, hb⟩
        · have hro : hrowB b c (rw' zss (i - 1)) (rw' zss i) i = upFrom (fun k => !(fallB (rw' zss i) k || overB (rw' zss (i - 1)) (rw' zss i) i k)) 0 (rw' zss i).length := by
            simp [hrowB, hlb, hall]
          have hnb : (((rw' zss i).length : Int) != b) = false := by rw [bne_eq_false_iff_eq]; exact hlb
          have HI : Hid ((upFrom (fun k => !(fallB (rw' zss i) k || overB (rw' zss (i - 1)) (rw' zss i) i k)) 0 (rw' zss i).length && upFrom (fun i => hrowB b c (rw' zss (i - 1)) (rw' zss i) i) (i + 1) zss.length) = r) := by
            unfold Hid; rw [← HE.out, hs, hro]
          have HLB := Lib.hid hlb
          clear hs hro hlb
          go_wp2_with fail
          refine (allWithin_any _ (rw' zss i) _ _ B _ ⟨_, _, rfl, g1, by unfold maxLen; omega, g3.below (hb.mono hB)⟩).mono ?_
          rintro e w1 ⟨rfl, rfl⟩
          go_wp2_with fail
          go_loopw [42] (fun s wr => ∃ k : Nat, k ≤ (rw' zss i).length ∧ s = .int .i64 k ∧ Hid ((upFrom (fun k => !(fallB (rw' zss i) k || overB (rw' zss (i - 1)) (rw' zss i) i k)) k (rw' zss i).length && upFrom (fun i => hrowB b c (rw' zss (i - 1)) (rw' zss i) i) (i + 1) zss.length) = r) ∧ Below w.heap.size w wr) (fun s _ => (rw' zss i).length - (intOf s).toNat)
          case atStart => exact ⟨0, Nat.zero_le _, rfl, HI, hb⟩
          case round =>
            obtain ⟨k, hk, rfl, HE2, hb2⟩ := hrel
            clear hc' hb
            by_cases hlk : k < (rw' zss i).length
            · have hs := upFrom_step (fun k => !(fallB (rw' zss i) k || overB (rw' zss (i - 1)) (rw' zss i) i k)) k (rw' zss i).length hlk
              obtain ⟨ad', rfl, hbl', hck⟩ := g3.el hlk
              have hckw := (hb2.cell (p := ad'.add k) (by rw [addBlock]; omega)).trans hck
              clear hck
              have hkz : (0 : Int) ≤ (k : Int) := by omega
              have hkl : (k : Int) < ((rw' zss i).length : Int) := by omega
              rcases seven (decide (0 < k)) (decide (el (rw' zss i) (k - 1) < el (rw' zss i) k)) (decide (0 < i)) (decide (el (rw' zss (i - 1)) k < el (rw' zss i) k)) with ⟨b1, b2⟩ | ⟨b1, b3⟩ | ⟨b1, b3, b4⟩ | ⟨b1, b3, b4⟩ | ⟨b1, b2, b3⟩ | ⟨b1, b2, b3, b4⟩ | ⟨b1, b2, b3, b4⟩
              · have HF : Hid (r = false) := by
                  unfold Hid; rw [← HE2.out, hs, show (!(fallB (rw' zss i) k || overB (rw' zss (i - 1)) (rw' zss i) i k)) = false from by rw [fallB, b1, b2]; rfl, Bool.false_and]; rfl
                have hk0 : 0 < k := by simpa using b1
                obtain ⟨ad2, had2, _, hck1⟩ := g3.el (show k - 1 < (rw' zss i).length by omega)
                obtain rfl : ad' = ad2 := Option.some.inj had2
                have hck1w := (hb2.cell (p := ad'.add (k - 1)) (by rw [addBlock]; omega)).trans hck1
                clear hck1 had2
                have e1 : IntKind.i64.wrap ((k : Int) - 1) = (k : Int) - 1 := IntWalk.i64_in _ (by omega)
                have e2 : 0 ≤ (k : Int) - 1 := by omega
                have e3 : ((k : Int) - 1).toNat = k - 1 := by omega
                have e4 : (k : Int) - 1 < ((rw' zss i).length : Int) := by omega
                clear hs
                go_wp2_with fail
                go_quiet (fail)
                go_wp2_with fail
                go_ret
                exact ⟨ret_bool HF.out.symm, hb2.trans (Drawn.below ⟨_, rfl⟩ _)⟩
              · have HN : Hid ((upFrom (fun k => !(fallB (rw' zss i) k || overB (rw' zss (i - 1)) (rw' zss i) i k)) (k + 1) (rw' zss i).length && upFrom (fun i => hrowB b c (rw' zss (i - 1)) (rw' zss i) i) (i + 1) zss.length) = r) := by
                  unfold Hid; rw [← HE2.out, hs, show (!(fallB (rw' zss i) k || overB (rw' zss (i - 1)) (rw' zss i) i k)) = true from by rw [fallB, overB, b1, b3, Bool.false_and, Bool.false_and]; rfl, Bool.true_and]
                clear hs
                go_wp2_with fail
                go_quiet (fail)
                go_wp2_with fail
                go_roundw
                case rel => exact ⟨k + 1, by omega, by go_num, HN, hb2.trans (Drawn.below ⟨_, rfl⟩ _)⟩
                case measure => simp [intOf]; omega
              · have HF : Hid (r = false) := by
                  unfold Hid; rw [← HE2.out, hs, show (!(fallB (rw' zss i) k || overB (rw' zss (i - 1)) (rw' zss i) i k)) = false from by rw [fallB, overB, b1, b3, b4]; rfl, Bool.false_and]; rfl
                have hi0 : 0 < i := by simpa using b3
                obtain ⟨ad3, u3, had3, hbl3, hc3, A3, c3, rfl, q1, q2, q3⟩ := H3.out (i - 1) (by omega)
                obtain rfl : ad = ad3 := Option.some.inj had3
                have hlu : k < (rw' zss (i - 1)).length := by have h5 := HL.out hi0; have h6 := HLB.out; omega
                have hlu2 : (k : Int) < ((rw' zss (i - 1)).length : Int) := by omega
                obtain ⟨ad4, rfl, hbl4, hck4⟩ := q3.el hlu
                unfold maxLen at q2
                have hc3w := (hb2.cell (p := ad.add (i - 1)) (by rw [addBlock]; omega)).trans hc3
                have hck4w := (hb2.cell (p := ad4.add k) (by rw [addBlock]; omega)).trans hck4
                clear hc3 hck4 had3
                have e5 : IntKind.i64.wrap ((i : Int) - 1) = (i : Int) - 1 := IntWalk.i64_in _ (by omega)
                have e6 : 0 ≤ (i : Int) - 1 := by omega
                have e7 : ((i : Int) - 1).toNat = i - 1 := by omega
                have e8 : (i : Int) - 1 < (zss.length : Int) := by omega
                clear hs
                go_wp2_with fail
                go_quiet (fail)
                go_wp2_with fail
                go_ret
                exact ⟨ret_bool HF.out.symm, hb2.trans (Drawn.below ⟨_, rfl⟩ _)⟩
              · have HN : Hid ((upFrom (fun k => !(fallB (rw' zss i) k || overB (rw' zss (i - 1)) (rw' zss i) i k)) (k + 1) (rw' zss i).length && upFrom (fun i => hrowB b c (rw' zss (i - 1)) (rw' zss i) i) (i + 1) zss.length) = r) := by
                  unfold Hid; rw [← HE2.out, hs, show (!(fallB (rw' zss i) k || overB (rw' zss (i - 1)) (rw' zss i) i k)) = true from by rw [fallB, overB, b1, b3, b4, Bool.false_and]; rfl, Bool.true_and]
                have hi0 : 0 < i := by simpa using b3
                obtain ⟨ad3, u3, had3, hbl3, hc3, A3, c3, rfl, q1, q2, q3⟩ := H3.out (i - 1) (by omega)
                obtain rfl : ad = ad3 := Option.some.inj had3
                have hlu : k < (rw' zss (i - 1)).length := by have h5 := HL.out hi0; have h6 := HLB.out; omega
                have hlu2 : (k : Int) < ((rw' zss (i - 1)).length : Int) := by omega
                obtain ⟨ad4, rfl, hbl4, hck4⟩ := q3.el hlu
                unfold maxLen at q2
                have hc3w := (hb2.cell (p := ad.add (i - 1)) (by rw [addBlock]; omega)).trans hc3
                have hck4w := (hb2.cell (p := ad4.add k) (by rw [addBlock]; omega)).trans hck4
                clear hc3 hck4 had3
                have e5 : IntKind.i64.wrap ((i : Int) - 1) = (i : Int) - 1 := IntWalk.i64_in _ (by omega)
                have e6 : 0 ≤ (i : Int) - 1 := by omega
                have e7 : ((i : Int) - 1).toNat = i - 1 := by omega
                have e8 : (i : Int) - 1 < (zss.length : Int) := by omega
                clear hs
                go_wp2_with fail
                go_quiet (fail)
                go_wp2_with fail
                go_roundw
                case rel => exact ⟨k + 1, by omega, by go_num, HN, hb2.trans (Drawn.below ⟨_, rfl⟩ _)⟩
                case measure => simp [intOf]; omega
              · have HN : Hid ((upFrom (fun k => !(fallB (rw' zss i) k || overB (rw' zss (i - 1)) (rw' zss i) i k)) (k + 1) (rw' zss i).length && upFrom (fun i => hrowB b c (rw' zss (i - 1)) (rw' zss i) i) (i + 1) zss.length) = r) := by
                  unfold Hid; rw [← HE2.out, hs, show (!(fallB (rw' zss i) k || overB (rw' zss (i - 1)) (rw' zss i) i k)) = true from by rw [fallB, overB, b1, b2, b3, Bool.false_and]; rfl, Bool.true_and]
                have hk0 : 0 < k := by simpa using b1
                obtain ⟨ad2, had2, _, hck1⟩ := g3.el (show k - 1 < (rw' zss i).length by omega)
                obtain rfl : ad' = ad2 := Option.some.inj had2
                have hck1w := (hb2.cell (p := ad'.add (k - 1)) (by rw [addBlock]; omega)).trans hck1
                clear hck1 had2
                have e1 : IntKind.i64.wrap ((k : Int) - 1) = (k : Int) - 1 := IntWalk.i64_in _ (by omega)
                have e2 : 0 ≤ (k : Int) - 1 := by omega
                have e3 : ((k : Int) - 1).toNat = k - 1 := by omega
                have e4 : (k : Int) - 1 < ((rw' zss i).length : Int) := by omega
                clear hs
                go_wp2_with fail
                go_quiet (fail)
                go_wp2_with fail
                go_roundw
                case rel => exact ⟨k + 1, by omega, by go_num, HN, hb2.trans (Drawn.below ⟨_, rfl⟩ _)⟩
                case measure => simp [intOf]; omega
              · have HF : Hid (r = false) := by
                  unfold Hid; rw [← HE2.out, hs, show (!(fallB (rw' zss i) k || overB (rw' zss (i - 1)) (rw' zss i) i k)) = false from by rw [fallB, overB, b1, b2, b3, b4]; rfl, Bool.false_and]; rfl
                have hk0 : 0 < k := by simpa using b1
                obtain ⟨ad2, had2, _, hck1⟩ := g3.el (show k - 1 < (rw' zss i).length by omega)
                obtain rfl : ad' = ad2 := Option.some.inj had2
                have hck1w := (hb2.cell (p := ad'.add (k - 1)) (by rw [addBlock]; omega)).trans hck1
                clear hck1 had2
                have e1 : IntKind.i64.wrap ((k : Int) - 1) = (k : Int) - 1 := IntWalk.i64_in _ (by omega)
                have e2 : 0 ≤ (k : Int) - 1 := by omega
                have e3 : ((k : Int) - 1).toNat = k - 1 := by omega
                have e4 : (k : Int) - 1 < ((rw' zss i).length : Int) := by omega
                have hi0 : 0 < i := by simpa using b3
                obtain ⟨ad3, u3, had3, hbl3, hc3, A3, c3, rfl, q1, q2, q3⟩ := H3.out (i - 1) (by omega)
                obtain rfl : ad = ad3 := Option.some.inj had3
                have hlu : k < (rw' zss (i - 1)).length := by have h5 := HL.out hi0; have h6 := HLB.out; omega
                have hlu2 : (k : Int) < ((rw' zss (i - 1)).length : Int) := by omega
                obtain ⟨ad4, rfl, hbl4, hck4⟩ := q3.el hlu
                unfold maxLen at q2
                have hc3w := (hb2.cell (p := ad.add (i - 1)) (by rw [addBlock]; omega)).trans hc3
                have hck4w := (hb2.cell (p := ad4.add k) (by rw [addBlock]; omega)).trans hck4
                clear hc3 hck4 had3
                have e5 : IntKind.i64.wrap ((i : Int) - 1) = (i : Int) - 1 := IntWalk.i64_in _ (by omega)
                have e6 : 0 ≤ (i : Int) - 1 := by omega
                have e7 : ((i : Int) - 1).toNat = i - 1 := by omega
                have e8 : (i : Int) - 1 < (zss.length : Int) := by omega
                clear hs
                go_wp2_with fail
                go_quiet (fail)
                go_wp2_with fail
                go_ret
                exact ⟨ret_bool HF.out.symm, hb2.trans (Drawn.below ⟨_, rfl⟩ _)⟩
              · have HN : Hid ((upFrom (fun k => !(fallB (rw' zss i) k || overB (rw' zss (i - 1)) (rw' zss i) i k)) (k + 1) (rw' zss i).length && upFrom (fun i => hrowB b c (rw' zss (i - 1)) (rw' zss i) i) (i + 1) zss.length) = r) := by
                  unfold Hid; rw [← HE2.out, hs, show (!(fallB (rw' zss i) k || overB (rw' zss (i - 1)) (rw' zss i) i k)) = true from by rw [fallB, overB, b1, b2, b3, b4]; rfl, Bool.true_and]
                have hk0 : 0 < k := by simpa using b1
                obtain ⟨ad2, had2, _, hck1⟩ := g3.el (show k - 1 < (rw' zss i).length by omega)
                obtain rfl : ad' = ad2 := Option.some.inj had2
                have hck1w := (hb2.cell (p := ad'.add (k - 1)) (by rw [addBlock]; omega)).trans hck1
                clear hck1 had2
                have e1 : IntKind.i64.wrap ((k : Int) - 1) = (k : Int) - 1 := IntWalk.i64_in _ (by omega)
                have e2 : 0 ≤ (k : Int) - 1 := by omega
                have e3 : ((k : Int) - 1).toNat = k - 1 := by omega
                have e4 : (k : Int) - 1 < ((rw' zss i).length : Int) := by omega
                have hi0 : 0 < i := by simpa using b3
                obtain ⟨ad3, u3, had3, hbl3, hc3, A3, c3, rfl, q1, q2, q3⟩ := H3.out (i - 1) (by omega)
                obtain rfl : ad = ad3 := Option.some.inj had3
                have hlu : k < (rw' zss (i - 1)).length := by have h5 := HL.out hi0; have h6 := HLB.out; omega
                have hlu2 : (k : Int) < ((rw' zss (i - 1)).length : Int) := by omega
                obtain ⟨ad4, rfl, hbl4, hck4⟩ := q3.el hlu
                unfold maxLen at q2
                have hc3w := (hb2.cell (p := ad.add (i - 1)) (by rw [addBlock]; omega)).trans hc3
                have hck4w := (hb2.cell (p := ad4.add k) (by rw [addBlock]; omega)).trans hck4
                clear hc3 hck4 had3
                have e5 : IntKind.i64.wrap ((i : Int) - 1) = (i : Int) - 1 := IntWalk.i64_in _ (by omega)
                have e6 : 0 ≤ (i : Int) - 1 := by omega
                have e7 : ((i : Int) - 1).toNat = i - 1 := by omega
                have e8 : (i : Int) - 1 < (zss.length : Int) := by omega
                clear hs
                go_wp2_with fail
                go_quiet (fail)
                go_wp2_with fail
                go_roundw
                case rel => exact ⟨k + 1, by omega, by go_num, HN, hb2.trans (Drawn.below ⟨_, rfl⟩ _)⟩
                case measure => simp [intOf]; omega
            · have hik : k = (rw' zss i).length := by omega
              have HI2 : Hid (upFrom (fun i => hrowB b c (rw' zss (i - 1)) (rw' zss i) i) (i + 1) zss.length = r) := by
                unfold Hid; rw [← HE2.out, upFrom_end _ k _ (by omega)]; rfl
              clear hik
              go_wp2_with fail
              go_roundw
              case rel => exact ⟨i + 1, by omega, by go_num, HI2, fun _ => HLB.out, hb2⟩
              case measure => simp [intOf]; omega
      · have HF : Hid (r = false) := by unfold Hid; rw [← HE.out, hs, hrowB]; simp [hlb]
        have hnb : (((rw' zss i).length : Int) != b) = true := by rw [bne_iff_ne]; exact hlb
        clear hs hlb
        go_wp2_with fail
        go_ret
        exact ⟨ret_bool HF.out.symm, hb⟩
    · have HF : Hid (r = true) := by unfold Hid; rw [← HE.out, upFrom_end _ _ _ (by omega)]
      go_wp2_with fail
      go_ret
      exact ⟨ret_bool HF.out.symm, hb⟩

theorem IsHeap_any (a b c : Int) (v : Value) (zss : List (List Int)) (B : Nat) (w : World) (h : RdII w B v zss) (hB : B ≤ w.heap.size) :
    Calls Try.prog 23 #[.int .i64 a, .int .i64 b, .int .i64 c, v] w fun e w' => e = .returned (.bool (heapB a b c zss)) ∧ Below w.heap.size w w' := by
  cases hbox : boxB a b c
  · obtain ⟨A, cp, rfl, h1, h2, h3⟩ := h.open_
    rw [show heapB a b c zss = false from by rw [heapB, hbox]; rfl]
    go_enter Try.func23, Try.ntmps23
    go_wp2_with fail
    refine (BoxOk_any _ _ _ _).mono ?_
    rintro e w0 ⟨rfl, hw0⟩
    go_wp2_with fail
    go_ret
    exact ⟨rfl, hw0⟩
  · by_cases hlen : (zss.length : Int) = a
    · exact IsHeap_in a b c v zss B w h hB hbox hlen
    · obtain ⟨A, cp, rfl, h1, h2, h3⟩ := h.open_
      rw [show heapB a b c zss = false from by rw [heapB, hbox, decide_eq_false hlen]; rfl]
      unfold maxLen at h2
      have hne : ((zss.length : Int) != a) = true := by rw [bne_iff_ne]; exact hlen
      clear hlen
      go_enter Try.func23, Try.ntmps23
      go_wp2_with fail
      refine (BoxOk_any _ _ _ _).mono ?_
      rintro e w0 ⟨rfl, hw0⟩
      go_wp2_with fail
      go_ret
      exact ⟨rfl, hw0⟩
end Go.Proofs.Ytgehollikdbapaa
