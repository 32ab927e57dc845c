/- Contracts of l22Row (a row of the reference) and of ArePathsApart of the program and of the reference. -/
import Derived.Test.YtbaghclblnialaaHeap
namespace Go.Proofs.Ytbaghclblnialaa
open Go.RowKit

/-- A contract that leaves the world alone, for a region that draws. -/
theorem quietLeft {P : Program} {f : FuncId} {args : Array Value} {w : World} {n : Nat} {v : Value}
    (h : Calls P f args (w.drewN n) fun e w' => e = .returned v ∧ w.drewN n = w') : Calls P f args (w.drewN n) fun e w'' => e = .returned v ∧ ∃ m, w'' = w.drewN m :=
  h.mono fun _ _ ⟨he, hm⟩ => ⟨he, n, hm.symm⟩

theorem three_ : ∀ b1 b2 b3 : Bool, b1 = false ∨ (b1 = true ∧ b2 = false) ∨ (b1 = true ∧ b2 = true ∧ b3 = false) ∨ (b1 = true ∧ b2 = true ∧ b3 = true) := by decide

set_option maxHeartbeats 2000000 in
theorem l22Row_any (b c : Int) (v : Value) (zs : List Int) (B : Nat) (w : World) (h : RdI w B v zs) (hB : B ≤ w.heap.size) :
    Calls Try.prog 62 #[.int .i64 b, .int .i64 c, v] w fun e w' => e = .returned (.bool (rowB b c zs)) ∧ Below w.heap.size w w' := by
  obtain ⟨A, cp, rfl, h1, h2, h3⟩ := h
  unfold maxLen at h2
  generalize hr : rowB b c zs = r
  have HR : Hid ((upFrom (fun k => inB (el zs k) 0 c && !fallB zs k) 0 zs.length && (inB b 1 3 && inB c 1 3 && decide ((zs.length : Int) = b))) = r) := hr
  clear hr
  go_enter Try.func62, Try.ntmps62
  go_wp2_with fail
  go_loopw [7] (fun s wr => ∃ k : Nat, k ≤ zs.length ∧ s = .int .i64 k ∧ Hid ((upFrom (fun k => inB (el zs k) 0 c && !fallB zs k) k zs.length && (inB b 1 3 && inB c 1 3 && decide ((zs.length : Int) = b))) = r) ∧ Below w.heap.size w wr) (fun s _ => zs.length - (intOf s).toNat)
  case atStart => exact ⟨0, Nat.zero_le _, rfl, HR, Below.refl _ _⟩
  case round =>
    obtain ⟨k, hk, rfl, HE, hb⟩ := hrel
    by_cases hlk : k < zs.length
    · have hs := upFrom_step (fun k => inB (el zs k) 0 c && !fallB zs k) k zs.length hlk
      obtain ⟨ad, rfl, hbl, hck⟩ := h3.el hlk
      have hckw := (hb.cell (p := ad.add k) (by rw [addBlock]; omega)).trans hck
      clear hck
      have hkz : (0 : Int) ≤ (k : Int) := by omega
      have hkl : (k : Int) < (zs.length : Int) := by omega
      rcases three_ (inB (el zs k) 0 c) (decide (0 < k)) (decide (el zs (k - 1) < el zs k)) with b1 | ⟨b1, b2⟩ | ⟨b1, b2, b3⟩ | ⟨b1, b2, b3⟩
      · have HF : Hid (r = false) := by unfold Hid; rw [← HE.out, hs, b1]; rfl
        clear hs
        go_wp2_with fail
        go_quiet ((go_at_call 51; exact quietLeft (l01In_any _ _ _ _)))
        go_wp2_with fail
        go_ret
        exact ⟨ret_bool HF.out.symm, hb.trans (Drawn.below ⟨_, rfl⟩ _)⟩
      · have HN : Hid ((upFrom (fun k => inB (el zs k) 0 c && !fallB zs k) (k + 1) zs.length && (inB b 1 3 && inB c 1 3 && decide ((zs.length : Int) = b))) = r) := by
          unfold Hid; rw [← HE.out, hs, b1, fallB, b2]; rfl
        clear hs
        go_wp2_with fail
        go_quiet ((go_at_call 51; exact quietLeft (l01In_any _ _ _ _)))
        go_wp2_with fail
        go_roundw
        case rel => exact ⟨k + 1, by omega, by go_num, HN, hb.trans (Drawn.below ⟨_, rfl⟩ _)⟩
        case measure => simp [intOf]; omega
      · have HN : Hid ((upFrom (fun k => inB (el zs k) 0 c && !fallB zs k) (k + 1) zs.length && (inB b 1 3 && inB c 1 3 && decide ((zs.length : Int) = b))) = r) := by
          unfold Hid; rw [← HE.out, hs, b1, fallB, b2, b3]; rfl
        have hk0 : 0 < k := by simpa using b2
        obtain ⟨ad2, had2, _, hck1⟩ := h3.el (show k - 1 < zs.length by omega)
        obtain rfl : ad = ad2 := Option.some.inj had2
        have hck1w := (hb.cell (p := ad.add (k - 1)) (by rw [addBlock]; omega)).trans hck1
        clear hck1 had2
        have e1 : IntKind.i64.wrap ((k : Int) - 1) = (k : Int) - 1 := IntWalk.i64_in _ (by omega)
        have e2 : 0 ≤ (k : Int) - 1 := by omega
        have e3 : ((k : Int) - 1).toNat = k - 1 := by omega
        have e4 : (k : Int) - 1 < (zs.length : Int) := by omega
        clear hs
        go_wp2_with fail
        go_quiet ((go_at_call 51; exact quietLeft (l01In_any _ _ _ _)))
        go_wp2_with fail
        go_roundw
        case rel => exact ⟨k + 1, by omega, by go_num, HN, hb.trans (Drawn.below ⟨_, rfl⟩ _)⟩
        case measure => simp [intOf]; omega
      · have HF : Hid (r = false) := by unfold Hid; rw [← HE.out, hs, b1, fallB, b2, b3]; rfl
        have hk0 : 0 < k := by simpa using b2
        obtain ⟨ad2, had2, _, hck1⟩ := h3.el (show k - 1 < zs.length by omega)
        obtain rfl : ad = ad2 := Option.some.inj had2
        have hck1w := (hb.cell (p := ad.add (k - 1)) (by rw [addBlock]; omega)).trans hck1
        clear hck1 had2
        have e1 : IntKind.i64.wrap ((k : Int) - 1) = (k : Int) - 1 := IntWalk.i64_in _ (by omega)
        have e2 : 0 ≤ (k : Int) - 1 := by omega
        have e3 : ((k : Int) - 1).toNat = k - 1 := by omega
        have e4 : (k : Int) - 1 < (zs.length : Int) := by omega
        clear hs
        go_wp2_with fail
        go_quiet ((go_at_call 51; exact quietLeft (l01In_any _ _ _ _)))
        go_wp2_with fail
        go_ret
        exact ⟨ret_bool HF.out.symm, hb.trans (Drawn.below ⟨_, rfl⟩ _)⟩
    · have HN : Hid ((inB b 1 3 && inB c 1 3 && decide ((zs.length : Int) = b)) = r) := by
        unfold Hid; rw [← HE.out, upFrom_end _ k _ (by omega)]; rfl
      clear HE
      cases hb1 : inB b 1 3
      · have HF : Hid (r = false) := by unfold Hid; rw [← HN.out, hb1]; rfl
        go_wp2_with fail
        refine (l01In_any _ _ _ _).mono ?_
        rintro e w1 ⟨rfl, rfl⟩
        go_wp2_with fail
        go_ret
        exact ⟨ret_bool HF.out.symm, hb⟩
      · cases hc1 : inB c 1 3
        · have HF : Hid (r = false) := by unfold Hid; rw [← HN.out, hb1, hc1]; rfl
          go_wp2_with fail
          refine (l01In_any _ _ _ _).mono ?_
          rintro e w1 ⟨rfl, rfl⟩
          go_wp2_with fail
          refine (l01In_any _ _ _ _).mono ?_
          rintro e w1 ⟨rfl, rfl⟩
          go_wp2_with fail
          go_ret
          exact ⟨ret_bool HF.out.symm, hb⟩
        · have HF : Hid (r = ((zs.length : Int) == b)) := by
            unfold Hid; rw [← HN.out, hb1, hc1, Bool.true_and, Bool.true_and, Bool.eq_iff_iff]; simp
          go_wp2_with fail
          refine (l01In_any _ _ _ _).mono ?_
          rintro e w1 ⟨rfl, rfl⟩
          go_wp2_with fail
          refine (l01In_any _ _ _ _).mono ?_
          rintro e w1 ⟨rfl, rfl⟩
          go_wp2_with fail
          go_ret
          exact ⟨ret_bool HF.out.symm, hb⟩

theorem ArePathsApart_any (b c : Int) (u v : Value) (xs ys : List Int) (B : Nat) (w : World) (hu : RdI w B u xs) (hv : RdI w B v ys) (hB : B ≤ w.heap.size) :
    Calls Try.prog 35 #[.int .i64 b, .int .i64 c, u, v] w fun e w' => e = .returned (.bool (apartB b c xs ys)) ∧ Below w.heap.size w w' := by
  rw [← apart_heap]
  have hd : ∀ o, RdII (w.alloc (.cells #[u, v] o)) (w.heap.size + 1) (.slice (some ⟨w.heap.size, 0, none⟩) 2 2) [xs, ys] := fun o => by
    have hb := (Below.refl w.heap.size w).alloc (Nat.le_refl _) (.cells #[u, v] o)
    refine ⟨_, 2, [u, v], rfl, by simp, by decide, rfl, rd_new w #[u, v] o, fun i z hz => ?_⟩
    match i, hz with
    | 0, hz => obtain rfl : u = z := by simpa using hz
               exact (hu.below (hb.mono hB)).more (by omega)
    | 1, hz => obtain rfl : v = z := by simpa using hz
               exact (hv.below (hb.mono hB)).more (by omega)
    | n + 2, hz => simp at hz
  obtain ⟨A, cp, rfl, h1, h2, h3⟩ := hu
  obtain ⟨A', cp', rfl, h1', h2', h3'⟩ := hv
  have HD := Lib.hid hd; clear hd
  go_enter Try.func35, Try.ntmps35
  go_wp2_with fail
  refine (IsHeap_any _ _ _ _ [xs, ys] (w.heap.size + 1) _ (HD.out _) (by simp)).mono ?_
  rintro e w1 ⟨rfl, hb1⟩
  go_wp2_with fail
  go_ret
  exact ⟨rfl, ((Below.refl _ _).alloc (Nat.le_refl _) _).trans (hb1.mono (by simp))⟩

set_option maxHeartbeats 1000000 in
theorem specArePathsApart_any (b c : Int) (u v : Value) (xs ys : List Int) (B : Nat) (w : World) (hu : RdI w B u xs) (hv : RdI w B v ys) (hB : B ≤ w.heap.size) :
    Calls Try.prog 33 #[.int .i64 b, .int .i64 c, u, v] w fun e w' => e = .returned (.bool (apartB b c xs ys)) ∧ Below w.heap.size w w' := by
  obtain ⟨A, cp, eu, h1, h2, h3⟩ := id hu
  obtain ⟨A', cp', ev, h1', h2', h3'⟩ := id hv
  unfold maxLen at h2 h2'
  cases r1 : rowB b c xs
  · rw [show apartB b c xs ys = false from by rw [apartB, r1]; rfl]
    have HU := Lib.hid hu; have HV := Lib.hid hv
    clear hu hv
    subst eu; subst ev
    go_enter Try.func33, Try.ntmps33
    go_wp2_with fail
    refine (l22Row_any _ _ _ xs B _ HU.out hB).mono ?_
    rintro e w1 ⟨rfl, hb1⟩
    go_wp2_with fail
    go_ret
    exact ⟨rfl, hb1⟩
  · cases r2 : rowB b c ys
    · rw [show apartB b c xs ys = false from by rw [apartB, r1, r2]; rfl]
      have HU := Lib.hid hu; have HV := Lib.hid hv
      clear hu hv
      subst eu; subst ev
      go_enter Try.func33, Try.ntmps33
      go_wp2_with fail
      refine (l22Row_any _ _ _ xs B _ HU.out hB).mono ?_
      rintro e w1 ⟨rfl, hb1⟩
      go_wp2_with fail
      refine (l22Row_any _ _ _ ys B _ (HV.out.below (hb1.mono hB)) (Nat.le_trans hB hb1.size)).mono ?_
      rintro e w2 ⟨rfl, hb2⟩
      go_wp2_with fail
      go_ret
      exact ⟨rfl, hb1.trans (hb2.mono hb1.size)⟩
    · obtain ⟨_, hbb, _, hl1⟩ := (rowB_iff _ _ _).1 r1
      obtain ⟨_, _, _, hl2⟩ := (rowB_iff _ _ _).1 r2
      obtain ⟨n, rfl⟩ := Int.eq_ofNat_of_zero_le (show 0 ≤ b by omega)
      generalize hr : apartB n c xs ys = r
      have HR : Hid (upFrom (fun k => !decide (el xs k < el ys k)) 0 n = r) := by
        unfold Hid; rw [← hr, apartB, r1, r2]; rfl
      clear hr
      have HU := Lib.hid hu; have HV := Lib.hid hv
      have HL1 : xs.length = n := by omega
      have HL2 : ys.length = n := by omega
      clear hu hv hl1 hl2
      have HH1 := Lib.hid HL1; have HH2 := Lib.hid HL2
      clear HL1 HL2
      subst eu; subst ev
      go_enter Try.func33, Try.ntmps33
      go_wp2_with fail
      refine (l22Row_any _ _ _ xs B _ HU.out hB).mono ?_
      rintro e w1 ⟨rfl, hb1⟩
      go_wp2_with fail
      refine (l22Row_any _ _ _ ys B _ (HV.out.below (hb1.mono hB)) (Nat.le_trans hB hb1.size)).mono ?_
      rintro e w2 ⟨rfl, hb2⟩
      have hb3 := hb1.trans (hb2.mono hb1.size)
      go_wp2_with fail
      clear r1 r2
      go_loopw [9] (fun s wr => ∃ k : Nat, k ≤ n ∧ s = .int .i64 k ∧ Hid (upFrom (fun k => !decide (el xs k < el ys k)) k n = r) ∧ Below w.heap.size w wr) (fun s _ => n - (intOf s).toNat)
      case atStart => exact ⟨0, Nat.zero_le _, rfl, HR, hb3⟩
      case round =>
        obtain ⟨k, hk, rfl, HE, hb⟩ := hrel
        by_cases hlk : k < n
        · have hs := upFrom_step (fun k => !decide (el xs k < el ys k)) k n hlk
          obtain ⟨ad, rfl, hbl, hck⟩ := h3.el (show k < xs.length by have := HH1.out; omega)
          obtain ⟨ad', rfl, hbl', hck'⟩ := h3'.el (show k < ys.length by have := HH2.out; omega)
          have hckw := (hb.cell (p := ad.add k) (by rw [addBlock]; omega)).trans hck
          have hckw' := (hb.cell (p := ad'.add k) (by rw [addBlock]; omega)).trans hck'
          clear hck hck'
          have hkz : (0 : Int) ≤ (k : Int) := by omega
          have hkl : (k : Int) < (xs.length : Int) := by have := HH1.out; omega
          have hkl' : (k : Int) < (ys.length : Int) := by have := HH2.out; omega
          cases hd : decide (el xs k < el ys k)
          · have HN : Hid (upFrom (fun k => !decide (el xs k < el ys k)) (k + 1) n = r) := by unfold Hid; rw [← HE.out, hs, hd]; rfl
            clear hs
            go_wp2_with fail
            go_quiet (fail)
            go_wp2_with fail
            go_roundw
            case rel => exact ⟨k + 1, by omega, by go_num, HN, hb.trans (Drawn.below ⟨_, rfl⟩ _)⟩
            case measure => simp [intOf]; omega
          · have HF : Hid (r = false) := by unfold Hid; rw [← HE.out, hs, hd]; rfl
            clear hs
            go_wp2_with fail
            go_quiet (fail)
            go_wp2_with fail
            go_ret
            exact ⟨ret_bool HF.out.symm, hb.trans (Drawn.below ⟨_, rfl⟩ _)⟩
        · have HF : Hid (r = true) := by unfold Hid; rw [← HE.out, upFrom_end _ k _ (by omega)]
          go_wp2_with fail
          go_ret
          exact ⟨ret_bool HF.out.symm, hb⟩
end Go.Proofs.Ytbaghclblnialaa
