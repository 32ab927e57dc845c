/- The contract of the program's ListHeaps. -/
import Derived.Test.YtgehollikdbapaaLHeaps2
import Derived.Test.YtgehollikdbapaaPush
import Derived.Laws.EntriesVeiled
namespace Go.Proofs.Ytgehollikdbapaa
open Go.RowKit
set_option linter.unusedVariables false

/-- A new slice of new things comes back. -/
def RetN {α : Type} (K : Kd α) (E : El Sl) (w : World) (xs : List α) (e : Ending) (w' : World) : Prop := ∃ v hi, e = .returned v ∧ NRel K E w w.heap.size w.heap.size w' hi v xs
theorem Acc.low {α : Type} {E : El α} {w wr : World} {lo : Nat} {v : Value} {xs : List α} (h : Acc E w lo wr v xs) : Acc E w w.heap.size wr v xs :=
  ⟨h.1.mono h.2.2.1, h.2.1, Nat.le_refl _, h.2.1.size⟩
theorem NRel.low {α : Type} {K : Kd α} {E : El Sl} {w wr : World} {base lo hi : Nat} {v : Value} {xs : List α} (h : NRel K E w base lo wr hi v xs) (hl : w.heap.size ≤ lo) : NRel K E w w.heap.size w.heap.size wr hi v xs := by
  obtain ⟨ss, h1, h2, h3⟩ := h
  exact ⟨ss, h1.low, h2.more hl (Nat.le_refl _), h3⟩

/-- While the heap in work is built: n the blocks at the call, n1 the blocks behind the first test. -/
structure HBld (w : World) (n n1 : Nat) (a b : Nat) (c : Int) (wr : World) (v : Value) (hi : Nat) (xs : List (List Int)) : Prop where
  ea : wr.heap[n]? = some (.cells #[.int .i64 a] 3 (0, 0))
  eb : wr.heap[n + 1]? = some (.cells #[.int .i64 b] 3 (0, 0))
  ec : wr.heap[n + 2]? = some (.cells #[.int .i64 c] 3 (0, 0))
  eo : wr.heap[n1 + 2]? = some (.cells #[.slice (some ⟨n1, 0, none⟩) 0 0] 27 (0, 0))
  em : wr.heap[n1 + 3]? = some (.cells #[v] 24 (0, 0))
  out : Acc (elSl 24 27) w n1 wr (.slice (some ⟨n1, 0, none⟩) 0 0) []
  mat : NRel (kdF elInt) (elSl 58 24) w (n1 + 1) (n1 + 4) wr hi v xs
  at_ : ∀ g, v.ownBlock = some g → g = n1 + 1 ∨ (n1 + 4 ≤ g ∧ g < hi)
  nn : n + 3 ≤ n1
  nw : w.heap.size = n
  hi_ : n1 + 4 ≤ hi
theorem HBld.step {w wr : World} {n n1 a b : Nat} {c : Int} {v : Value} {hi : Nat} {xs : List (List Int)} (h : HBld w n n1 a b c wr v hi xs) (hb : b ≤ 3) :
    ∃ ss A ca, v = .slice A xs.length ca ∧ ss.length = xs.length ∧ wr.cell? ⟨n1 + 3, 0, none⟩ = some v ∧ wr.cell? ⟨n, 0, none⟩ = some (.int .i64 a) ∧ wr.cell? ⟨n + 1, 0, none⟩ = some (.int .i64 b) ∧
      n1 + 3 < wr.heap.size ∧ Hid (Acc (elSl 58 24) w (n1 + 1) (wr.drew.alloc (.cells (madeCells #[.int .i64 0] b) 3)) v ss) ∧
      Hid (∀ v' w2, Hid (Acc (elSl 58 24) w (n1 + 1) w2 v' (ss ++ [(some ⟨wr.heap.size, 0, none⟩, b, b)])) → Hid (Grew (wr.drew.alloc (.cells (madeCells #[.int .i64 0] b) 3)) w2 v v') →
        (∃ u, w2.cell? ⟨n1 + 3, 0, none⟩ = some u) ∧ w2.frozen? ⟨n1 + 3, 0, none⟩ = false ∧ HBld w n n1 a b c (w2.setCell ⟨n1 + 3, 0, none⟩ v') v' w2.heap.size (xs ++ [List.replicate b 0])) := by
  obtain ⟨A, ca, hv, _⟩ := h.mat.len okRow
  obtain ⟨ss, hA, hE, hh⟩ := h.mat
  have hal := ((Below.refl wr.heap.size wr.drew).alloc (Nat.le_refl _) (.cells (madeCells #[.int .i64 0] b) 3))
  have hal' : Below wr.heap.size wr (wr.drew.alloc (.cells (madeCells #[.int .i64 0] b) 3)) := (Below.refl wr.heap.size wr).drew.trans hal
  refine ⟨ss, A, ca, hv, hE.1, cell_of_one h.em, cell_of_one h.ea, cell_of_one h.eb, lt_of_block h.em, hA.below hal', fun v' w2 HA HG => ?_⟩
  obtain ⟨g1, g, g2, g3, g4⟩ := HG.out
  have hsz : wr.heap.size + 1 ≤ w2.heap.size := by have := g1.size; simpa using this
  have hol : n1 < wr.heap.size := (h.out.lt n1 rfl).2
  have hml := lt_of_block h.em
  have hkeep : ∀ k, k < wr.heap.size → (∀ g, v.ownBlock = some g → g ≠ k) → w2.heap[k]? = wr.heap[k]? := fun k hk hne =>
    (g1.block k (by simp; omega) (fun e => hne k e.symm rfl)).trans (hal'.block k hk)
  have hne : ∀ k, k < n1 + 4 → k ≠ n1 + 1 → ∀ g, v.ownBlock = some g → g ≠ k := fun k hk hk2 g hg => by have := h.at_ g hg; omega
  have nn := h.nn
  have hi_ := h.hi_
  have hem2 : w2.heap[n1 + 3]? = some (.cells #[v] 24 (0, 0)) := (hkeep _ hml (hne _ (by omega) (by omega))).trans h.em
  have hold : ∀ k, k < n1 + 4 → k < wr.heap.size → k ≠ n1 + 1 → k ≠ n1 + 3 → (w2.setCell ⟨n1 + 3, 0, none⟩ v').heap[k]? = wr.heap[k]? := fun k h1 h2 h3 h4 =>
    (Below.heap_setCell _ _ _ _ (by show k ≠ n1 + 3; exact h4)).trans (hkeep k h2 (hne k h1 h3))
  have hrow : (kdF elInt).P (wr.drew.alloc (.cells (madeCells #[.int .i64 0] b) 3)) wr.heap.size (wr.heap.size + 1) (slV (some ⟨wr.heap.size, 0, none⟩, b, b)) (List.replicate b 0) := by
    refine ⟨ownF_int.2 ?_, fun k hk => ?_⟩
    · have e : (List.replicate b (0 : Int)).length = b := by simp
      have := OwnI.of_row (w := wr.drew.alloc (.cells (madeCells #[.int .i64 0] b) 3)) (lo := wr.heap.size) (g := wr.heap.size) (zs := List.replicate b 0) (Nat.le_refl _) (by rw [e]; omega) (by rw [e]; exact (World.rowIs_made wr.drew _ _ _).congr fun i hi => by simp [hi])
      rwa [e] at this
    · simp only [Value.ownBlock, Option.some.injEq] at hk; omega
  have hN : NRel (kdF elInt) (elSl 58 24) w (n1 + 1) (n1 + 4) w2 w2.heap.size v' (xs ++ [List.replicate b 0]) := by
    refine NRel.push (hE.kept (w' := wr.drew.alloc (.cells (madeCells #[.int .i64 0] b) 3)) (by simp) fun k _ hk _ => hal'.block k (by omega)) (by simp; omega) hrow (by omega) hh (by simp) (fun k hk => .inl ?_) HA HG
    exact (hA.lt k hk).2
  have hat : ∀ k, v'.ownBlock = some k → k = n1 + 1 ∨ (n1 + 4 ≤ k ∧ k < w2.heap.size) := fun k hk => by
    rw [g2] at hk
    obtain rfl := Option.some.inj hk
    rcases g3 with g3 | g3
    · have := h.at_ g g3; omega
    · simp at g3; omega
  have hnw := h.nw
  have hbig : Below w.heap.size w (w2.setCell ⟨n1 + 3, 0, none⟩ v') := HA.out.2.1.setCell (by show w.heap.size ≤ n1 + 3; omega) _
  have hl1 := lt_of_block h.eb
  have hl2 := lt_of_block h.ec
  have hl3 := lt_of_block h.eo
  refine ⟨⟨v, cell_of_one hem2⟩, free_of_one hem2, ?_, ?_, ?_, ?_, ?_, ?_, ?_, hat, h.nn, hnw, by omega⟩
  · exact (hold _ (by omega) (by omega) (by omega) (by omega)).trans h.ea
  · exact (hold _ (by omega) (by omega) (by omega) (by omega)).trans h.eb
  · exact (hold _ (by omega) (by omega) (by omega) (by omega)).trans h.ec
  · exact (hold _ (by omega) (by omega) (by omega) (by omega)).trans h.eo
  · exact (blk_setCell hem2 _).trans (by simp)
  · refine ⟨ownsRow_keep (hi := n1 + 1) h.out.1 (fun k hk => ?_) (fun k k1 k2 => hold k (by omega) (by omega) (by omega) (by omega)), hbig, by omega, by simp; omega⟩
    simp only [Value.ownBlock, Option.some.injEq] at hk; omega
  · refine hN.kept hbig (by simp) (fun k hk => Below.heap_setCell _ _ _ _ ?_) (fun k k1 _ => Below.heap_setCell _ _ _ _ ?_)
    · show k ≠ n1 + 3; have := hat k hk; omega
    · show k ≠ n1 + 3; omega
/-- Where all lies at the closure's first call. -/
def hlay (n n1 g cap hi ps : Nat) : HLay := ⟨n, n + 1, n + 2, n1, n1 + 1, n1 + 2, n1 + 3, n1 + 4, hi, ps, ps + 1, g, cap⟩
theorem rw_replicate' (n : Nat) (zs : List Int) (i : Nat) (h : i < n) : rw' (List.replicate n zs) i = zs := by simp [rw', h]
theorem HBld.full {w wr : World} {n n1 a b : Nat} {c : Int} {v : Value} {hi : Nat} (h : HBld w n n1 a b c wr v hi (List.replicate a (List.replicate b 0))) (ha : 0 < a) :
    ∃ g cap, Hid ((hlay n n1 g cap hi wr.heap.size).Ok w.heap.size) ∧ Hid (∀ W : World, Below wr.heap.size wr W → W.heap[wr.heap.size]? = some (.cells #[hclos (hlay n n1 g cap hi wr.heap.size)] 78 (0, 0)) → HSt w (hlay n n1 g cap hi wr.heap.size) a b c W (List.replicate a (List.replicate b 0)) []) := by
  obtain ⟨A, cap, hv, _⟩ := h.mat.len okRow
  have hform : ∃ g, A = some ⟨g, 0, none⟩ := by
    obtain ⟨ss, hA, hE, _⟩ := h.mat
    obtain ⟨g, cap', e, _⟩ := World.ownsRow.form hA.1 (by rw [hE.1]; simpa using ha)
    rw [hv] at e
    simp only [Value.slice.injEq] at e
    exact ⟨g, e.1⟩
  obtain ⟨g, rfl⟩ := hform
  have hl : (List.replicate a (List.replicate b (0 : Int))).length = a := by simp
  rw [hl] at hv
  subst hv
  have hg := h.at_ g rfl
  have hh : hi ≤ wr.heap.size := h.mat.choose_spec.2.2
  have nn := h.nn
  have hi_ := h.hi_
  have hml := lt_of_block h.em
  have hw0 := h.nw
  have hol : n1 < wr.heap.size := (h.out.lt n1 rfl).2
  refine ⟨g, cap, ⟨?_, ?_, ?_, ?_, ?_, ?_, ?_, ?_, ?_, ?_, ?_, ?_, ?_, ?_⟩, fun W hbl hps => ⟨⟨?_, ?_, ?_, ?_, ?_⟩, h.mat.below hbl, ?_, .slice (some ⟨n1, 0, none⟩) 0 0, wr.heap.size + 1, ?_, ?_, ?_, ?_⟩⟩
  all_goals (try (simp only [hlay]; omega))
  · exact (hbl.block _ (by show n < _; omega)).trans h.ea
  · exact (hbl.block _ (by show n + 1 < _; omega)).trans h.eb
  · exact (hbl.block _ (by show n + 2 < _; omega)).trans h.ec
  · exact (hbl.block _ (by show n1 + 3 < _; omega)).trans h.em
  · exact hps
  · exact ⟨by simp, fun i hi => by rw [rw_replicate' _ _ _ hi]; simp⟩
  · exact (hbl.block _ (by show n1 + 2 < _; omega)).trans h.eo
  · exact ⟨[], h.out.below hbl, Els.nil _ _ _ _, lt_of_block hps⟩
  · intro k hk2
    simp only [Value.ownBlock, Option.some.injEq] at hk2
    exact .inl hk2.symm

set_option maxRecDepth 100000 in
set_option maxHeartbeats 4000000 in
theorem ListHeaps_yes (a b : Nat) (c : Int) (w : World) (hg : boxB a b c = true) :
    Calls Try.prog 17 #[.int .i64 a, .int .i64 b, .int .i64 c] w (RetN kdM (elSl 24 27) w (allHeaps a b c)) := by
  obtain ⟨⟨ha1, ha2⟩, ⟨hb1, hb2⟩, hc1, hc2⟩ := (boxB_iff _ _ _).1 hg
  have hmk := run_make_row' (P := Try.prog) 58 3 (.int .i64 0) 8 Try.underlying58 infoInt rfl .i64 .i64 b (by omega) (by omega)
  go_enter Try.func17, Try.ntmps17
  go_wp2_with fail
  obtain ⟨W, hW, k0, k1, k2, hb0⟩ := three_alloc w (.cells #[.int .i64 a] 3) (.cells #[.int .i64 b] 3) (.cells #[.int .i64 c] 3)
  rw [← hW]
  have hs0 : w.heap.size + 2 < W.heap.size := lt_of_block k2
  have m0 : W.cell? ⟨w.heap.size, 0, none⟩ = some (.int .i64 a) := cell_of_one k0
  have m1 : W.cell? ⟨w.heap.size + 1, 0, none⟩ = some (.int .i64 b) := cell_of_one k1
  have m2 : W.cell? ⟨w.heap.size + 1 + 1, 0, none⟩ = some (.int .i64 c) := cell_of_one k2
  have HW0 := Lib.hid hb0
  have hsW : W.heap.size = w.heap.size + 3 := by rw [hW]; simp
  have e1 : W.heap.size - 1 = w.heap.size + 2 := by omega
  clear hW hb0
  have HK0 := Lib.hid k0; have HK1 := Lib.hid k1; have HK2 := Lib.hid k2
  clear k0 k1 k2
  go_wp2_with fail
  refine (BoxOk_any _ _ _ _).mono ?_
  rintro e w1 ⟨rfl, hb1⟩
  rw [hg]
  have hs1 := hb1.size
  go_upto_region 4 with (fail)
  obtain ⟨W2, hW2, q0, q1, q2, q3, hb2⟩ := four_alloc w1 (.cells #[] 24) (.cells #[] 58) (.cells #[.slice (some ⟨w1.heap.size, 0, none⟩) 0 0] 27) (.cells #[.slice (some ⟨w1.heap.size + 1, 0, none⟩) 0 0] 24)
  rw [← hW2]
  have hB := HW0.out.trans (hb1.mono HW0.out.size)
  have hB2 := hB.trans (hb2.mono hB.size)
  have hsz2 : W2.heap.size = w1.heap.size + 4 := by rw [hW2]; simp
  have HR : Hid (HBld w w.heap.size w1.heap.size a b c W2 (.slice (some ⟨w1.heap.size + 1, 0, none⟩) 0 0) (w1.heap.size + 4) []) := by
    have hk : ∀ k, k < W.heap.size → W2.heap[k]? = W.heap[k]? := fun k hk => (hb2.block k (by omega)).trans (hb1.block k hk)
    refine ⟨(hk _ (by omega)).trans HK0.out, (hk _ (by omega)).trans HK1.out, (hk _ (by omega)).trans HK2.out, q2, q3, ⟨?_, hB2, by omega, by omega⟩, ⟨[], ⟨?_, hB2, by omega, by omega⟩, Els.nil _ _ _ _, by omega⟩, ?_, by omega, rfl, Nat.le_refl _⟩
    · exact ⟨by simp, .inr ⟨_, 0, #[], rfl, Nat.le_refl _, q0, Nat.le_refl _, by simp [maxLen], by simp, by simp⟩⟩
    · exact ⟨by simp, .inr ⟨_, 0, #[], rfl, Nat.le_refl _, q1, Nat.le_refl _, by simp [maxLen], by simp, by simp⟩⟩
    · intro g hg; simp only [Value.ownBlock, Option.some.injEq] at hg; exact .inl hg.symm
  have e2 : W2.cell? ⟨w.heap.size, 0, none⟩ = some (.int .i64 a) := cell_of_one HR.out.ea
  clear hW2 q0 q1 q2 q3 hb2 hB hB2 m0 m1 m2 hsz2 hb1
  generalize w1.heap.size = n1 at *
  go_wp2_with fail
  go_loopw [18] (fun s wr => ∃ (k : Nat) (v : Value) (hi : Nat), k ≤ a ∧ s = .int .i64 k ∧ Hid (HBld w w.heap.size n1 a b c wr v hi (List.replicate k (List.replicate b 0)))) (fun s _ => a - (intOf s).toNat)
  case atStart => exact ⟨0, _, _, Nat.zero_le _, rfl, HR⟩
  case round =>
    obtain ⟨k, v, hi, hk, rfl, HR2⟩ := hrel
    by_cases hlt : k < a
    · have ht : decide ((k : Int) < (a : Int)) = true := by simp only [decide_eq_true_eq]; omega
      obtain ⟨ss, A, ca, hv, hss, c1, c2, c3, hl, HA, HS⟩ := HR2.out.step (by omega)
      rw [List.length_replicate] at hv hss
      subst hv
      have c1a : (wr.alloc (.cells (madeCells #[.int .i64 0] b) 3)).cell? ⟨n1 + 1 + 1 + 1, 0, none⟩ = some (.slice A k ca) := (((Below.refl wr.heap.size wr).alloc (Nat.le_refl _) _).cell (p := ⟨n1 + 3, 0, none⟩) hl).trans c1
      have c1b : ((wr.alloc (.cells (madeCells #[.int .i64 0] b) 3)).alloc (.cells #[.slice (some ⟨wr.heap.size, 0, none⟩) b b] 58)).cell? ⟨n1 + 1 + 1 + 1, 0, none⟩ = some (.slice A k ca) := ((((Below.refl wr.heap.size wr).alloc (Nat.le_refl _) _).alloc (by simp) _).cell (p := ⟨n1 + 3, 0, none⟩) hl).trans c1
      go_wp2_with fail
      go_region_law (refine step_push okRow (by rfl) _ _ (by rfl) HA.out (by rfl) (some ⟨wr.heap.size, 0, none⟩, b, b) _ (by rfl) (wr.heap.size + 1) (by rfl) (by simp) (by omega) ?_; intro v' w2 HA2 HG2; obtain ⟨A2, ca2, hv2, _⟩ := HA2.out.1.rd okRow; rw [show (ss ++ [((some ⟨wr.heap.size, 0, none⟩, b, b) : Sl)]).length = k + 1 by simp [hss]] at hv2; rw [hv2] at HA2 HG2; rw [hv2]; clear hv2; obtain ⟨⟨u9, ck⟩, fk, hB9⟩ := HS.out _ w2 HA2 HG2; have HB9 := Lib.hid hB9; clear hB9)
      all_goals
        go_wp2_with fail
        go_roundw
        case rel => exact ⟨k + 1, _, _, by omega, by go_num, by (unfold Hid; rw [List.replicate_succ']; exact HB9.out)⟩
        case measure => simp [intOf]; omega
    · have ht : decide ((k : Int) < (a : Int)) = false := by simp only [decide_eq_false_iff_not]; omega
      obtain rfl : k = a := by omega
      obtain ⟨g, cap, HL, HF⟩ := HR2.out.full (by omega)
      have hmf : ∀ (fn : Fn) (first cap : Array Value) (w : World), (Instr.makeFunc fn first cap).run Try.prog w = .ok (.func fn first cap) w := fun _ _ _ _ => rfl
      go_wp2_with fail
      obtain ⟨W4, hW4, q4, hb4⟩ := one_alloc wr (.cells #[.func (.func 69) #[] #[.pointer (some ⟨w.heap.size, 0, none⟩), .pointer (some ⟨w.heap.size + 1, 0, none⟩), .pointer (some ⟨n1 + 1 + 1, 0, none⟩), .pointer (some ⟨n1 + 1 + 1 + 1, 0, none⟩), .pointer (some ⟨w.heap.size + 1 + 1, 0, none⟩), .pointer (some ⟨wr.heap.size, 0, none⟩)]] 78)
      rw [← hW4]
      have hst := HF.out W4 hb4 q4
      have hcl := hst.func
      have HQ := Lib.hid (rest_any w _ HL.out k b c (by omega) (by omega) (by omega) (k * b) [] (by simp) (InC.nil c) W4 _ [] hst (fun j hj => by simp at hj) (by
        have h9 : k * b ≤ 9 := Nat.mul_le_mul (show k ≤ 3 by omega) (show b ≤ 3 by omega)
        have := Nat.pow_le_pow_right (show 0 < 4 by omega) h9
        simpa using this))
      have hcl2 : W4.cell? ⟨wr.heap.size, 0, none⟩ = some (.func (.func 69) #[] #[.pointer (some ⟨w.heap.size, 0, none⟩), .pointer (some ⟨w.heap.size + 1, 0, none⟩), .pointer (some ⟨n1 + 1 + 1, 0, none⟩), .pointer (some ⟨n1 + 1 + 1 + 1, 0, none⟩), .pointer (some ⟨w.heap.size + 1 + 1, 0, none⟩), .pointer (some ⟨wr.heap.size, 0, none⟩)]) := hcl
      clear hcl hW4 q4 hst hb4
      go_wp2_with fail
      refine HQ.out.mono ?_
      rintro e w5 ⟨rfl, M5, hS5, _⟩
      obtain ⟨_, _, _, v5, hi5, hO⟩ := hS5
      have hO : HOut w (hlay w.heap.size n1 g cap hi wr.heap.size) w5 v5 hi5 (allHeaps k b c) := hO
      clear HQ hmf hcl2 HF
      generalize allHeaps k b c = os at *
      obtain ⟨A5, c5, hv5, _⟩ := hO.rel.len okRows
      subst hv5
      have hc5 : w5.cell? ⟨n1 + 1 + 1, 0, none⟩ = some (.slice A5 os.length c5) := cell_of_one hO.cell
      have HRL := Lib.hid (hO.rel.low (show w.heap.size ≤ (hlay w.heap.size n1 g cap hi wr.heap.size).lo2 by have := HL.out; have h1 := this.s; have h2 := this.om; have h3 := this.po; have h4 := this.po2; have h5 := this.lh; have h6 := this.hs; have h7 := this.sl; omega))
      clear hO
      go_wp2_with fail
      go_ret
      exact ⟨_, _, rfl, HRL.out⟩

/-- What ListHeaps lists. -/
def listHZ (a b c : Int) : List (List (List Int)) := if boxB a b c then allHeaps a.toNat b.toNat c else []
theorem ListHeaps_any (a b c : Int) (w : World) :
    Calls Try.prog 17 #[.int .i64 a, .int .i64 b, .int .i64 c] w (RetN kdM (elSl 24 27) w (listHZ a b c)) := by
  cases hg : boxB a b c
  · have e0 : listHZ a b c = [] := by simp [listHZ, hg]
    rw [e0]; clear e0
    go_enter Try.func17, Try.ntmps17
    go_wp2_with fail
    obtain ⟨W, hW, k0, k1, k2, hb0⟩ := three_alloc w (.cells #[.int .i64 a] 3) (.cells #[.int .i64 b] 3) (.cells #[.int .i64 c] 3)
    rw [← hW]
    have m0 : W.cell? ⟨w.heap.size, 0, none⟩ = some (.int .i64 a) := cell_of_one k0
    have m1 : W.cell? ⟨w.heap.size + 1, 0, none⟩ = some (.int .i64 b) := cell_of_one k1
    have m2 : W.cell? ⟨w.heap.size + 1 + 1, 0, none⟩ = some (.int .i64 c) := cell_of_one k2
    clear hW k0 k1 k2
    go_wp2_with fail
    refine (BoxOk_any _ _ _ _).mono ?_
    rintro e w1 ⟨rfl, hb1⟩
    rw [hg]
    go_wp2_with fail
    go_ret
    have hB := hb0.trans (hb1.mono hb0.size)
    exact ⟨_, w1.heap.size, rfl, [], (Acc.nil w).below hB, Els.nil _ _ _ _, Nat.le_refl _⟩
  · have hb := (boxB_iff _ _ _).1 hg
    obtain ⟨n, rfl⟩ := Int.eq_ofNat_of_zero_le (show 0 ≤ a by omega)
    obtain ⟨m, rfl⟩ := Int.eq_ofNat_of_zero_le (show 0 ≤ b by omega)
    have e0 : listHZ n m c = allHeaps n m c := by simp [listHZ, hg]
    rw [e0]
    exact ListHeaps_yes n m c w hg
end Go.Proofs.Ytgehollikdbapaa
