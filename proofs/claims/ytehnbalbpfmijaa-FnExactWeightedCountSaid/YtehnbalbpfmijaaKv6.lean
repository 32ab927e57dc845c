/- What the claim's walk rests on: parts LAlt6, LAlt7, LAltU, Minus, LAltV, LAltZ, WWeightedCount. -/
import Derived.Test.YtehnbalbpfmijaaKv5
import Derived.Test.YtehnbalbpfmijaaKv4
import Derived.Test.YtehnbalbpfmijaaKv2
import Derived.Test.YtehnbalbpfmijaaKv1
namespace Go.Proofs.Ytehnbalbpfmijaa
open Go.RowKit
set_option linter.unusedVariables false

theorem filt6 {ds : List Nat} (h1 : ∀ j ∈ ds, j ∈ [0, 1, 3, 4, 5, 6, 7, 8, 9]) (hn : ds.Nodup) (h2 : ∀ i ∈ [0, 1, 3, 4, 5, 6, 7, 8, 9], i ∈ ds) : (ds.filter fun i => decide (i < 7)).length = 6 := by
  have hp : ds.Perm [0, 1, 3, 4, 5, 6, 7, 8, 9] := (List.perm_ext_iff_of_nodup hn (by decide)).2 fun a => ⟨h1 a, h2 a⟩
  rw [(hp.filter _).length_eq]
  rfl
set_option maxRecDepth 100000 in
set_option maxHeartbeats 4000000 in
theorem ListAlternating_yes (n : Nat) (w : World) (hn : 1 ≤ n ∧ n ≤ 4) :
    Calls Try.prog 56 #[.int .i64 n] w (RetN kdM eMA w (altN n)) := by
  have hin : inB (n : Int) 1 4 = true := inB_true (by omega) (by omega)
  have hmk := run_make_row' (P := Try.prog) 31 3 (.int .i64 0) 8 Try.underlying31 infoInt rfl .i64 .i64 n (by omega) (by omega)
  go_enter Try.func56, Try.ntmps56
  go_wp2_with fail
  obtain ⟨W, hW, k0, hb0⟩ := one_alloc w (.cells #[.int .i64 n] 3)
  rw [← hW]
  have m0 : W.cell? ⟨w.heap.size, 0, none⟩ = some (.int .i64 n) := cell_of_one k0
  have HW0 := Lib.hid hb0
  have HK0 := Lib.hid k0
  clear hW hb0 k0
  obtain ⟨pn, hpn⟩ : ∃ pn, w.heap.size = pn := ⟨_, rfl⟩
  rw [hpn] at m0 HK0 ⊢
  go_wp2_with fail
  refine (within_any _ _ _ _).mono ?_
  rintro e w1 ⟨rfl, rfl⟩
  rw [hin]
  go_upto_region 3 with (fail)
  have hV : W.drew.heap[pn]? = some (.cells #[.int .i64 n] 3 (0, 0)) := HK0.out
  have hbV : Below w.heap.size w W.drew := HW0.out.drew
  have hlt : pn < W.drew.heap.size := lt_of_block hV
  have m0 : W.drew.cell? ⟨pn, 0, none⟩ = some (.int .i64 n) := m0
  have HVV := Lib.hid hV
  have HBV := Lib.hid hbV
  clear hV hbV HW0 HK0
  refine wp_region_held_drew (S := fun w' => w'.cell? ⟨pn, 0, none⟩ = some (.int .i64 n)) (by kernel_rfl) (by exact m0) (fun hHeld => ?_)
  refine wpAnyH_take (i := 2) (oi := ⟨_, _, _, _, _, _⟩) (v := ?va2) rfl (by kernel_rfl) (by kernel_rfl) (by kernel_rfl) (fun _ _ _ h => h) (Or.inl ⟨by rfl, ?ha2⟩) (by assumption) ?_
  case ha2 => (intro w hSw; (try dsimp only at hSw); go_simp; try with_reducible rfl)
  try simp only [Act.put, List.setIfInBounds_toArray, List.set_cons_zero, List.set_cons_succ]
  generalize W.drew = V at *
  refine wpAnyH_ord 10 0 [0, 1, 3, 4, 5, 6, 7, 8, 9] [2] (fun i => if i = 7 then [0, 4] else if i = 8 then [1, 5] else if i = 9 then [3, 6] else []) (by decide) (by decide) (by decide) rfl (by kernel_rfl)
    (fun ds a w' => ∃ (g : Nat → Nat) (x10 x11 x13 x3 x4 x5 : Value), MixA V n ds g w' ∧ a = ⟨#[.int .i64 n, .pointer (some ⟨pn, 0, none⟩), .slice none 0 0, x3, x4, x5, undef, .int .i64 n, .bool true, .bool false, x10, x11, .int .i64 n, x13, undef, undef, undef, undef, undef, undef, undef, undef, undef, undef, undef, undef, undef], []⟩ ∧ (0 ∈ ds → x10 = .slice (some ⟨g 0, 0, none⟩) 0 0) ∧ (1 ∈ ds → x11 = .slice (some ⟨g 1, 0, none⟩) 0 0) ∧ (3 ∈ ds → x13 = .slice (some ⟨g 3, 0, none⟩) n n) ∧ (4 ∈ ds → x3 = .pointer (some ⟨g 4, 0, none⟩)) ∧ (5 ∈ ds → x4 = .pointer (some ⟨g 5, 0, none⟩)) ∧ (6 ∈ ds → x5 = .pointer (some ⟨g 6, 0, none⟩))) ?hstep ?hfin 9 [] _ _ (by simp) List.nodup_nil rfl ?hR
  case hR => exact ⟨fun _ => 0, undef, undef, undef, undef, undef, undef, MixA.start V n, rfl, fun q => by simp at q, fun q => by simp at q, fun q => by simp at q, fun q => by simp at q, fun q => by simp at q, fun q => by simp at q⟩
  case hstep =>
    intro ds a w' hds hR i hi hid hdp
    obtain ⟨g, x10, x11, x13, x3, x4, x5, hM, rfl, h0, h1, h3, h4, h5, h6⟩ := hR
    have cV : w'.cell? ⟨pn, 0, none⟩ = some (.int .i64 n) := (hM.b.cell hlt).trans m0
    simp only [List.mem_cons, List.not_mem_nil, or_false] at hi
    rcases hi with rfl | rfl | rfl | rfl | rfl | rfl | rfl | rfl | rfl
    · refine wpOp_step (o := ⟨_, _, _, _, _, _⟩) rfl (fun K hK => ?_)
      have H0 := Lib.hid h0; have H1 := Lib.hid h1; have H3 := Lib.hid h3; have H4 := Lib.hid h4; have H5 := Lib.hid h5; have H6 := Lib.hid h6
      clear hds hdp h0 h1 h3 h4 h5 h6
      go_simp
      refine hK _ _ ⟨((hM.alloc (i := 0) (by omega) hid).b.cell hlt).trans m0, updG g 0 w'.heap.size, _, _, _, _, _, _, hM.alloc (by omega) hid, rfl, fun _ => by simp [updG], fun q => by rw [H1.out (by simpa using q)]; simp [updG], fun q => by rw [H3.out (by simpa using q)]; simp [updG], fun q => by rw [H4.out (by simpa using q)]; simp [updG], fun q => by rw [H5.out (by simpa using q)]; simp [updG], fun q => by rw [H6.out (by simpa using q)]; simp [updG]⟩
    · refine wpOp_step (o := ⟨_, _, _, _, _, _⟩) rfl (fun K hK => ?_)
      have H0 := Lib.hid h0; have H1 := Lib.hid h1; have H3 := Lib.hid h3; have H4 := Lib.hid h4; have H5 := Lib.hid h5; have H6 := Lib.hid h6
      clear hds hdp h0 h1 h3 h4 h5 h6
      go_simp
      refine hK _ _ ⟨((hM.alloc (i := 1) (by omega) hid).b.cell hlt).trans m0, updG g 1 w'.heap.size, _, _, _, _, _, _, hM.alloc (by omega) hid, rfl, fun q => by rw [H0.out (by simpa using q)]; simp [updG], fun _ => by simp [updG], fun q => by rw [H3.out (by simpa using q)]; simp [updG], fun q => by rw [H4.out (by simpa using q)]; simp [updG], fun q => by rw [H5.out (by simpa using q)]; simp [updG], fun q => by rw [H6.out (by simpa using q)]; simp [updG]⟩
    · refine wpOp_step (o := ⟨_, _, _, _, _, _⟩) rfl (fun K hK => ?_)
      have H0 := Lib.hid h0; have H1 := Lib.hid h1; have H3 := Lib.hid h3; have H4 := Lib.hid h4; have H5 := Lib.hid h5; have H6 := Lib.hid h6
      clear hds hdp h0 h1 h3 h4 h5 h6
      go_simp
      refine hK _ _ ⟨((hM.alloc (i := 3) (by omega) hid).b.cell hlt).trans m0, updG g 3 w'.heap.size, _, _, _, _, _, _, hM.alloc (by omega) hid, rfl, fun q => by rw [H0.out (by simpa using q)]; simp [updG], fun q => by rw [H1.out (by simpa using q)]; simp [updG], fun _ => by simp [updG], fun q => by rw [H4.out (by simpa using q)]; simp [updG], fun q => by rw [H5.out (by simpa using q)]; simp [updG], fun q => by rw [H6.out (by simpa using q)]; simp [updG]⟩
    · refine wpOp_step (o := ⟨_, _, _, _, _, _⟩) rfl (fun K hK => ?_)
      have H0 := Lib.hid h0; have H1 := Lib.hid h1; have H3 := Lib.hid h3; have H4 := Lib.hid h4; have H5 := Lib.hid h5; have H6 := Lib.hid h6
      clear hds hdp h0 h1 h3 h4 h5 h6
      go_simp
      refine hK _ _ ⟨((hM.alloc (i := 4) (by omega) hid).b.cell hlt).trans m0, updG g 4 w'.heap.size, _, _, _, _, _, _, hM.alloc (by omega) hid, rfl, fun q => by rw [H0.out (by simpa using q)]; simp [updG], fun q => by rw [H1.out (by simpa using q)]; simp [updG], fun q => by rw [H3.out (by simpa using q)]; simp [updG], fun _ => by simp [updG], fun q => by rw [H5.out (by simpa using q)]; simp [updG], fun q => by rw [H6.out (by simpa using q)]; simp [updG]⟩
    · refine wpOp_step (o := ⟨_, _, _, _, _, _⟩) rfl (fun K hK => ?_)
      have H0 := Lib.hid h0; have H1 := Lib.hid h1; have H3 := Lib.hid h3; have H4 := Lib.hid h4; have H5 := Lib.hid h5; have H6 := Lib.hid h6
      clear hds hdp h0 h1 h3 h4 h5 h6
      go_simp
      refine hK _ _ ⟨((hM.alloc (i := 5) (by omega) hid).b.cell hlt).trans m0, updG g 5 w'.heap.size, _, _, _, _, _, _, hM.alloc (by omega) hid, rfl, fun q => by rw [H0.out (by simpa using q)]; simp [updG], fun q => by rw [H1.out (by simpa using q)]; simp [updG], fun q => by rw [H3.out (by simpa using q)]; simp [updG], fun q => by rw [H4.out (by simpa using q)]; simp [updG], fun _ => by simp [updG], fun q => by rw [H6.out (by simpa using q)]; simp [updG]⟩
    · refine wpOp_step (o := ⟨_, _, _, _, _, _⟩) rfl (fun K hK => ?_)
      have H0 := Lib.hid h0; have H1 := Lib.hid h1; have H3 := Lib.hid h3; have H4 := Lib.hid h4; have H5 := Lib.hid h5; have H6 := Lib.hid h6
      clear hds hdp h0 h1 h3 h4 h5 h6
      go_simp
      refine hK _ _ ⟨((hM.alloc (i := 6) (by omega) hid).b.cell hlt).trans m0, updG g 6 w'.heap.size, _, _, _, _, _, _, hM.alloc (by omega) hid, rfl, fun q => by rw [H0.out (by simpa using q)]; simp [updG], fun q => by rw [H1.out (by simpa using q)]; simp [updG], fun q => by rw [H3.out (by simpa using q)]; simp [updG], fun q => by rw [H4.out (by simpa using q)]; simp [updG], fun q => by rw [H5.out (by simpa using q)]; simp [updG], fun _ => by simp [updG]⟩
    · have z1 : 0 ∈ ds := by have := hdp 0 (by simp); simpa using this
      have z2 : 4 ∈ ds := by have := hdp 4 (by simp); simpa using this
      obtain rfl := h0 z1
      obtain rfl := h4 z2
      obtain ⟨hk, hM2⟩ := hM.s7 hid z1 z2
      have ck := cell_of_one hk
      have fk := free_of_one hk
      have H0 := Lib.hid h0; have H1 := Lib.hid h1; have H3 := Lib.hid h3; have H4 := Lib.hid h4; have H5 := Lib.hid h5; have H6 := Lib.hid h6
      have HM2 := Lib.hid hM2
      clear hds hdp h0 h1 h3 h4 h5 h6 hk hM2 z1 z2
      refine wpOp_step (o := ⟨_, _, _, _, _, _⟩) rfl (fun K hK => ?_)
      go_simp
      refine hK _ _ ⟨(HM2.out.b.cell hlt).trans m0, g, _, _, _, _, _, _, HM2.out, rfl, fun _ => rfl, fun q => H1.out (by simpa using q), fun q => H3.out (by simpa using q), fun _ => rfl, fun q => H5.out (by simpa using q), fun q => H6.out (by simpa using q)⟩
    · have z1 : 1 ∈ ds := by have := hdp 1 (by simp); simpa using this
      have z2 : 5 ∈ ds := by have := hdp 5 (by simp); simpa using this
      obtain rfl := h1 z1
      obtain rfl := h5 z2
      obtain ⟨hk, hM2⟩ := hM.s8 hid z1 z2
      have ck := cell_of_one hk
      have fk := free_of_one hk
      have H0 := Lib.hid h0; have H1 := Lib.hid h1; have H3 := Lib.hid h3; have H4 := Lib.hid h4; have H5 := Lib.hid h5; have H6 := Lib.hid h6
      have HM2 := Lib.hid hM2
      clear hds hdp h0 h1 h3 h4 h5 h6 hk hM2 z1 z2
      refine wpOp_step (o := ⟨_, _, _, _, _, _⟩) rfl (fun K hK => ?_)
      go_simp
      refine hK _ _ ⟨(HM2.out.b.cell hlt).trans m0, g, _, _, _, _, _, _, HM2.out, rfl, fun q => H0.out (by simpa using q), fun _ => rfl, fun q => H3.out (by simpa using q), fun q => H4.out (by simpa using q), fun _ => rfl, fun q => H6.out (by simpa using q)⟩
    · have z1 : 3 ∈ ds := by have := hdp 3 (by simp); simpa using this
      have z2 : 6 ∈ ds := by have := hdp 6 (by simp); simpa using this
      obtain rfl := h3 z1
      obtain rfl := h6 z2
      obtain ⟨hk, hM2⟩ := hM.s9 hid z1 z2
      have ck := cell_of_one hk
      have fk := free_of_one hk
      have H0 := Lib.hid h0; have H1 := Lib.hid h1; have H3 := Lib.hid h3; have H4 := Lib.hid h4; have H5 := Lib.hid h5; have H6 := Lib.hid h6
      have HM2 := Lib.hid hM2
      clear hds hdp h0 h1 h3 h4 h5 h6 hk hM2 z1 z2
      refine wpOp_step (o := ⟨_, _, _, _, _, _⟩) rfl (fun K hK => ?_)
      go_simp
      refine hK _ _ ⟨(HM2.out.b.cell hlt).trans m0, g, _, _, _, _, _, _, HM2.out, rfl, fun q => H0.out (by simpa using q), fun q => H1.out (by simpa using q), fun _ => rfl, fun q => H4.out (by simpa using q), fun q => H5.out (by simpa using q), fun _ => rfl⟩
  case hfin =>
    intro ds a w' hsub hnd hall hR
    obtain ⟨g, x10, x11, x13, x3, x4, x5, hM, rfl, h0, h1, h3, h4, h5, h6⟩ := hR
    obtain rfl := h0 (hall 0 (by simp)); obtain rfl := h1 (hall 1 (by simp)); obtain rfl := h3 (hall 3 (by simp))
    obtain rfl := h4 (hall 4 (by simp)); obtain rfl := h5 (hall 5 (by simp)); obtain rfl := h6 (hall 6 (by simp))
    have HR := Lib.hid (six_of hM hall (filt6 hsub hnd hall) HBV.out HVV.out)
    clear h0 h1 h3 h4 h5 h6 hM hall hsub hnd
    refine wpAnyH_done (by kernel_rfl) ?_ _
    obtain ⟨q, HQ⟩ : ∃ q, Hid ((⟨pn, V.heap.size, g 0, g 1, g 3, g 4, g 5, g 6⟩ : A6) = q) := ⟨_, rfl⟩
    rw [HQ.out] at HR
    have HQ1 : Hid (q.pn = pn ∧ q.pm = g 5 ∧ q.po = g 4 ∧ q.b1 = V.heap.size ∧ q.m0 = g 1 ∧ q.gc = g 3 ∧ q.pc = g 6) := by rw [← HQ.out]; exact ⟨rfl, rfl, rfl, rfl, rfl, rfl, rfl⟩
    have e2 : w'.cell? ⟨pn, 0, none⟩ = some (.int .i64 n) := by have := HR.out.en; rw [HQ1.out.1] at this; exact cell_of_one this
    generalize g 0 = p0 at *
    generalize g 1 = p1 at *
    generalize g 3 = p3 at *
    generalize g 4 = p4 at *
    generalize g 5 = p5 at *
    generalize g 6 = p6 at *
    clear HQ HVV HBV m0
    have hR0 := HR
    go_wp2_with fail
    go_loopw [15] (fun s wr => ∃ (k : Nat) (v : Value) (hi : Nat), k ≤ n ∧ s = .int .i64 k ∧ Hid (ABld w q n wr v hi (List.replicate k (List.replicate n 0)))) (fun s _ => n - (intOf s).toNat)
    case atStart => exact ⟨0, _, _, Nat.zero_le _, rfl, HR⟩
    case round =>
      obtain ⟨k, v, hi, hk, rfl, HR2⟩ := hrel
      by_cases hlt2 : k < n
      · have ht : decide ((k : Int) < (n : Int)) = true := by simp only [decide_eq_true_eq]; omega
        obtain ⟨ss, A, ca, hv, hss, c1, c2, hl, HA, HS⟩ := HR2.out.step (by omega)
        rw [List.length_replicate] at hv hss
        subst hv
        rw [HQ1.out.2.1] at c1 hl HS
        rw [HQ1.out.1] at c2
        have c1a : (wr.alloc (.cells (madeCells #[.int .i64 0] n) 3)).cell? ⟨p5, 0, none⟩ = some (.slice A k ca) := (((Below.refl wr.heap.size wr).alloc (Nat.le_refl _) _).cell (p := ⟨p5, 0, none⟩) hl).trans c1
        have c1b : ((wr.alloc (.cells (madeCells #[.int .i64 0] n) 3)).alloc (.cells #[.slice (some ⟨wr.heap.size, 0, none⟩) n n] 31)).cell? ⟨p5, 0, none⟩ = some (.slice A k ca) := ((((Below.refl wr.heap.size wr).alloc (Nat.le_refl _) _).alloc (by simp) _).cell (p := ⟨p5, 0, none⟩) hl).trans c1
        go_wp2_with fail
        go_region_law (refine step_push okRowA (by rfl) _ _ (by rfl) HA.out (by rfl) (some ⟨wr.heap.size, 0, none⟩, n, n) _ (by rfl) (wr.heap.size + 1) (by rfl) (by simp) (by omega) ?_; intro v' w2 HA2 HG2; obtain ⟨A2, ca2, hv2, _⟩ := HA2.out.1.rd okRowA; rw [show (ss ++ [((some ⟨wr.heap.size, 0, none⟩, n, n) : Sl)]).length = k + 1 by simp [hss]] at hv2; rw [hv2] at HA2 HG2; rw [hv2]; clear hv2; obtain ⟨⟨u9, ck⟩, fk, hB9⟩ := HS.out _ w2 HA2 HG2; have HB9 := Lib.hid hB9; clear hB9)
        all_goals
          go_wp2_with fail
          go_roundw
          case rel => exact ⟨k + 1, _, _, by omega, by go_num, by (unfold Hid; rw [List.replicate_succ']; exact HB9.out)⟩
          case measure => simp [intOf]; omega
      · have ht : decide ((k : Int) < (n : Int)) = false := by simp only [decide_eq_false_iff_not]; omega
        obtain rfl : k = n := by omega
        obtain ⟨g, cap, HL, HF⟩ := HR2.out.full (by omega)
        have hmf : ∀ (fn : Fn) (first cap : Array Value) (w : World), (Instr.makeFunc fn first cap).run Try.prog w = .ok (.func fn first cap) w := fun _ _ _ _ => rfl
        clear hmk e2 hR0 HR
        go_wp2_with fail
        obtain ⟨W4, hW4, q4, hb4⟩ := one_alloc wr (.cells #[.func (.func 124) #[] #[.pointer (some ⟨pn, 0, none⟩), .pointer (some ⟨p5, 0, none⟩), .pointer (some ⟨p4, 0, none⟩), .pointer (some ⟨p6, 0, none⟩), .pointer (some ⟨wr.heap.size, 0, none⟩)]] 135)
        rw [← hW4]
        have hac : Obj.cells #[.func (.func 124) #[] #[.pointer (some ⟨pn, 0, none⟩), .pointer (some ⟨p5, 0, none⟩), .pointer (some ⟨p4, 0, none⟩), .pointer (some ⟨p6, 0, none⟩), .pointer (some ⟨wr.heap.size, 0, none⟩)]] 135 = .cells #[aclos (alay q g cap hi wr.heap.size)] 135 := by
          obtain ⟨z1, z2, z3, z4, z5, z6, z7⟩ := HQ1.out
          unfold aclos alay
          dsimp only
          rw [z1, z2, z3, z7]
        have hst := HF.out W4 hb4 (by rw [← hac]; exact q4)
        have hcl2 : W4.cell? ⟨wr.heap.size, 0, none⟩ = some (.func (.func 124) #[] #[.pointer (some ⟨pn, 0, none⟩), .pointer (some ⟨p5, 0, none⟩), .pointer (some ⟨p4, 0, none⟩), .pointer (some ⟨p6, 0, none⟩), .pointer (some ⟨wr.heap.size, 0, none⟩)]) := cell_of_one q4
        have hpw : 3 ^ (k * k) ≤ 100000000 := by
          have h9 : k * k ≤ 16 := Nat.mul_le_mul (show k ≤ 4 by omega) (show k ≤ 4 by omega)
          have := Nat.pow_le_pow_right (show 0 < 3 by omega) h9
          exact Nat.le_trans this (by decide)
        have hcall := arest_any w _ HL.out k (by omega) (k * k) 0 (by omega) W4 _ (List.replicate k 0) [] 0 hst (by simp) (fun j => by unfold el; rw [List.getD_eq_getElem?_getD]; by_cases hj : j < k <;> simp [hj]) (by omega) (by omega) (by simpa using hpw)
        have HC : Hid (Calls Try.prog 124 #[.int .i64 0, .int .i64 0, .pointer (some ⟨pn, 0, none⟩), .pointer (some ⟨p5, 0, none⟩), .pointer (some ⟨p4, 0, none⟩), .pointer (some ⟨p6, 0, none⟩), .pointer (some ⟨wr.heap.size, 0, none⟩)] W4 (fun e w' => e = .returned (.tuple #[]) ∧ ∃ v hi2, AOut w (alay q g cap hi wr.heap.size) w' v hi2 (altN k))) := by
          obtain ⟨z1, z2, z3, z4, z5, z6, z7⟩ := HQ1.out
          have hx : ∀ x1 x2 x3 x4, q.pn = x1 → q.pm = x2 → q.po = x3 → q.pc = x4 → Calls Try.prog 124 #[.int .i64 0, .int .i64 0, .pointer (some ⟨x1, 0, none⟩), .pointer (some ⟨x2, 0, none⟩), .pointer (some ⟨x3, 0, none⟩), .pointer (some ⟨x4, 0, none⟩), .pointer (some ⟨wr.heap.size, 0, none⟩)] W4 (fun e w' => e = .returned (.tuple #[]) ∧ ∃ v hi2, AOut w (alay q g cap hi wr.heap.size) w' v hi2 (altN k)) := by
            rintro x1 x2 x3 x4 rfl rfl rfl rfl
            refine Calls.mono hcall ?_
            rintro e w' ⟨h1, _, _, _, v, hi2, h4⟩
            exact ⟨h1, v, hi2, h4⟩
          exact hx _ _ _ _ z1 z2 z3 z7
        have HLW : Hid (w.heap.size ≤ (alay q g cap hi wr.heap.size).lo2 ∧ (alay q g cap hi wr.heap.size).po = p4) := ⟨by have h1 := HL.out.s; have h2 := HL.out.po; have h3 := HL.out.lh; have h4 := HL.out.hs; have h5 := HL.out.sl; omega, HQ1.out.2.2.1⟩
        clear hac hst q4 hb4 hW4 hcall hpw HF HL HR2
        go_wp2_with fail
        refine HC.out.mono ?_
        rintro e5 w5 ⟨rfl, v5, hi5, hO⟩
        clear HC hmf hcl2
        generalize altN k = os at *
        obtain ⟨A5, c5, hv5, _⟩ := hO.rel.len okRowsA
        subst hv5
        have hc5 : w5.cell? ⟨p4, 0, none⟩ = some (.slice A5 os.length c5) := by have := cell_of_one hO.cell; rw [HLW.out.2] at this; exact this
        have HRL := Lib.hid (hO.rel.lowA HLW.out.1)
        clear hO
        go_wp2_with fail
        go_ret
        exact ⟨_, _, rfl, HRL.out⟩
end Go.Proofs.Ytehnbalbpfmijaa

namespace Go.Proofs.Ytehnbalbpfmijaa
open Go.RowKit
set_option linter.unusedVariables false

def altZ (a : Int) : List (List (List Int)) := if inB a 1 4 then altN a.toNat else []
set_option maxHeartbeats 1000000 in
theorem ListAlternating_any (a : Int) (w : World) : Calls Try.prog 56 #[.int .i64 a] w (RetN kdM eMA w (altZ a)) := by
  cases hg : inB a 1 4
  · have e0 : altZ a = [] := by simp [altZ, hg]
    rw [e0]; clear e0
    go_enter Try.func56, Try.ntmps56
    go_wp2_with fail
    obtain ⟨W, hW, k0, hb0⟩ := one_alloc w (.cells #[.int .i64 a] 3)
    rw [← hW]
    have m0 : W.cell? ⟨w.heap.size, 0, none⟩ = some (.int .i64 a) := cell_of_one k0
    clear hW k0
    go_wp2_with fail
    refine (within_any _ _ _ _).mono ?_
    rintro e w1 ⟨rfl, rfl⟩
    rw [hg]
    go_wp2_with fail
    go_ret
    exact ⟨_, W.heap.size, rfl, [], (Acc.nil w).below hb0, Els.nil _ _ _ _, Nat.le_refl _⟩
  · have hb := (inB_iff _ _ _).1 hg
    obtain ⟨n, rfl⟩ := Int.eq_ofNat_of_zero_le (show 0 ≤ a by omega)
    have e0 : altZ n = altN n := by simp [altZ, hg]
    rw [e0]
    exact ListAlternating_yes n w (by omega)
end Go.Proofs.Ytehnbalbpfmijaa

namespace Go.Proofs.Ytehnbalbpfmijaa
open Go.RowKit
set_option linter.unusedVariables false

theorem salt_all (n : Nat) (hn : 1 ≤ n ∧ n ≤ 4) (rows : List (List Int)) (H : RowsOk n rows) : ∀ d, SAlt n rows d
  | 0 => salt_end n hn rows
  | d + 1 => salt_step n hn rows H d (salt_all n hn rows H d)
theorem rowsOk_of {n : Nat} {rows : List (List Int)} (h : (decide (rows.length ≤ 81) && rows.all fun r => r.length == n && r.all fun z => decide (-1 ≤ z) && decide (z ≤ 1)) = true) : RowsOk n rows := by
  rw [Bool.and_eq_true, List.all_eq_true] at h
  obtain ⟨h1, h2⟩ := h
  have hr : ∀ i, i < rows.length → rw' rows i ∈ rows := fun i hi => by
    unfold rw'; rw [List.getD_eq_getElem?_getD, List.getElem?_eq_getElem hi]; exact List.getElem_mem hi
  have hx : ∀ i, i < rows.length → (rw' rows i).length = n ∧ ∀ z ∈ rw' rows i, -1 ≤ z ∧ z ≤ 1 := fun i hi => by
    have := h2 _ (hr i hi)
    simp only [Bool.and_eq_true, beq_iff_eq, List.all_eq_true, decide_eq_true_eq] at this
    exact this
  refine ⟨fun i hi => (hx i hi).1, by simpa using h1, fun i j hi hj => ?_⟩
  have hl := (hx i hi).1
  rw [el_get _ _ (by rw [hl]; exact hj)]
  exact (hx i hi).2 _ (List.getElem_mem _)
theorem rowsN_ok (n : Nat) (hn : 1 ≤ n ∧ n ≤ 4) : RowsOk n (rowsN n) := by
  obtain ⟨h1, h2⟩ := hn
  have : n = 1 ∨ n = 2 ∨ n = 3 ∨ n = 4 := by omega
  rcases this with rfl | rfl | rfl | rfl <;> exact rowsOk_of (by decide +kernel)
theorem rdII_none {W : World} {B : Nat} (A : Option Addr) : RdII W B (.slice A 0 0) [] := ⟨A, 0, [], rfl, Nat.le_refl _, Nat.zero_le _, rfl, Rd.nil, fun i u hu => by simp at hu⟩
theorem rdI_made (W : World) (n : Nat) (hn : n ≤ 9223372036854775807) : RdI (W.alloc (.cells (madeCells #[.int .i64 0] n) 3)) (W.alloc (.cells (madeCells #[.int .i64 0] n) 3)).heap.size (.slice (some ⟨W.heap.size, 0, none⟩) n n) (List.replicate n 0) := by
  have e : (List.replicate n (0 : Int)).length = n := by simp
  have h := (OwnI.of_row (w := W.alloc (.cells (madeCells #[.int .i64 0] n) 3)) (lo := 0) (g := W.heap.size) (zs := List.replicate n 0) (Nat.zero_le _) (by rw [e]; exact hn) (by rw [e]; exact (World.rowIs_made W _ _ _).congr fun i hi => by simp [hi])).rd
  rwa [e] at h
theorem NRel.rebaseU {α : Type} {K : Kd α} {E : El Sl} {w w1 w3 : World} {b1 l1 hi : Nat} {v : Value} {xs : List α} (h : NRel K E w1 b1 l1 w3 hi v xs) (hb : Below w.heap.size w w1) (h1 : w.heap.size ≤ b1) (h2 : w.heap.size ≤ l1) : NRel K E w w.heap.size w.heap.size w3 hi v xs := by
  obtain ⟨ss, hA, hE, hh⟩ := h
  have hs := hb.size
  exact ⟨ss, ⟨hA.1.mono h1, hb.trans (hA.2.1.mono hs), Nat.le_refl _, Nat.le_trans hs hA.2.1.size⟩, hE.more h2 (Nat.le_refl _), hh⟩
/-- All alternating matrices of the order, as the reference lists them. -/
def altSN (n : Nat) : List (List (List Int)) := altS n (rowsN n) n [] (List.replicate n 0)
def altSZ (a : Int) : List (List (List Int)) := if inB a 1 4 then altSN a.toNat else []
theorem zeros01 (n : Nat) : InB01 (List.replicate n 0) n := fun j hj => by
  unfold el; rw [List.getD_eq_getElem?_getD]; simp [hj]
set_option maxRecDepth 100000 in
set_option maxHeartbeats 4000000 in
theorem specListAlternating_any (a : Int) (w : World) : Calls Try.prog 54 #[.int .i64 a] w (RetN kdM eMA w (altSZ a)) := by
  cases hg : inB a 1 4
  · have e0 : altSZ a = [] := by simp [altSZ, hg]
    rw [e0]; clear e0
    have HN0 : Hid (NRel kdM eMA w w.heap.size w.heap.size (w.alloc (.cells #[] 76)) (w.heap.size + 1) (.slice (some ⟨w.heap.size, 0, none⟩) 0 0) []) := ⟨[], Acc.start w, Els.nil _ _ _ _, by simp⟩
    go_enter Try.func54, Try.ntmps54
    go_wp2_with fail
    refine (l01In_any _ _ _ _).mono ?_
    rintro e w1 ⟨rfl, rfl⟩
    rw [hg]
    go_wp2_with fail
    go_ret
    exact ⟨_, _, rfl, HN0.out⟩
  · have hb := (inB_iff _ _ _).1 hg
    obtain ⟨n, rfl⟩ := Int.eq_ofNat_of_zero_le (show 0 ≤ a by omega)
    have e0 : altSZ n = altSN n := by simp [altSZ, hg]
    rw [e0]; clear e0
    have hn : 1 ≤ n ∧ n ≤ 4 := by omega
    have HR := fun w => Lib.hid (l25Rows_any n hn w)
    have HS : Hid (∀ (w : World) (B : Nat) (v1 v2 v3 : Value), RdII w B v1 (rowsN n) → RdII w B v2 [] → RdI w B v3 (List.replicate n 0) → B ≤ w.heap.size → Calls Try.prog 122 #[.int .i64 n, v1, v2, v3] w (RetN kdM eMA w (altSN n))) := fun w B v1 v2 v3 h1 h2 h3 hB =>
      salt_all n hn (rowsN n) (rowsN_ok n hn) n w B v1 v2 v3 [] (List.replicate n 0) h1 h2 h3 hB (by simp) (by simp) (by simp) (zeros01 n)
    obtain ⟨res, HRES⟩ : ∃ r, Hid (altSN n = r) := ⟨_, rfl⟩
    rw [HRES.out] at HS ⊢
    obtain ⟨rows, HROWS⟩ : ∃ r, Hid (rowsN n = r) := ⟨_, rfl⟩
    rw [HROWS.out] at HS HR
    clear HRES HROWS
    have hmk := run_make_row' (P := Try.prog) 31 3 (.int .i64 0) 8 Try.underlying31 infoInt rfl .i64 .i64 n (by omega) (by omega)
    have hn9 : n ≤ 9223372036854775807 := by omega
    go_enter Try.func54, Try.ntmps54
    go_wp2_with fail
    refine (l01In_any _ _ _ _).mono ?_
    rintro e w1 ⟨rfl, rfl⟩
    rw [hg]
    go_upto_region 3 with (fail)
    obtain ⟨W0, hW0⟩ : ∃ W0, w.drew = W0 := ⟨_, rfl⟩
    have HBc : Hid (Below w.heap.size w W0) := by rw [← hW0]; exact (Below.refl _ _).drew
    refine wp_region_held_drew (S := fun w' => Below w.heap.size w w') (by kernel_rfl) (by rw [hW0]; exact HBc.out) (fun hHeld => ?_)
    rw [hW0] at hHeld ⊢
    refine wpAnyH_take (i := 0) (oi := ⟨_, _, _, _, _, _⟩) (v := ?vap13716q1n0) rfl (by kernel_rfl) (by kernel_rfl) (by kernel_rfl) (fun _ _ _ h => h) (Or.inl ⟨by rfl, ?hap13716q1n0⟩) (by assumption) ?_
    case hap13716q1n0 => (intro w hSw; (try dsimp only at hSw); go_simp; try with_reducible rfl)
    try simp only [Act.put, List.setIfInBounds_toArray, List.set_cons_zero, List.set_cons_succ]
    refine wpAnyH_take (i := 1) (oi := ⟨_, _, _, _, _, _⟩) (v := ?vap13716q2n1) rfl (by kernel_rfl) (by kernel_rfl) (by kernel_rfl) (fun _ _ _ h => h) (Or.inl ⟨by rfl, ?hap13716q2n1⟩) (by assumption) ?_
    case hap13716q2n1 => (intro w hSw; (try dsimp only at hSw); go_simp; try with_reducible rfl)
    try simp only [Act.put, List.setIfInBounds_toArray, List.set_cons_zero, List.set_cons_succ]
    refine wpAnyH_take (i := 4) (oi := ⟨_, _, _, _, _, _⟩) (v := ?vap13716q3n4) rfl (by kernel_rfl) (by kernel_rfl) (by kernel_rfl) (fun _ _ _ h => h) (Or.inl ⟨by rfl, ?hap13716q3n4⟩) (by assumption) ?_
    case hap13716q3n4 => (intro w hSw; (try dsimp only at hSw); go_simp; try with_reducible rfl)
    try simp only [Act.put, List.setIfInBounds_toArray, List.set_cons_zero, List.set_cons_succ]
    refine wpAnyH_ready (rs := [2, 3, 5]) (by kernel_rfl) (by simp) ?_
    refine AllReadyH.cons (o := ⟨_, _, _, _, _, _⟩) rfl (fun K hK => ?cp13716q4n2) (AllReadyH.cons (o := ⟨_, _, _, _, _, _⟩) rfl (fun K hK => ?cp13716q4n3) (AllReadyH.cons (o := ⟨_, _, _, _, _, _⟩) rfl (fun K hK => ?cp13716q4n5) AllReadyH.nil))
    case cp13716q4n2 =>
      go_simp
      go_at_call 123
      refine (HR W0).out.mono ?_
      rintro e9 W1 ⟨v9, hi9, rfl, hO9, hh9, hbn⟩
      try (have HO9 := Lib.hid ((HO9.out.below hbn).more hbn.size))
      try (have HO10 := Lib.hid ((HO10.out.below hbn).more hbn.size))
      try (have HO12 := Lib.hid ((HO12.out.below hbn).more hbn.size))
      have HBc := Lib.hid (HBc.out.trans (hbn.mono HBc.out.size))
      have HO9 : Hid (RdII W1 W1.heap.size v9 rows) := OwnM.rd hO9
      clear hO9 hh9 hbn
      refine hK.out _ _ (by first | exact HN13.out.choose_spec.1.2.1 | exact HBc.out) (fun hHeld => ?_)
      clear hK K
      try simp only [Act.put, List.setIfInBounds_toArray, List.set_cons_zero, List.set_cons_succ]
      refine wpAnyH_ready (rs := [3, 5]) (by kernel_rfl) (by simp) ?_
      refine AllReadyH.cons (o := ⟨_, _, _, _, _, _⟩) rfl (fun K hK => ?cp13716q5n3) (AllReadyH.cons (o := ⟨_, _, _, _, _, _⟩) rfl (fun K hK => ?cp13716q5n5) AllReadyH.nil)
      case cp13716q5n3 =>
        go_simp
        obtain ⟨W2, hWn, hkn, hbn⟩ := one_alloc W1 (.cells #[] 31)
        rw [← hWn]
        try (have HO9 := Lib.hid ((HO9.out.below hbn).more hbn.size))
        try (have HO10 := Lib.hid ((HO10.out.below hbn).more hbn.size))
        try (have HO12 := Lib.hid ((HO12.out.below hbn).more hbn.size))
        have HBc := Lib.hid (HBc.out.trans (hbn.mono HBc.out.size))
        obtain ⟨p10, hp10⟩ : ∃ p10, W1.heap.size = p10 := ⟨_, rfl⟩
        have HO10 : Hid (RdII W2 W2.heap.size (.slice (some ⟨p10, 0, none⟩) 0 0) []) := rdII_none _
        rw [hp10]
        clear hWn hkn hbn hp10
        refine hK.out _ _ (by first | exact HN13.out.choose_spec.1.2.1 | exact HBc.out) (fun hHeld => ?_)
        clear hK K
        try simp only [Act.put, List.setIfInBounds_toArray, List.set_cons_zero, List.set_cons_succ]
        refine wpAnyH_ready (rs := [5]) (by kernel_rfl) (by simp) ?_
        refine AllReadyH.cons (o := ⟨_, _, _, _, _, _⟩) rfl (fun K hK => ?_) AllReadyH.nil
        go_simp
        obtain ⟨W3, hWn, hkn, hbn⟩ := one_alloc W2 (.cells (madeCells #[.int .i64 0] n) 3)
        have h12 := rdI_made W2 n hn9
        rw [← hWn] at h12 ⊢
        try (have HO9 := Lib.hid ((HO9.out.below hbn).more hbn.size))
        try (have HO10 := Lib.hid ((HO10.out.below hbn).more hbn.size))
        try (have HO12 := Lib.hid ((HO12.out.below hbn).more hbn.size))
        have HBc := Lib.hid (HBc.out.trans (hbn.mono HBc.out.size))
        obtain ⟨p12, hp12⟩ : ∃ p12, W2.heap.size = p12 := ⟨_, rfl⟩
        rw [hp12] at h12 ⊢
        have HO12 := Lib.hid h12
        clear hWn hkn hbn hp12 h12
        refine hK.out _ _ (by first | exact HN13.out.choose_spec.1.2.1 | exact HBc.out) (fun hHeld => ?_)
        clear hK K
        try simp only [Act.put, List.setIfInBounds_toArray, List.set_cons_zero, List.set_cons_succ]
        refine wpAnyH_ready (rs := [6]) (by kernel_rfl) (by simp) ?_
        refine AllReadyH.cons (o := ⟨_, _, _, _, _, _⟩) rfl (fun K hK => ?_) AllReadyH.nil
        go_simp
        go_at_call 122
        refine (HS.out W3 W3.heap.size _ _ _ HO9.out HO10.out HO12.out (Nat.le_refl _)).mono ?_
        rintro e13 W4 ⟨v13, hi13, rfl, hN13⟩
        have HN13 : Hid (NRel kdM eMA w w.heap.size w.heap.size W4 hi13 v13 res) := NRel.rebaseU hN13 HBc.out HBc.out.size HBc.out.size
        clear hN13
        refine hK.out _ _ (by first | exact HN13.out.choose_spec.1.2.1 | exact HBc.out) (fun hHeld => ?_)
        clear hK K
        try simp only [Act.put, List.setIfInBounds_toArray, List.set_cons_zero, List.set_cons_succ]
        refine wpAnyH_take (i := 7) (oi := ⟨_, _, _, _, _, _⟩) (v := ?vap13716q6n7) rfl (by kernel_rfl) (by kernel_rfl) (by kernel_rfl) (fun _ _ _ h => h) (Or.inl ⟨by rfl, ?hap13716q6n7⟩) (by assumption) ?_
        case hap13716q6n7 => (intro w hSw; (try dsimp only at hSw); go_simp; try with_reducible rfl)
        try simp only [Act.put, List.setIfInBounds_toArray, List.set_cons_zero, List.set_cons_succ]
        refine wpAnyH_done (by kernel_rfl) ?_ _
        go_wp2_with fail
        go_ret
        exact ⟨_, _, rfl, HN13.out⟩
      case cp13716q5n5 =>
        go_simp
        obtain ⟨W2, hWn, hkn, hbn⟩ := one_alloc W1 (.cells (madeCells #[.int .i64 0] n) 3)
        have h12 := rdI_made W1 n hn9
        rw [← hWn] at h12 ⊢
        try (have HO9 := Lib.hid ((HO9.out.below hbn).more hbn.size))
        try (have HO10 := Lib.hid ((HO10.out.below hbn).more hbn.size))
        try (have HO12 := Lib.hid ((HO12.out.below hbn).more hbn.size))
        have HBc := Lib.hid (HBc.out.trans (hbn.mono HBc.out.size))
        obtain ⟨p12, hp12⟩ : ∃ p12, W1.heap.size = p12 := ⟨_, rfl⟩
        rw [hp12] at h12 ⊢
        have HO12 := Lib.hid h12
        clear hWn hkn hbn hp12 h12
        refine hK.out _ _ (by first | exact HN13.out.choose_spec.1.2.1 | exact HBc.out) (fun hHeld => ?_)
        clear hK K
        try simp only [Act.put, List.setIfInBounds_toArray, List.set_cons_zero, List.set_cons_succ]
        refine wpAnyH_ready (rs := [3]) (by kernel_rfl) (by simp) ?_
        refine AllReadyH.cons (o := ⟨_, _, _, _, _, _⟩) rfl (fun K hK => ?_) AllReadyH.nil
        go_simp
        obtain ⟨W3, hWn, hkn, hbn⟩ := one_alloc W2 (.cells #[] 31)
        rw [← hWn]
        try (have HO9 := Lib.hid ((HO9.out.below hbn).more hbn.size))
        try (have HO10 := Lib.hid ((HO10.out.below hbn).more hbn.size))
        try (have HO12 := Lib.hid ((HO12.out.below hbn).more hbn.size))
        have HBc := Lib.hid (HBc.out.trans (hbn.mono HBc.out.size))
        obtain ⟨p10, hp10⟩ : ∃ p10, W2.heap.size = p10 := ⟨_, rfl⟩
        have HO10 : Hid (RdII W3 W3.heap.size (.slice (some ⟨p10, 0, none⟩) 0 0) []) := rdII_none _
        rw [hp10]
        clear hWn hkn hbn hp10
        refine hK.out _ _ (by first | exact HN13.out.choose_spec.1.2.1 | exact HBc.out) (fun hHeld => ?_)
        clear hK K
        try simp only [Act.put, List.setIfInBounds_toArray, List.set_cons_zero, List.set_cons_succ]
        refine wpAnyH_ready (rs := [6]) (by kernel_rfl) (by simp) ?_
        refine AllReadyH.cons (o := ⟨_, _, _, _, _, _⟩) rfl (fun K hK => ?_) AllReadyH.nil
        go_simp
        go_at_call 122
        refine (HS.out W3 W3.heap.size _ _ _ HO9.out HO10.out HO12.out (Nat.le_refl _)).mono ?_
        rintro e13 W4 ⟨v13, hi13, rfl, hN13⟩
        have HN13 : Hid (NRel kdM eMA w w.heap.size w.heap.size W4 hi13 v13 res) := NRel.rebaseU hN13 HBc.out HBc.out.size HBc.out.size
        clear hN13
        refine hK.out _ _ (by first | exact HN13.out.choose_spec.1.2.1 | exact HBc.out) (fun hHeld => ?_)
        clear hK K
        try simp only [Act.put, List.setIfInBounds_toArray, List.set_cons_zero, List.set_cons_succ]
        refine wpAnyH_take (i := 7) (oi := ⟨_, _, _, _, _, _⟩) (v := ?vap13716q7n7) rfl (by kernel_rfl) (by kernel_rfl) (by kernel_rfl) (fun _ _ _ h => h) (Or.inl ⟨by rfl, ?hap13716q7n7⟩) (by assumption) ?_
        case hap13716q7n7 => (intro w hSw; (try dsimp only at hSw); go_simp; try with_reducible rfl)
        try simp only [Act.put, List.setIfInBounds_toArray, List.set_cons_zero, List.set_cons_succ]
        refine wpAnyH_done (by kernel_rfl) ?_ _
        go_wp2_with fail
        go_ret
        exact ⟨_, _, rfl, HN13.out⟩
    case cp13716q4n3 =>
      go_simp
      obtain ⟨W1, hWn, hkn, hbn⟩ := one_alloc W0 (.cells #[] 31)
      rw [← hWn]
      try (have HO9 := Lib.hid ((HO9.out.below hbn).more hbn.size))
      try (have HO10 := Lib.hid ((HO10.out.below hbn).more hbn.size))
      try (have HO12 := Lib.hid ((HO12.out.below hbn).more hbn.size))
      have HBc := Lib.hid (HBc.out.trans (hbn.mono HBc.out.size))
      obtain ⟨p10, hp10⟩ : ∃ p10, W0.heap.size = p10 := ⟨_, rfl⟩
      have HO10 : Hid (RdII W1 W1.heap.size (.slice (some ⟨p10, 0, none⟩) 0 0) []) := rdII_none _
      rw [hp10]
      clear hWn hkn hbn hp10
      refine hK.out _ _ (by first | exact HN13.out.choose_spec.1.2.1 | exact HBc.out) (fun hHeld => ?_)
      clear hK K
      try simp only [Act.put, List.setIfInBounds_toArray, List.set_cons_zero, List.set_cons_succ]
      refine wpAnyH_ready (rs := [2, 5]) (by kernel_rfl) (by simp) ?_
      refine AllReadyH.cons (o := ⟨_, _, _, _, _, _⟩) rfl (fun K hK => ?cp13716q8n2) (AllReadyH.cons (o := ⟨_, _, _, _, _, _⟩) rfl (fun K hK => ?cp13716q8n5) AllReadyH.nil)
      case cp13716q8n2 =>
        go_simp
        go_at_call 123
        refine (HR W1).out.mono ?_
        rintro e9 W2 ⟨v9, hi9, rfl, hO9, hh9, hbn⟩
        try (have HO9 := Lib.hid ((HO9.out.below hbn).more hbn.size))
        try (have HO10 := Lib.hid ((HO10.out.below hbn).more hbn.size))
        try (have HO12 := Lib.hid ((HO12.out.below hbn).more hbn.size))
        have HBc := Lib.hid (HBc.out.trans (hbn.mono HBc.out.size))
        have HO9 : Hid (RdII W2 W2.heap.size v9 rows) := OwnM.rd hO9
        clear hO9 hh9 hbn
        refine hK.out _ _ (by first | exact HN13.out.choose_spec.1.2.1 | exact HBc.out) (fun hHeld => ?_)
        clear hK K
        try simp only [Act.put, List.setIfInBounds_toArray, List.set_cons_zero, List.set_cons_succ]
        refine wpAnyH_ready (rs := [5]) (by kernel_rfl) (by simp) ?_
        refine AllReadyH.cons (o := ⟨_, _, _, _, _, _⟩) rfl (fun K hK => ?_) AllReadyH.nil
        go_simp
        obtain ⟨W3, hWn, hkn, hbn⟩ := one_alloc W2 (.cells (madeCells #[.int .i64 0] n) 3)
        have h12 := rdI_made W2 n hn9
        rw [← hWn] at h12 ⊢
        try (have HO9 := Lib.hid ((HO9.out.below hbn).more hbn.size))
        try (have HO10 := Lib.hid ((HO10.out.below hbn).more hbn.size))
        try (have HO12 := Lib.hid ((HO12.out.below hbn).more hbn.size))
        have HBc := Lib.hid (HBc.out.trans (hbn.mono HBc.out.size))
        obtain ⟨p12, hp12⟩ : ∃ p12, W2.heap.size = p12 := ⟨_, rfl⟩
        rw [hp12] at h12 ⊢
        have HO12 := Lib.hid h12
        clear hWn hkn hbn hp12 h12
        refine hK.out _ _ (by first | exact HN13.out.choose_spec.1.2.1 | exact HBc.out) (fun hHeld => ?_)
        clear hK K
        try simp only [Act.put, List.setIfInBounds_toArray, List.set_cons_zero, List.set_cons_succ]
        refine wpAnyH_ready (rs := [6]) (by kernel_rfl) (by simp) ?_
        refine AllReadyH.cons (o := ⟨_, _, _, _, _, _⟩) rfl (fun K hK => ?_) AllReadyH.nil
        go_simp
        go_at_call 122
        refine (HS.out W3 W3.heap.size _ _ _ HO9.out HO10.out HO12.out (Nat.le_refl _)).mono ?_
        rintro e13 W4 ⟨v13, hi13, rfl, hN13⟩
        have HN13 : Hid (NRel kdM eMA w w.heap.size w.heap.size W4 hi13 v13 res) := NRel.rebaseU hN13 HBc.out HBc.out.size HBc.out.size
        clear hN13
        refine hK.out _ _ (by first | exact HN13.out.choose_spec.1.2.1 | exact HBc.out) (fun hHeld => ?_)
        clear hK K
        try simp only [Act.put, List.setIfInBounds_toArray, List.set_cons_zero, List.set_cons_succ]
        refine wpAnyH_take (i := 7) (oi := ⟨_, _, _, _, _, _⟩) (v := ?vap13716q9n7) rfl (by kernel_rfl) (by kernel_rfl) (by kernel_rfl) (fun _ _ _ h => h) (Or.inl ⟨by rfl, ?hap13716q9n7⟩) (by assumption) ?_
        case hap13716q9n7 => (intro w hSw; (try dsimp only at hSw); go_simp; try with_reducible rfl)
        try simp only [Act.put, List.setIfInBounds_toArray, List.set_cons_zero, List.set_cons_succ]
        refine wpAnyH_done (by kernel_rfl) ?_ _
        go_wp2_with fail
        go_ret
        exact ⟨_, _, rfl, HN13.out⟩
      case cp13716q8n5 =>
        go_simp
        obtain ⟨W2, hWn, hkn, hbn⟩ := one_alloc W1 (.cells (madeCells #[.int .i64 0] n) 3)
        have h12 := rdI_made W1 n hn9
        rw [← hWn] at h12 ⊢
        try (have HO9 := Lib.hid ((HO9.out.below hbn).more hbn.size))
        try (have HO10 := Lib.hid ((HO10.out.below hbn).more hbn.size))
        try (have HO12 := Lib.hid ((HO12.out.below hbn).more hbn.size))
        have HBc := Lib.hid (HBc.out.trans (hbn.mono HBc.out.size))
        obtain ⟨p12, hp12⟩ : ∃ p12, W1.heap.size = p12 := ⟨_, rfl⟩
        rw [hp12] at h12 ⊢
        have HO12 := Lib.hid h12
        clear hWn hkn hbn hp12 h12
        refine hK.out _ _ (by first | exact HN13.out.choose_spec.1.2.1 | exact HBc.out) (fun hHeld => ?_)
        clear hK K
        try simp only [Act.put, List.setIfInBounds_toArray, List.set_cons_zero, List.set_cons_succ]
        refine wpAnyH_ready (rs := [2]) (by kernel_rfl) (by simp) ?_
        refine AllReadyH.cons (o := ⟨_, _, _, _, _, _⟩) rfl (fun K hK => ?_) AllReadyH.nil
        go_simp
        go_at_call 123
        refine (HR W2).out.mono ?_
        rintro e9 W3 ⟨v9, hi9, rfl, hO9, hh9, hbn⟩
        try (have HO9 := Lib.hid ((HO9.out.below hbn).more hbn.size))
        try (have HO10 := Lib.hid ((HO10.out.below hbn).more hbn.size))
        try (have HO12 := Lib.hid ((HO12.out.below hbn).more hbn.size))
        have HBc := Lib.hid (HBc.out.trans (hbn.mono HBc.out.size))
        have HO9 : Hid (RdII W3 W3.heap.size v9 rows) := OwnM.rd hO9
        clear hO9 hh9 hbn
        refine hK.out _ _ (by first | exact HN13.out.choose_spec.1.2.1 | exact HBc.out) (fun hHeld => ?_)
        clear hK K
        try simp only [Act.put, List.setIfInBounds_toArray, List.set_cons_zero, List.set_cons_succ]
        refine wpAnyH_ready (rs := [6]) (by kernel_rfl) (by simp) ?_
        refine AllReadyH.cons (o := ⟨_, _, _, _, _, _⟩) rfl (fun K hK => ?_) AllReadyH.nil
        go_simp
        go_at_call 122
        refine (HS.out W3 W3.heap.size _ _ _ HO9.out HO10.out HO12.out (Nat.le_refl _)).mono ?_
        rintro e13 W4 ⟨v13, hi13, rfl, hN13⟩
        have HN13 : Hid (NRel kdM eMA w w.heap.size w.heap.size W4 hi13 v13 res) := NRel.rebaseU hN13 HBc.out HBc.out.size HBc.out.size
        clear hN13
        refine hK.out _ _ (by first | exact HN13.out.choose_spec.1.2.1 | exact HBc.out) (fun hHeld => ?_)
        clear hK K
        try simp only [Act.put, List.setIfInBounds_toArray, List.set_cons_zero, List.set_cons_succ]
        refine wpAnyH_take (i := 7) (oi := ⟨_, _, _, _, _, _⟩) (v := ?vap13716q10n7) rfl (by kernel_rfl) (by kernel_rfl) (by kernel_rfl) (fun _ _ _ h => h) (Or.inl ⟨by rfl, ?hap13716q10n7⟩) (by assumption) ?_
        case hap13716q10n7 => (intro w hSw; (try dsimp only at hSw); go_simp; try with_reducible rfl)
        try simp only [Act.put, List.setIfInBounds_toArray, List.set_cons_zero, List.set_cons_succ]
        refine wpAnyH_done (by kernel_rfl) ?_ _
        go_wp2_with fail
        go_ret
        exact ⟨_, _, rfl, HN13.out⟩
    case cp13716q4n5 =>
      go_simp
      obtain ⟨W1, hWn, hkn, hbn⟩ := one_alloc W0 (.cells (madeCells #[.int .i64 0] n) 3)
      have h12 := rdI_made W0 n hn9
      rw [← hWn] at h12 ⊢
      try (have HO9 := Lib.hid ((HO9.out.below hbn).more hbn.size))
      try (have HO10 := Lib.hid ((HO10.out.below hbn).more hbn.size))
      try (have HO12 := Lib.hid ((HO12.out.below hbn).more hbn.size))
      have HBc := Lib.hid (HBc.out.trans (hbn.mono HBc.out.size))
      obtain ⟨p12, hp12⟩ : ∃ p12, W0.heap.size = p12 := ⟨_, rfl⟩
      rw [hp12] at h12 ⊢
      have HO12 := Lib.hid h12
      clear hWn hkn hbn hp12 h12
      refine hK.out _ _ (by first | exact HN13.out.choose_spec.1.2.1 | exact HBc.out) (fun hHeld => ?_)
      clear hK K
      try simp only [Act.put, List.setIfInBounds_toArray, List.set_cons_zero, List.set_cons_succ]
      refine wpAnyH_ready (rs := [2, 3]) (by kernel_rfl) (by simp) ?_
      refine AllReadyH.cons (o := ⟨_, _, _, _, _, _⟩) rfl (fun K hK => ?cp13716q11n2) (AllReadyH.cons (o := ⟨_, _, _, _, _, _⟩) rfl (fun K hK => ?cp13716q11n3) AllReadyH.nil)
      case cp13716q11n2 =>
        go_simp
        go_at_call 123
        refine (HR W1).out.mono ?_
        rintro e9 W2 ⟨v9, hi9, rfl, hO9, hh9, hbn⟩
        try (have HO9 := Lib.hid ((HO9.out.below hbn).more hbn.size))
        try (have HO10 := Lib.hid ((HO10.out.below hbn).more hbn.size))
        try (have HO12 := Lib.hid ((HO12.out.below hbn).more hbn.size))
        have HBc := Lib.hid (HBc.out.trans (hbn.mono HBc.out.size))
        have HO9 : Hid (RdII W2 W2.heap.size v9 rows) := OwnM.rd hO9
        clear hO9 hh9 hbn
        refine hK.out _ _ (by first | exact HN13.out.choose_spec.1.2.1 | exact HBc.out) (fun hHeld => ?_)
        clear hK K
        try simp only [Act.put, List.setIfInBounds_toArray, List.set_cons_zero, List.set_cons_succ]
        refine wpAnyH_ready (rs := [3]) (by kernel_rfl) (by simp) ?_
        refine AllReadyH.cons (o := ⟨_, _, _, _, _, _⟩) rfl (fun K hK => ?_) AllReadyH.nil
        go_simp
        obtain ⟨W3, hWn, hkn, hbn⟩ := one_alloc W2 (.cells #[] 31)
        rw [← hWn]
        try (have HO9 := Lib.hid ((HO9.out.below hbn).more hbn.size))
        try (have HO10 := Lib.hid ((HO10.out.below hbn).more hbn.size))
        try (have HO12 := Lib.hid ((HO12.out.below hbn).more hbn.size))
        have HBc := Lib.hid (HBc.out.trans (hbn.mono HBc.out.size))
        obtain ⟨p10, hp10⟩ : ∃ p10, W2.heap.size = p10 := ⟨_, rfl⟩
        have HO10 : Hid (RdII W3 W3.heap.size (.slice (some ⟨p10, 0, none⟩) 0 0) []) := rdII_none _
        rw [hp10]
        clear hWn hkn hbn hp10
        refine hK.out _ _ (by first | exact HN13.out.choose_spec.1.2.1 | exact HBc.out) (fun hHeld => ?_)
        clear hK K
        try simp only [Act.put, List.setIfInBounds_toArray, List.set_cons_zero, List.set_cons_succ]
        refine wpAnyH_ready (rs := [6]) (by kernel_rfl) (by simp) ?_
        refine AllReadyH.cons (o := ⟨_, _, _, _, _, _⟩) rfl (fun K hK => ?_) AllReadyH.nil
        go_simp
        go_at_call 122
        refine (HS.out W3 W3.heap.size _ _ _ HO9.out HO10.out HO12.out (Nat.le_refl _)).mono ?_
        rintro e13 W4 ⟨v13, hi13, rfl, hN13⟩
        have HN13 : Hid (NRel kdM eMA w w.heap.size w.heap.size W4 hi13 v13 res) := NRel.rebaseU hN13 HBc.out HBc.out.size HBc.out.size
        clear hN13
        refine hK.out _ _ (by first | exact HN13.out.choose_spec.1.2.1 | exact HBc.out) (fun hHeld => ?_)
        clear hK K
        try simp only [Act.put, List.setIfInBounds_toArray, List.set_cons_zero, List.set_cons_succ]
        refine wpAnyH_take (i := 7) (oi := ⟨_, _, _, _, _, _⟩) (v := ?vap13716q12n7) rfl (by kernel_rfl) (by kernel_rfl) (by kernel_rfl) (fun _ _ _ h => h) (Or.inl ⟨by rfl, ?hap13716q12n7⟩) (by assumption) ?_
        case hap13716q12n7 => (intro w hSw; (try dsimp only at hSw); go_simp; try with_reducible rfl)
        try simp only [Act.put, List.setIfInBounds_toArray, List.set_cons_zero, List.set_cons_succ]
        refine wpAnyH_done (by kernel_rfl) ?_ _
        go_wp2_with fail
        go_ret
        exact ⟨_, _, rfl, HN13.out⟩
      case cp13716q11n3 =>
        go_simp
        obtain ⟨W2, hWn, hkn, hbn⟩ := one_alloc W1 (.cells #[] 31)
        rw [← hWn]
        try (have HO9 := Lib.hid ((HO9.out.below hbn).more hbn.size))
        try (have HO10 := Lib.hid ((HO10.out.below hbn).more hbn.size))
        try (have HO12 := Lib.hid ((HO12.out.below hbn).more hbn.size))
        have HBc := Lib.hid (HBc.out.trans (hbn.mono HBc.out.size))
        obtain ⟨p10, hp10⟩ : ∃ p10, W1.heap.size = p10 := ⟨_, rfl⟩
        have HO10 : Hid (RdII W2 W2.heap.size (.slice (some ⟨p10, 0, none⟩) 0 0) []) := rdII_none _
        rw [hp10]
        clear hWn hkn hbn hp10
        refine hK.out _ _ (by first | exact HN13.out.choose_spec.1.2.1 | exact HBc.out) (fun hHeld => ?_)
        clear hK K
        try simp only [Act.put, List.setIfInBounds_toArray, List.set_cons_zero, List.set_cons_succ]
        refine wpAnyH_ready (rs := [2]) (by kernel_rfl) (by simp) ?_
        refine AllReadyH.cons (o := ⟨_, _, _, _, _, _⟩) rfl (fun K hK => ?_) AllReadyH.nil
        go_simp
        go_at_call 123
        refine (HR W2).out.mono ?_
        rintro e9 W3 ⟨v9, hi9, rfl, hO9, hh9, hbn⟩
        try (have HO9 := Lib.hid ((HO9.out.below hbn).more hbn.size))
        try (have HO10 := Lib.hid ((HO10.out.below hbn).more hbn.size))
        try (have HO12 := Lib.hid ((HO12.out.below hbn).more hbn.size))
        have HBc := Lib.hid (HBc.out.trans (hbn.mono HBc.out.size))
        have HO9 : Hid (RdII W3 W3.heap.size v9 rows) := OwnM.rd hO9
        clear hO9 hh9 hbn
        refine hK.out _ _ (by first | exact HN13.out.choose_spec.1.2.1 | exact HBc.out) (fun hHeld => ?_)
        clear hK K
        try simp only [Act.put, List.setIfInBounds_toArray, List.set_cons_zero, List.set_cons_succ]
        refine wpAnyH_ready (rs := [6]) (by kernel_rfl) (by simp) ?_
        refine AllReadyH.cons (o := ⟨_, _, _, _, _, _⟩) rfl (fun K hK => ?_) AllReadyH.nil
        go_simp
        go_at_call 122
        refine (HS.out W3 W3.heap.size _ _ _ HO9.out HO10.out HO12.out (Nat.le_refl _)).mono ?_
        rintro e13 W4 ⟨v13, hi13, rfl, hN13⟩
        have HN13 : Hid (NRel kdM eMA w w.heap.size w.heap.size W4 hi13 v13 res) := NRel.rebaseU hN13 HBc.out HBc.out.size HBc.out.size
        clear hN13
        refine hK.out _ _ (by first | exact HN13.out.choose_spec.1.2.1 | exact HBc.out) (fun hHeld => ?_)
        clear hK K
        try simp only [Act.put, List.setIfInBounds_toArray, List.set_cons_zero, List.set_cons_succ]
        refine wpAnyH_take (i := 7) (oi := ⟨_, _, _, _, _, _⟩) (v := ?vap13716q13n7) rfl (by kernel_rfl) (by kernel_rfl) (by kernel_rfl) (fun _ _ _ h => h) (Or.inl ⟨by rfl, ?hap13716q13n7⟩) (by assumption) ?_
        case hap13716q13n7 => (intro w hSw; (try dsimp only at hSw); go_simp; try with_reducible rfl)
        try simp only [Act.put, List.setIfInBounds_toArray, List.set_cons_zero, List.set_cons_succ]
        refine wpAnyH_done (by kernel_rfl) ?_ _
        go_wp2_with fail
        go_ret
        exact ⟨_, _, rfl, HN13.out⟩
end Go.Proofs.Ytehnbalbpfmijaa

namespace Go.Proofs.Ytehnbalbpfmijaa
open Go.RowKit

def cmI (zs : List Int) (acc : Int) : Nat → Int | 0 => acc | k + 1 => if el zs k == -1 then wrap64 (cmI zs acc k + 1) else cmI zs acc k
def cmTo (zss : List (List Int)) : Nat → Int | 0 => 0 | i + 1 => cmI (rw' zss i) (cmTo zss i) (rw' zss i).length

set_option maxHeartbeats 1000000 in
theorem CountMinus_any (v : Value) (zss : List (List Int)) (B : Nat) (w : World) (h : RdII w B v zss) :
    Calls Try.prog 57 #[v] w fun e w' => e = .returned (.int .i64 (cmTo zss zss.length)) ∧ w = w' := by
  obtain ⟨A, c, rfl, g1, g2, g3⟩ := h.open_
  unfold maxLen at g2
  clear h
  have G3 := Lib.hid g3; clear g3
  go_enter Try.func57, Try.ntmps57
  go_wp2_with fail
  go_loop [3, 10] (fun n s => ∃ i : Nat, i ≤ zss.length ∧ n = .int .i64 (cmTo zss i) ∧ s = .int .i64 i) (fun _ s => zss.length - (intOf s).toNat)
  case atStart => exact ⟨0, Nat.zero_le _, rfl, rfl⟩
  case round =>
    obtain ⟨i, hi, rfl, rfl⟩ := hrel
    by_cases hlt : i < zss.length
    · obtain ⟨ad, u, rfl, hbl, hc, A', c', rfl, q1, q2, q3⟩ := G3.out i hlt
      unfold maxLen at q2
      have HE : Hid (cmTo zss (i + 1) = cmI (rw' zss i) (cmTo zss i) (rw' zss i).length) := rfl
      go_wp2_with fail
      go_loop [3, 16] (fun n s => ∃ k : Nat, k ≤ (rw' zss i).length ∧ n = .int .i64 (cmI (rw' zss i) (cmTo zss i) k) ∧ s = .int .i64 k) (fun _ s => (rw' zss i).length - (intOf s).toNat)
      case atStart => exact ⟨0, Nat.zero_le _, rfl, rfl⟩
      case round =>
        obtain ⟨k, hk, rfl, rfl⟩ := hrel
        by_cases hlk : k < (rw' zss i).length
        · obtain ⟨ad', rfl, hbl', hck⟩ := q3.el hlk
          have he : cmI (rw' zss i) (cmTo zss i) (k + 1) = if el (rw' zss i) k == -1 then wrap64 (cmI (rw' zss i) (cmTo zss i) k + 1) else cmI (rw' zss i) (cmTo zss i) k := rfl
          cases hm : el (rw' zss i) k == -1
          · have HE2 : Hid (cmI (rw' zss i) (cmTo zss i) (k + 1) = cmI (rw' zss i) (cmTo zss i) k) := by unfold Hid; rw [he, hm]; rfl
            clear he
            go_wp2_with fail
            go_round
            case rel => exact ⟨k + 1, by omega, by rw [HE2.out], by go_num⟩
            case measure => simp [intOf]; omega
          · have HE2 : Hid (cmI (rw' zss i) (cmTo zss i) (k + 1) = wrap64 (cmI (rw' zss i) (cmTo zss i) k + 1)) := by unfold Hid; rw [he, hm]; rfl
            clear he
            go_wp2_with fail
            go_round
            case rel => exact ⟨k + 1, by omega, by rw [HE2.out], by go_num⟩
            case measure => simp [intOf]; omega
        · have HK : Hid (k = (rw' zss i).length) := by unfold Hid; omega
          go_wp2_with fail
          go_round
          case rel => exact ⟨i + 1, by omega, by rw [HE.out, HK.out], by go_num⟩
          case measure => simp [intOf]; omega
    · have HK : Hid (i = zss.length) := by unfold Hid; omega
      go_wp2_with fail
      go_ret
      exact ⟨ret_int (by rw [HK.out]), rfl⟩

set_option maxHeartbeats 1000000 in
theorem specCountMinus_any (v : Value) (zss : List (List Int)) (B : Nat) (w : World) (h : RdII w B v zss) :
    Calls Try.prog 55 #[v] w fun e w' => e = .returned (.int .i64 (cmTo zss zss.length)) ∧ Below w.heap.size w w' := by
  obtain ⟨A, c, rfl, g1, g2, g3⟩ := h.open_
  unfold maxLen at g2
  clear h
  have G3 := Lib.hid g3; clear g3
  go_enter Try.func55, Try.ntmps55
  go_wp2_with fail
  go_loop [3, 4] (fun n s => ∃ i : Nat, i ≤ zss.length ∧ n = .int .i64 (cmTo zss i) ∧ s = .int .i64 i) (fun _ s => zss.length - (intOf s).toNat)
  case atStart => exact ⟨0, Nat.zero_le _, rfl, rfl⟩
  case round =>
    obtain ⟨i, hi, rfl, rfl⟩ := hrel
    by_cases hlt : i < zss.length
    · obtain ⟨ad, u, rfl, hbl, hc, A', c', rfl, q1, q2, q3⟩ := G3.out i hlt
      unfold maxLen at q2
      have HE : Hid (cmTo zss (i + 1) = cmI (rw' zss i) (cmTo zss i) (rw' zss i).length) := rfl
      go_wp2_with fail
      go_loop [3, 5] (fun n s => ∃ k : Nat, k ≤ (rw' zss i).length ∧ n = .int .i64 (cmI (rw' zss i) (cmTo zss i) k) ∧ s = .int .i64 k) (fun _ s => (rw' zss i).length - (intOf s).toNat)
      case atStart => exact ⟨0, Nat.zero_le _, rfl, rfl⟩
      case round =>
        obtain ⟨k, hk, rfl, rfl⟩ := hrel
        by_cases hlk : k < (rw' zss i).length
        · obtain ⟨ad', rfl, hbl', hck⟩ := q3.el hlk
          have he : cmI (rw' zss i) (cmTo zss i) (k + 1) = if el (rw' zss i) k == -1 then wrap64 (cmI (rw' zss i) (cmTo zss i) k + 1) else cmI (rw' zss i) (cmTo zss i) k := rfl
          cases hm : el (rw' zss i) k == -1
          · have HE2 : Hid (cmI (rw' zss i) (cmTo zss i) (k + 1) = cmI (rw' zss i) (cmTo zss i) k) := by unfold Hid; rw [he, hm]; rfl
            clear he
            go_wp2_with fail
            go_round
            case rel => exact ⟨k + 1, by omega, by rw [HE2.out], by go_num⟩
            case measure => simp [intOf]; omega
          · have HE2 : Hid (cmI (rw' zss i) (cmTo zss i) (k + 1) = wrap64 (cmI (rw' zss i) (cmTo zss i) k + 1)) := by unfold Hid; rw [he, hm]; rfl
            clear he
            go_wp2_with fail
            go_round
            case rel => exact ⟨k + 1, by omega, by rw [HE2.out], by go_num⟩
            case measure => simp [intOf]; omega
        · have HK : Hid (k = (rw' zss i).length) := by unfold Hid; omega
          go_wp2_with fail
          go_round
          case rel => exact ⟨i + 1, by omega, by rw [HE.out, HK.out], by go_num⟩
          case measure => simp [intOf]; omega
    · have HK : Hid (i = zss.length) := by unfold Hid; omega
      go_wp2_with fail
      go_ret
      exact ⟨ret_int (by rw [HK.out]), Below.refl _ _⟩
end Go.Proofs.Ytehnbalbpfmijaa

namespace Go.Proofs.Ytehnbalbpfmijaa
open Go.RowKit
set_option linter.unusedVariables false

theorem pow_val (k : Nat) (hk : k ≤ 16) : wrap64 ((2 : Int) ^ k) = ((2 ^ k : Nat) : Int) ∧ IntKind.i64.wrap ((2 : Int) ^ k) = ((2 ^ k : Nat) : Int) := by
  have h : (2 ^ k : Nat) ≤ 2 ^ 16 := Nat.pow_le_pow_right (by omega) hk
  have e : ((2 : Int) ^ k) = ((2 ^ k : Nat) : Int) := by simp
  rw [e]
  generalize (2 ^ k : Nat) = p at *
  exact ⟨by rw [← IntWalk.i64_left]; exact IntWalk.i64_in _ (by omega), IntWalk.i64_in _ (by omega)⟩
def cmv (m : List (List Int)) : Int := cmTo m m.length
def wcTo (L : List (List (List Int))) : Nat → Nat | 0 => 0 | i + 1 => wcTo L i + 2 ^ (cmv (L.getD i [])).toNat
def wcZ (L : List (List (List Int))) : Int := (wcTo L L.length : Int)
/-- A list short enough. -/
def okLB (L : List (List (List Int))) : Bool := decide (L.length ≤ 100) && L.all fun m => decide (0 ≤ cmv m) && decide (cmv m ≤ 16)
theorem okL_at {L : List (List (List Int))} (h : okLB L = true) : L.length ≤ 100 ∧ ∀ i, i < L.length → ∃ c : Nat, c ≤ 16 ∧ cmv (L.getD i []) = (c : Int) := by
  unfold okLB at h
  rw [Bool.and_eq_true, List.all_eq_true] at h
  refine ⟨by simpa using h.1, fun i hi => ?_⟩
  have hm : L.getD i [] ∈ L := by rw [List.getD_eq_getElem?_getD, List.getElem?_eq_getElem hi]; exact List.getElem_mem hi
  have := h.2 _ hm
  simp only [Bool.and_eq_true, decide_eq_true_eq] at this
  exact ⟨(cmv (L.getD i [])).toNat, by omega, by omega⟩
theorem wcTo_le {L : List (List (List Int))} (h : okLB L = true) : ∀ i, i ≤ L.length → wcTo L i ≤ i * 65536
  | 0, _ => Nat.le_refl _
  | i + 1, hi => by
    have ih := wcTo_le h i (by omega)
    obtain ⟨c, hc, e⟩ := (okL_at h).2 i (by omega)
    have := Nat.pow_le_pow_right (show 0 < 2 by omega) hc
    rw [wcTo, e, Int.toNat_natCast]
    omega
theorem NRel.rdA {w wr : World} {base lo hi : Nat} {v : Value} {xs : List (List (List Int))} (h : NRel kdM eMA w base lo wr hi v xs) : RdN RdII wr wr.heap.size v xs :=
  h.rdN okRowsA fun _ _ _ _ _ hx => OwnM.rd hx
theorem RdN.belowA {w w' : World} {B : Nat} {v : Value} {xs : List (List (List Int))} (h : RdN RdII w B v xs) (hb : Below B w w') : RdN RdII w' B v xs := RdN.below (fun _ _ hx => RdII.below hx hb) h hb
theorem getD_some {L : List (List (List Int))} {i : Nat} (hi : i < L.length) : L[i]? = some (L.getD i []) := by
  rw [List.getD_eq_getElem?_getD, List.getElem?_eq_getElem hi]; rfl

set_option maxRecDepth 100000 in
set_option maxHeartbeats 4000000 in
theorem WeightedCount_any (a : Int) (w : World) (hok : okLB (altZ a) = true) : Calls Try.prog 11 #[.int .i64 a] w fun e w' => e = .returned (.int .i64 (wcZ (altZ a))) ∧ Below w.heap.size w w' := by
  have HL := Lib.hid (ListAlternating_any a w)
  obtain ⟨hl, hcm⟩ := okL_at hok
  have HCM := Lib.hid hcm
  have HWL := Lib.hid (fun i hi => wcTo_le hok i hi)
  have HZ : Hid (wcZ (altZ a) = (wcTo (altZ a) (altZ a).length : Int)) := rfl
  have HW0 : Hid (wcTo (altZ a) 0 = 0) := rfl
  have HWS : Hid (∀ i, wcTo (altZ a) (i + 1) = wcTo (altZ a) i + 2 ^ (cmv ((altZ a).getD i [])).toNat) := fun i => rfl
  obtain ⟨wt, HWT⟩ : ∃ f : Nat → Nat, Hid (wcTo (altZ a) = f) := ⟨_, rfl⟩
  rw [HWT.out] at HWL HZ HW0 HWS
  rw [HZ.out]
  clear HWT hok hcm HZ
  generalize altZ a = L at *
  obtain ⟨N, hN⟩ : ∃ N, L.length = N := ⟨_, rfl⟩
  rw [hN] at hl HCM HWL ⊢
  have HLN := Lib.hid hN
  clear hN
  go_enter Try.func11, Try.ntmps11
  go_wp2_with fail
  refine HL.out.mono ?_
  rintro e w1 ⟨v, hi, rfl, hN1⟩
  have HB := Lib.hid hN1.choose_spec.1.2.1
  obtain ⟨A, c, rfl, g1, g2, g3⟩ := hN1.rdA
  rw [HLN.out] at g1 ⊢
  unfold maxLen at g2
  have G3 := Lib.hid g3
  clear hN1 g3 HL
  go_wp2_with fail
  go_loop [3, 9] (fun o i => ∃ (k S : Nat), k ≤ N ∧ o = .int .i64 (S : Int) ∧ i = .int .i64 (k : Int) ∧ Hid (S = wt k)) (fun _ i => N - (intOf i).toNat)
  case atStart => exact ⟨0, 0, Nat.zero_le _, rfl, rfl, HW0.out.symm⟩
  case round =>
    obtain ⟨k, S, hk, rfl, rfl, HS⟩ := hrel
    have hS : S ≤ 6553600 := by have := HWL.out k hk; rw [← HS.out] at this; omega
    by_cases hlt : k < N
    · have ht : decide ((k : Int) < (N : Int)) = true := by simp only [decide_eq_true_eq]; omega
      obtain ⟨ad, ⟨A1, n1, c1⟩, rfl, hbl, hc, hr⟩ := G3.out k _ (getD_some (by rw [HLN.out]; exact hlt))
      obtain ⟨q, hq, hcq⟩ := HCM.out k hlt
      have HWK := Lib.hid (HWS.out k)
      rw [hcq, Int.toNat_natCast] at HWK
      have HR := Lib.hid hr
      have HC : Hid (cmTo (L.getD k []) (L.getD k []).length = (q : Int)) := hcq
      obtain ⟨hpw, hpw2⟩ := pow_val q hq
      have hp16 : 2 ^ q ≤ 2 ^ 16 := Nat.pow_le_pow_right (by omega) hq
      have hk0 : (0 : Int) ≤ (k : Int) := by omega
      have hk1 : (k : Int) < (N : Int) := by omega
      clear hr hcq
      generalize L.getD k [] = m at *
      generalize 2 ^ q = p at *
      have hc : w1.cell? (ad.add k) = some (.slice A1 n1 c1) := hc
      have HR : Hid (RdII w1 w1.heap.size (.slice A1 n1 c1) m) := HR.out
      have hw1 : IntKind.i64.wrap ((S : Int) + (p : Int)) = ((S + p : Nat) : Int) := by rw [IntWalk.i64_in _ (by omega)]; simp
      have HS2 : Hid (S + p = wt (k + 1)) := by unfold Hid; rw [HWK.out, HS.out]
      go_wp2_with fail
      refine (CountMinus_any _ m _ _ HR.out).mono ?_
      rintro e w2 ⟨rfl, rfl⟩
      rw [HC.out]
      go_wp2_with fail
      go_round
      case rel => exact ⟨k + 1, S + p, by omega, by first | go_num | (rw [hpw]; go_num), by go_num, HS2⟩
      case measure => simp [intOf]; omega
    · obtain rfl : k = N := by omega
      have ht : decide ((k : Int) < (k : Int)) = false := by simp
      go_wp2_with fail
      go_ret
      exact ⟨ret_int (by rw [HS.out]), HB.out⟩
set_option maxRecDepth 100000 in
set_option maxHeartbeats 4000000 in
theorem specWeightedCount_any (a : Int) (w : World) (hok : okLB (altSZ a) = true) : Calls Try.prog 10 #[.int .i64 a] w fun e w' => e = .returned (.int .i64 (wcZ (altSZ a))) ∧ Below w.heap.size w w' := by
  have HL := Lib.hid (specListAlternating_any a w)
  obtain ⟨hl, hcm⟩ := okL_at hok
  have HCM := Lib.hid hcm
  have HWL := Lib.hid (fun i hi => wcTo_le hok i hi)
  have HZ : Hid (wcZ (altSZ a) = (wcTo (altSZ a) (altSZ a).length : Int)) := rfl
  have HW0 : Hid (wcTo (altSZ a) 0 = 0) := rfl
  have HWS : Hid (∀ i, wcTo (altSZ a) (i + 1) = wcTo (altSZ a) i + 2 ^ (cmv ((altSZ a).getD i [])).toNat) := fun i => rfl
  obtain ⟨wt, HWT⟩ : ∃ f : Nat → Nat, Hid (wcTo (altSZ a) = f) := ⟨_, rfl⟩
  rw [HWT.out] at HWL HZ HW0 HWS
  rw [HZ.out]
  clear HWT hok hcm HZ
  generalize altSZ a = L at *
  obtain ⟨N, hN⟩ : ∃ N, L.length = N := ⟨_, rfl⟩
  rw [hN] at hl HCM HWL ⊢
  have HLN := Lib.hid hN
  clear hN
  go_enter Try.func10, Try.ntmps10
  go_wp2_with fail
  refine HL.out.mono ?_
  rintro e w1 ⟨v, hi, rfl, hN1⟩
  have HB := Lib.hid hN1.choose_spec.1.2.1
  obtain ⟨A, c, rfl, g1, g2, g3⟩ := hN1.rdA
  rw [HLN.out] at g1 ⊢
  unfold maxLen at g2
  have G3 := Lib.hid g3
  clear hN1 g3 HL
  go_wp2_with fail
  go_loopw [4, 5] (fun o i wr => ∃ (k S : Nat), k ≤ N ∧ o = .int .i64 (S : Int) ∧ i = .int .i64 (k : Int) ∧ Hid (S = wt k) ∧ Hid (Below w1.heap.size w1 wr)) (fun _ i _ => N - (intOf i).toNat)
  case atStart => exact ⟨0, 0, Nat.zero_le _, rfl, rfl, HW0.out.symm, Below.refl _ _⟩
  case round =>
    obtain ⟨k, S, hk, rfl, rfl, HS, HBR⟩ := hrel
    have hS : S ≤ 6553600 := by have := HWL.out k hk; rw [← HS.out] at this; omega
    by_cases hlt : k < N
    · have ht : decide ((k : Int) < (N : Int)) = true := by simp only [decide_eq_true_eq]; omega
      obtain ⟨ad, ⟨A1, n1, c1⟩, rfl, hbl, hc, hr⟩ := G3.out k _ (getD_some (by rw [HLN.out]; exact hlt))
      obtain ⟨q, hq, hcq⟩ := HCM.out k hlt
      have HWK := Lib.hid (HWS.out k)
      rw [hcq, Int.toNat_natCast] at HWK
      have HR := Lib.hid hr
      have HC : Hid (cmTo (L.getD k []) (L.getD k []).length = (q : Int)) := hcq
      obtain ⟨hpw, hpw2⟩ := pow_val q hq
      have hp16 : 2 ^ q ≤ 2 ^ 16 := Nat.pow_le_pow_right (by omega) hq
      have hk0 : (0 : Int) ≤ (k : Int) := by omega
      have hk1 : (k : Int) < (N : Int) := by omega
      clear hr hcq
      generalize L.getD k [] = m at *
      generalize 2 ^ q = p at *
      have hc : wr.cell? (ad.add k) = some (.slice A1 n1 c1) := (HBR.out.cell (by rw [addBlock]; exact hbl)).trans hc
      have HR : Hid (RdII wr w1.heap.size (.slice A1 n1 c1) m) := HR.out.below HBR.out
      have hw1 : IntKind.i64.wrap ((S : Int) + (p : Int)) = ((S + p : Nat) : Int) := by rw [IntWalk.i64_in _ (by omega)]; simp
      have HS2 : Hid (S + p = wt (k + 1)) := by unfold Hid; rw [HWK.out, HS.out]
      go_wp2_with fail
      refine (specCountMinus_any _ m _ _ HR.out).mono ?_
      rintro e w2 ⟨rfl, hb2⟩
      rw [HC.out]
      have HB2 : Hid (Below w1.heap.size w1 w2) := HBR.out.trans (hb2.mono HBR.out.size)
      clear hb2
      go_wp2_with fail
      go_roundw
      case rel => exact ⟨k + 1, S + p, by omega, by first | go_num | (rw [hpw]; go_num), by go_num, HS2, HB2⟩
      case measure => simp [intOf]; omega
    · obtain rfl : k = N := by omega
      have ht : decide ((k : Int) < (k : Int)) = false := by simp
      go_wp2_with fail
      go_ret
      exact ⟨ret_int (by rw [HS.out]), HB.out.trans (HBR.out.mono HB.out.size)⟩
end Go.Proofs.Ytehnbalbpfmijaa

namespace Go.Proofs.Ytehnbalbpfmijaa
open Go.RowKit
set_option linter.unusedVariables false

set_option maxRecDepth 100000 in
theorem wc_n (n : Nat) (h1 : 1 ≤ n) (h2 : n ≤ 4) : okLB (altN n) = true ∧ okLB (altSN n) = true ∧ wcZ (altN n) = wcZ (altSN n) := by
  have : n = 1 ∨ n = 2 ∨ n = 3 ∨ n = 4 := by omega
  rcases this with rfl | rfl | rfl | rfl <;> exact ⟨by decide +kernel, by decide +kernel, by decide +kernel⟩
theorem wc_all (a : Int) : okLB (altZ a) = true ∧ okLB (altSZ a) = true ∧ wcZ (altZ a) = wcZ (altSZ a) := by
  unfold altZ altSZ
  cases hg : inB a 1 4
  · simp [okLB, wcZ, wcTo]
  · have hb := (inB_iff _ _ _).1 hg
    simpa using wc_n a.toNat (by omega) (by omega)
end Go.Proofs.Ytehnbalbpfmijaa

namespace Go.Proofs.Ytehnbalbpfmijaa
open Go.RowKit

set_option maxRecDepth 100000 in
set_option maxHeartbeats 8000000 in
theorem walkWeightedCount (a0 : Int) (_ : (Lit.int .i64 a0).wf = true) (w : World) :
    Calls Try.prog 3 #[.int .i64 a0] w fun e w' => e = .returned (.bool true) ∧ Below w.heap.size w w' := by
  have hne_ : (wcZ (altZ a0) != wcZ (altZ a0)) = false := by simp
  go_enter Try.func3, Try.ntmps3
  go_wp2_with fail
  refine ((wc_all a0).2.2 ▸ specWeightedCount_any a0 _ (wc_all a0).2.1).mono ?_
  rintro e w1 ⟨rfl, hb1⟩
  have hq1 := hb1
  have hs1 := hq1.size
  have hz1 := hb1.size
  go_wp2_with fail
  refine (WeightedCount_any a0 _ (wc_all a0).1).mono ?_
  rintro e w2 ⟨rfl, hb2⟩
  have hq2 := hq1.trans (hb2.mono hs1)
  have hs2 := hq2.size
  have hz2 := hb2.size
  go_wp2_with fail
  go_ret
  exact ⟨rfl, hq2⟩
end Go.Proofs.Ytehnbalbpfmijaa
