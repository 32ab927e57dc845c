/- The closure of the program's ListHeaps. -/
import Derived.Test.YtgehollikdbapaaLHeaps
import Derived.Test.YtgehollikdbapaaCopyRows
import Derived.Test.YtgehollikdbapaaFull
import Derived.Deep.RegionHeld3
import Derived.Deep.RegionLaw
import Derived.StillTailTactics
namespace Go.Proofs.Ytgehollikdbapaa
open Go.RowKit
set_option linter.unusedVariables false

def HPost (w0 : World) (L : HLay) (a b : Nat) (c : Int) (d : Nat) (hd : List Int) (os : List (List (List Int))) (e : Ending) (w' : World) : Prop :=
  e = .returned (.tuple #[]) ∧ ∃ M', HSt w0 L a b c w' M' (os ++ (heapsN b c d hd).map (rowsOf a b)) ∧ HPre b M' hd
/-- One call of the closure. -/
def RestAt (w0 : World) (L : HLay) (a b : Nat) (c : Int) (d : Nat) (hd : List Int) : Prop := ∀ (wr : World) (M : List (List Int)) (os : List (List (List Int))), HSt w0 L a b c wr M os → HPre b M hd → os.length + 4 ^ d ≤ 262144 →
  Calls Try.prog 69 #[.int .i64 (hd.length : Int), .pointer (some ⟨L.pa, 0, none⟩), .pointer (some ⟨L.pb, 0, none⟩), .pointer (some ⟨L.po, 0, none⟩), .pointer (some ⟨L.pm, 0, none⟩), .pointer (some ⟨L.pc, 0, none⟩), .pointer (some ⟨L.ps, 0, none⟩)] wr
    (HPost w0 L a b c d hd os)

theorem pre_all {a b : Nat} {M : List (List Int)} {hd : List Int} (hs : RShape a b M) (hb : 0 < b) (hl : hd.length = a * b) (h : HPre b M hd) : M = rowsOf a b hd :=
  rect_ext hs (rowsOf_shape a b hd hl) fun i k hi hk => by
    rw [rowsOf_el a b hd i k hi hk]
    have h1 : (i + 1) * b ≤ a * b := Nat.mul_le_mul_right _ hi
    rw [Nat.succ_mul] at h1
    have := h (i * b + k) (by omega)
    rw [show i * b + k = k + b * i by rw [Nat.mul_comm]; omega, Nat.add_mul_div_left _ _ hb, Nat.add_mul_mod_self_left, Nat.div_eq_of_lt hk, Nat.mod_eq_of_lt hk, Nat.zero_add] at this
    rw [this, Nat.mul_comm i b, Nat.add_comm]

set_option maxRecDepth 100000 in
set_option maxHeartbeats 4000000 in
theorem rest_end (w0 : World) (L : HLay) (hL : L.Ok w0.heap.size) (a b : Nat) (c : Int) (ha : 1 ≤ a ∧ a ≤ 3) (hb : 1 ≤ b ∧ b ≤ 3) (hd : List Int) (hl : hd.length = a * b) : RestAt w0 L a b c 0 hd := by
  intro wr M os hS hP hO
  have hM := pre_all hS.2.2.1 (by omega) hl hP
  have HS := Lib.hid hS
  have HP := Lib.hid hP
  obtain ⟨h1, h2, h3, v, hi, h4⟩ := hS
  obtain ⟨A, cv, hv, r1, r2⟩ := h4.rel.len okRows
  subst hv
  unfold maxLen at r2
  have hl9 : hd.length ≤ 9 := by rw [hl]; exact Nat.mul_le_mul ha.2 hb.2
  have hmul : (a : Int) * (b : Int) = (hd.length : Int) := by rw [hl]; simp
  have ca : wr.cell? ⟨L.pa, 0, none⟩ = some (.int .i64 a) := cell_of_one h1.ea
  have cb : wr.cell? ⟨L.pb, 0, none⟩ = some (.int .i64 b) := cell_of_one h1.eb
  have cm : wr.cell? ⟨L.pm, 0, none⟩ = some (.slice (some ⟨L.g, 0, none⟩) a L.cap) := cell_of_one h1.em
  have co : wr.cell? ⟨L.po, 0, none⟩ = some (.slice A os.length cv) := cell_of_one h4.cell
  have hbd : Below wr.heap.size wr wr.drew := (Below.refl _ _).drew
  have HRD := Lib.hid ((h2.below hbd).rdII okRow)
  have HH1 := Lib.hid (HS.out.below hbd).1; have HH2 := Lib.hid (h2.below hbd); have HH4 := Lib.hid (h4.below hbd)
  have HML : Hid (M.length = a) := h3.1
  have HMR : Hid (∀ i, i < a → (rw' M i).length = b) := h3.2
  have L1 := Lib.hid (lt_of_block h4.cell)
  have HMM := Lib.hid hM
  have HHI := Lib.hid h4.rel.choose_spec.2.2
  have HF : Hid (os ++ (heapsN b c 0 hd).map (rowsOf a b) = os ++ [M]) := by unfold Hid; rw [hM]; rfl
  clear h1 h2 h3 h4 hM hbd
  generalize hd.length = k at *
  have hm0 : 0 ≤ (a : Int) * (b : Int) := by omega
  have hm1 : (a : Int) * (b : Int) ≤ 9 := by omega
  have hm2 : ((k : Int) == (a : Int) * (b : Int)) = true := by rw [hmul]; simp
  clear hmul
  go_enter Try.func69, Try.ntmps69
  go_wp2_with fail
  go_region_law (first
    | (go_simp; go_at_call 70; refine (copyRows_any _ M wr.heap.size wr.drew HRD.out (Nat.le_refl _) (by have := HML.out; omega) (fun i hi => by have := HMR.out i (by have := HML.out; omega); omega)).mono ?_; rintro e w1 ⟨v1, hi1, rfl, ho1, hx1, hb1⟩; obtain ⟨A1, c1, hv1, q1, q2, _⟩ := ho1.rd.open_; have HM1 := Lib.hid ho1; rw [hv1] at HM1; rw [hv1]; clear ho1 hv1; unfold maxLen at q2; have co1 := (hb1.cell (p := ⟨L.po, 0, none⟩) (show L.po < wr.heap.size from L1.out)).trans co; have HH5 := Lib.hid (HH4.out.below hb1); have HH6 := Lib.hid ((HS.out.below (Below.refl _ _).drew).below hb1); obtain ⟨ss, hA, hE, hhi⟩ := HH5.out.rel; have HA1 := Lib.hid hA; have HE1 := Lib.hid hE; have hsl := hE.1; clear hA hE; have HB1 := Lib.hid hb1; have co2 : (w1.alloc (.cells #[.slice A1 M.length c1] 24)).cell? ⟨L.po, 0, none⟩ = some (.slice A os.length cv) := ((Below.refl w1.heap.size w1).alloc (Nat.le_refl _) _).cell (p := ⟨L.po, 0, none⟩) (show L.po < w1.heap.size from Nat.lt_of_lt_of_le L1.out hb1.size) |>.trans co1; clear hb1)
    | (refine step_push okRows (by rfl) _ _ (by rfl) HA1.out (by rfl) (A1, M.length, c1) _ (by rfl) w1.heap.size (by rfl) (by rfl) (by omega) ?_; intro v' w2 HA2 HG2; obtain ⟨A2, c2, hv2, _⟩ := HA2.out.1.rd okRows; rw [show (ss ++ [(A1, M.length, c1)]).length = os.length + 1 by simp [hsl]] at hv2; rw [hv2] at HA2 HG2; rw [hv2]; clear hv2; have hk2 := (HG2.out.1.block L.po (Nat.lt_of_lt_of_le L1.out HB1.out.size) (fun e => by have := HH5.out.at_ L.po e.symm; have := hL.om; have := hL.po; have := hL.po2; have := hL.lh; have := hL.hs; have := hL.sl; omega)).trans HH5.out.cell; have ck2 := cell_of_one hk2; have fk2 := free_of_one hk2; clear hk2))
  all_goals
    go_wp2_with fail
    go_end0
    refine ⟨rfl, M, ?_, HP.out⟩
    rw [HF.out]
    exact HSt.push (p := wr.heap.size) (s := (A1, M.length, c1)) hL HH6.out.1 HH6.out.2.1 HH6.out.2.2.1 HE1.out HHI.out HH4.out.hi (HM1.out.more hx1) HB1.out.size HH4.out.at_ (fun g hg => by have := HH5.out.rel; exact (HH4.out.rel.choose_spec.1.lt g hg).2) ⟨_, HH5.out.cell⟩ HA2 HG2

/-- The world may draw. -/
theorem HSt.drewN {w0 wr : World} {L : HLay} {a b : Nat} {c : Int} {M : List (List Int)} {os : List (List (List Int))} (h : HSt w0 L a b c wr M os) (n : Nat) : HSt w0 L a b c (wr.drewN n) M os := h.below (Drawn.below ⟨n, rfl⟩ _)
theorem HSt.func {w0 wr : World} {L : HLay} {a b : Nat} {c : Int} {M : List (List Int)} {os : List (List (List Int))} (h : HSt w0 L a b c wr M os) : wr.cell? ⟨L.ps, 0, none⟩ = some (hclos L) := cell_of_one h.1.es
theorem HPre.at {b : Nat} {M : List (List Int)} {hd : List Int} (h : HPre b M hd) {y x j : Nat} (hj : j < hd.length) (h1 : j / b = y) (h2 : j % b = x) : el (rw' M y) x = el hd j := by subst h1 h2; exact h j hj
/-- One number more. -/
theorem HPre.push {a b : Nat} {M : List (List Int)} {hd : List Int} (hs : RShape a b M) (h : HPre b M hd) {y x : Nat} (hy : y < a) (hx : x < b) (hk : hd.length = y * b + x) (z : Int) : HPre b (M.set y ((rw' M y).set x z)) (hd ++ [z]) := by
  intro j hj
  simp only [List.length_append, List.length_singleton] at hj
  have hym : y < M.length := by rw [hs.1]; exact hy
  rw [rw_set M y _ _ hym]
  have hb : 0 < b := by omega
  have hd1 : (y * b + x) / b = y := by rw [Nat.mul_comm, Nat.mul_add_div hb, Nat.div_eq_of_lt hx, Nat.add_zero]
  have hd2 : (y * b + x) % b = x := by rw [Nat.mul_comm, Nat.mul_add_mod, Nat.mod_eq_of_lt hx]
  by_cases e : j < hd.length
  · rw [el_app_left _ _ _ e, ← h j e]
    by_cases e1 : j / b = y
    · rw [if_pos e1, e1]
      have e2 : j % b ≠ x := fun e2 => by
        have := Nat.div_add_mod j b
        rw [e1, e2, Nat.mul_comm] at this; omega
      simp [el, List.getElem?_set_ne (Ne.symm e2)]
    · rw [if_neg e1]
  · obtain rfl : j = hd.length := by omega
    rw [el_app_last, hk, hd1, if_pos rfl, hd2]
    have : x < (rw' M y).length := by rw [hs.2 y hy]; exact hx
    simp [el, this]
theorem HPre.drop {b : Nat} {M : List (List Int)} {hd : List Int} {z : Int} (h : HPre b M (hd ++ [z])) : HPre b M hd := fun j hj => by
  rw [h j (by simp; omega), el_app_left _ _ _ hj]

/-- Where the next number comes. -/
def Place (a b k y x : Nat) : Prop := y < a ∧ x < b ∧ k = y * b + x
theorem place_of {a b k : Nat} (hb : 0 < b) (h : k < a * b) : Place a b k (k / b) (k % b) :=
  ⟨by rw [Nat.div_lt_iff_lt_mul hb]; exact h, Nat.mod_lt _ hb, by have := Nat.div_add_mod k b; rw [Nat.mul_comm] at this; exact this.symm⟩

set_option maxRecDepth 100000 in
set_option maxHeartbeats 4000000 in
theorem rest_step (w0 : World) (L : HLay) (hL : L.Ok w0.heap.size) (a b : Nat) (c : Int) (ha : 1 ≤ a ∧ a ≤ 3) (hb : 1 ≤ b ∧ b ≤ 3) (hc : 1 ≤ c ∧ c ≤ 3) (d : Nat) (hd : List Int) (hl : hd.length + (d + 1) = a * b) (hin : InC c hd)
    (IH : ∀ x : Int, 0 ≤ x → x ≤ c → RestAt w0 L a b c d (hd ++ [x])) : RestAt w0 L a b c (d + 1) hd := by
  intro wr M os hS hP hO
  have HS := Lib.hid hS
  have HP := Lib.hid hP
  obtain ⟨h1, h2, h3, v, hi, h4⟩ := hS
  have ca : wr.cell? ⟨L.pa, 0, none⟩ = some (.int .i64 a) := cell_of_one h1.ea
  have cb : wr.cell? ⟨L.pb, 0, none⟩ = some (.int .i64 b) := cell_of_one h1.eb
  have cc : wr.cell? ⟨L.pc, 0, none⟩ = some (.int .i64 c) := cell_of_one h1.ec
  have hmul : (a : Int) * (b : Int) = ((a * b : Nat) : Int) := by simp
  have hab : a * b ≤ 9 := Nat.mul_le_mul ha.2 hb.2
  clear h1 h2 h3 h4 hP
  obtain ⟨k, HK⟩ : ∃ k : Nat, Hid (hd.length = k) := ⟨_, rfl⟩
  rw [HK.out] at hl
  have hm0 : 0 ≤ (a : Int) * (b : Int) := by omega
  have hm1 : (a : Int) * (b : Int) ≤ 9 := by omega
  have hm2 : ((k : Int) == (a : Int) * (b : Int)) = false := by rw [hmul, beq_eq_false_iff_ne]; omega
  have hk9 : k ≤ 9 := by omega
  have hpl := place_of (k := k) (show 0 < b by omega) (show k < a * b by omega)
  have HY : Hid (wrap64 ((k : Int) / (b : Int)) = ((k / b : Nat) : Int)) := by
    unfold Hid
    have h1 : k / b ≤ k := Nat.div_le_self _ _
    rw [← Int.natCast_ediv]
    generalize k / b = q at *
    exact IntWalk.wrap64_in _ (by omega)
  have HX : Hid ((k : Int) % (b : Int) = ((k % b : Nat) : Int)) := by unfold Hid; simp
  have HMZ : Hid (mostZ b c hd = (if b ≤ k then min (if 0 < k % b then min c (el hd (k - 1)) else c) (el hd (k - b)) else (if 0 < k % b then min c (el hd (k - 1)) else c))) := by unfold Hid mostZ; rw [HK.out]
  obtain ⟨m, hmz⟩ := Int.eq_ofNat_of_zero_le (mostZ_bd hin (show 0 < b by omega) (by omega)).1
  have hm3 := (mostZ_bd hin (show 0 < b by omega) (show 0 ≤ c by omega)).2
  rw [hmz] at hm3 HMZ
  have HNS := Lib.hid (heapsN_succ b c d hd m hmz)
  have HIN := Lib.hid hin
  have HIH := Lib.hid IH
  clear hmul hin IH hmz
  rw [HK.out]
  go_enter Try.func69, Try.ntmps69
  go_wp2_with fail
  have HSd : ∀ nq, Hid (HSt w0 L a b c (wr.drewN nq) M os) := fun nq => HS.out.drewN nq
  go_quiet (fail)
  have HS1 := HSd nq
  have cc1 : (wr.drewN nq).cell? ⟨L.pc, 0, none⟩ = some (.int .i64 c) := cc
  generalize wr.drewN nq = w1 at *
  rw [HY.out, HX.out]
  generalize k / b = y at *
  generalize k % b = x at *
  obtain ⟨hy, hx, hkk⟩ := hpl
  clear HSd HS hm0 hm1 hm2 ca cb cc HY HX
  have hxz : ((x : Int) - 1).toNat = x - 1 := by omega
  have hyz : ((y : Int) - 1).toNat = y - 1 := by omega
  have hxk : x ≤ k := by rw [hkk]; exact Nat.le_add_left _ _
  have HDV : Hid (1 ≤ y → (k - b) / b = y - 1 ∧ (k - b) % b = x) := by
    intro h1
    obtain ⟨y', rfl⟩ : ∃ y', y = y' + 1 := ⟨y - 1, by omega⟩
    have : k - b = b * y' + x := by rw [hkk, Nat.succ_mul, Nat.mul_comm]; omega
    rw [this, Nat.mul_add_div (by omega), Nat.div_eq_of_lt hx, Nat.mul_add_mod, Nat.mod_eq_of_lt hx]
    omega
  have HDW : Hid (1 ≤ x → (k - 1) / b = y ∧ (k - 1) % b = x - 1) := by
    intro h1
    have : k - 1 = b * y + (x - 1) := by rw [hkk, Nat.mul_comm]; omega
    rw [this, Nat.mul_add_div (by omega), Nat.div_eq_of_lt (by omega), Nat.mul_add_mod, Nat.mod_eq_of_lt (by omega)]
    omega
  have HBK : Hid (b ≤ k ↔ 0 < y) := by
    unfold Hid
    rw [hkk]
    constructor
    · intro h
      rcases Nat.eq_zero_or_pos y with e | e
      · subst e; omega
      · exact e
    · intro h; have := Nat.le_mul_of_pos_left b h; omega
  have HKK := Lib.hid hkk
  clear hkk
  rcases Nat.eq_zero_or_pos x with hx0 | hx0 <;> rcases Nat.eq_zero_or_pos y with hy0 | hy0
  case' inl.inl =>
    have t1 : decide (0 < x) = false := by simp; omega
    have t2 : decide (0 < y) = false := by simp; omega
    have HM : Hid (c = (m : Int)) := by unfold Hid; have := HMZ.out; rw [if_neg (show ¬ b ≤ k by rw [HBK.out]; omega), if_neg (show ¬ 0 < x by omega)] at this; exact this.symm
    clear hx0 hy0
    go_wp2_with fail
  case' inl.inr =>
    have t1 : decide (0 < x) = false := by simp; omega
    have t2 : decide (0 < y) = true := by simp; omega
    obtain ⟨gi, ci, q1, q2, q3, q4, m1, m2, m3, _, _⟩ := HS1.out.num hL (y := y - 1) (x := x) (by omega) hx
    rw [HP.out.at (j := k - b) (by have := HBK.out.2 hy0; rw [HK.out]; omega) (HDV.out (by omega)).1 (HDV.out (by omega)).2] at m3
    have HM : Hid (min c (el hd (k - b)) = (m : Int)) := by unfold Hid; have := HMZ.out; rw [if_pos (HBK.out.2 hy0), if_neg (show ¬ 0 < x by omega)] at this; exact this.symm
    unfold maxLen at q2 q4
    have e2 : 0 ≤ (y : Int) - 1 := by omega
    have e4 : (y : Int) - 1 < (a : Int) := by omega
    have e5 : IntKind.i64.wrap ((y : Int) - 1) = (y : Int) - 1 := IntWalk.i64_in _ (by omega)
    have e6 : (x : Int) < (b : Int) := by omega
    clear hx0 hy0
    go_wp2_with fail
  case' inr.inl =>
    have t1 : decide (0 < x) = true := by simp; omega
    have t2 : decide (0 < y) = false := by simp; omega
    obtain ⟨gi, ci, q1, q2, q3, q4, m1, m2, m3, _, _⟩ := HS1.out.num hL (y := y) (x := x - 1) hy (by omega)
    rw [HP.out.at (j := k - 1) (by rw [HK.out]; omega) (HDW.out (by omega)).1 (HDW.out (by omega)).2] at m3
    have HM : Hid (min c (el hd (k - 1)) = (m : Int)) := by unfold Hid; have := HMZ.out; rw [if_neg (show ¬ b ≤ k by rw [HBK.out]; omega), if_pos hx0] at this; exact this.symm
    unfold maxLen at q2 q4
    have e2 : 0 ≤ (x : Int) - 1 := by omega
    have e4 : (x : Int) - 1 < (b : Int) := by omega
    have e5 : IntKind.i64.wrap ((x : Int) - 1) = (x : Int) - 1 := IntWalk.i64_in _ (by omega)
    have e6 : (y : Int) < (a : Int) := by omega
    clear hx0 hy0
    go_wp2_with fail
  case' inr.inr =>
    have t1 : decide (0 < x) = true := by simp; omega
    have t2 : decide (0 < y) = true := by simp; omega
    obtain ⟨gi, ci, q1, q2, q3, q4, m1, m2, m3, _, _⟩ := HS1.out.num hL (y := y) (x := x - 1) hy (by omega)
    obtain ⟨gi', ci', _, _, q3', q4', _, m2', m3', _, _⟩ := HS1.out.num hL (y := y - 1) (x := x) (by omega) hx
    rw [HP.out.at (j := k - 1) (by rw [HK.out]; omega) (HDW.out (by omega)).1 (HDW.out (by omega)).2] at m3
    rw [HP.out.at (j := k - b) (by have := HBK.out.2 hy0; rw [HK.out]; omega) (HDV.out (by omega)).1 (HDV.out (by omega)).2] at m3'
    have HM : Hid (min (min c (el hd (k - 1))) (el hd (k - b)) = (m : Int)) := by unfold Hid; have := HMZ.out; rw [if_pos (HBK.out.2 hy0), if_pos hx0] at this; exact this.symm
    unfold maxLen at q2 q4 q4'
    have e2 : 0 ≤ (x : Int) - 1 := by omega
    have e4 : (x : Int) - 1 < (b : Int) := by omega
    have e5 : IntKind.i64.wrap ((x : Int) - 1) = (x : Int) - 1 := IntWalk.i64_in _ (by omega)
    have e6 : (y : Int) < (a : Int) := by omega
    have e2' : 0 ≤ (y : Int) - 1 := by omega
    have e4' : (y : Int) - 1 < (a : Int) := by omega
    have e5' : IntKind.i64.wrap ((y : Int) - 1) = (y : Int) - 1 := IntWalk.i64_in _ (by omega)
    have e6' : (x : Int) < (b : Int) := by omega
    clear hx0 hy0
    go_wp2_with fail
  all_goals
    first
      | (have HT : Hid (∀ n : Nat, decide ((n : Int) ≤ el hd (k - b)) = decide (n ≤ m)) := fun n => by have hm' := HM.out; rw [decide_eq_decide]; omega)
      | (have HT : Hid (∀ n : Nat, decide ((n : Int) ≤ el hd (k - 1)) = decide (n ≤ m)) := fun n => by have hm' := HM.out; rw [decide_eq_decide]; omega)
      | (have HT : Hid (∀ n : Nat, decide ((n : Int) ≤ c) = decide (n ≤ m)) := fun n => by have hm' := HM.out; rw [decide_eq_decide]; omega)
    go_loopw [11] (fun i wr2 => ∃ (n : Nat) (M2 : List (List Int)), n ≤ m + 1 ∧ i = .int .i64 n ∧ Hid (HSt w0 L a b c wr2 M2 (os ++ (heapsTo b c d hd n).map (rowsOf a b))) ∧ Hid (HPre b M2 hd)) (fun i _ => m + 1 - (intOf i).toNat)
    case atStart => exact ⟨0, M, Nat.zero_le _, rfl, by (unfold Hid; simpa [heapsTo_zero] using HS1.out), HP⟩
    case round =>
      obtain ⟨n, M2, hn, rfl, HS2, HP2⟩ := hrel
      have ht := HT.out n
      by_cases hle : n ≤ m
      · rw [decide_eq_true hle] at ht
        obtain ⟨gj, cj, p1, p2, p3, p4, n1, n2, n3, n4, HN⟩ := HS2.out.num hL hy hx
        have HS3 := Lib.hid (HN.out (n : Int))
        have HP3 := Lib.hid (HPre.push HS2.out.2.2.1 HP2.out hy hx (HK.out.trans HKK.out) (n : Int))
        have hfn := HS3.out.func
        have HLE : Hid ((os ++ (heapsTo b c d hd n).map (rowsOf a b)).length + 4 ^ d ≤ 262144) := by
          unfold Hid
          have := heapsTo_len (b := b) (c := c) (by omega) (by omega) (by omega) d hd n
          have hn3 : n ≤ 3 := by omega
          have h4 : n * 4 ^ d ≤ 3 * 4 ^ d := Nat.mul_le_mul_right _ hn3
          rw [Nat.pow_succ] at hO
          simp only [List.length_append, List.length_map]
          omega
        have hIH := HIH.out (n : Int) (by omega) (by omega) _ _ _ HS3.out HP3.out HLE.out
        rw [List.length_append, HK.out, show (([(n : Int)] : List Int)).length = 1 from rfl, show ((k + 1 : Nat) : Int) = (k : Int) + 1 by omega] at hIH
        have HI := Lib.hid hIH
        unfold maxLen at p2 p4
        unfold hclos at hfn
        have g1 : (y : Int) < (a : Int) := by omega
        have g2 : (x : Int) < (b : Int) := by omega
        clear hIH
        go_wp2_with fail
        refine HI.out.mono ?_
        rintro e w5 ⟨rfl, M4, hS4, hP4⟩
        have HS4 : Hid (HSt w0 L a b c w5 M4 (os ++ (heapsTo b c d hd (n + 1)).map (rowsOf a b))) := by unfold Hid; rw [heapsTo_succ, List.map_append, ← List.append_assoc]; exact hS4
        have HP4 := Lib.hid hP4.drop
        clear hS4 hP4 n1 n2 n3 n4 hfn
        go_wp2_with fail
        go_roundw
        case rel => exact ⟨n + 1, M4, by omega, by go_num, HS4, HP4⟩
        case measure => simp [intOf]; omega
      · rw [decide_eq_false hle] at ht
        go_wp2_with fail
        go_end0
        obtain rfl : n = m + 1 := by omega
        exact ⟨rfl, M2, by rw [HNS.out]; exact HS2.out, HP2.out⟩

/-- The closure, at every head. -/
theorem rest_any (w0 : World) (L : HLay) (hL : L.Ok w0.heap.size) (a b : Nat) (c : Int) (ha : 1 ≤ a ∧ a ≤ 3) (hb : 1 ≤ b ∧ b ≤ 3) (hc : 1 ≤ c ∧ c ≤ 3) : ∀ (d : Nat) (hd : List Int), hd.length + d = a * b → InC c hd → RestAt w0 L a b c d hd
  | 0, hd, hl, _ => rest_end w0 L hL a b c ha hb hd hl
  | d + 1, hd, hl, hin => rest_step w0 L hL a b c ha hb hc d hd hl hin fun x h0 h1 => rest_any w0 L hL a b c ha hb hc d (hd ++ [x]) (by simp; omega) (hin.push h0 h1)
end Go.Proofs.Ytgehollikdbapaa
