/- Contracts of the helpers of CountFaultless: RectangleCount, areFew, parts; l18Size, l18Parts. -/
import Derived.Test.YtiecphhenpapoaaFltL
import Derived.Test.YtiecphhenpapoaaCount
import Derived.Test.YtiecphhenpapoaaProfS
import Derived.StillTailTactics
import Derived.Test.YtiecphhenpapoaaQuiet
namespace Go.Proofs.Ytiecphhenpapoaa
open Go.RowKit
set_option linter.unusedVariables false

theorem RectangleCount_yes (a b : Nat) (ha : 1 ≤ a ∧ a ≤ 8) (hb : 1 ≤ b ∧ b ≤ 8) (w : World) :
    Calls Try.prog 87 #[.int .i64 (a : Int), .int .i64 (b : Int)] w fun e w' => e = .returned (.int .i64 (rcZ a b)) ∧ Below w.heap.size w w' := by
  have t1 : inB (a : Int) 1 8 = true := inB_true (by omega) (by omega)
  have t2 : inB (b : Int) 1 8 = true := inB_true (by omega) (by omega)
  have HOK := Lib.hid (rectZ_ok a b ha.2 hb.2)
  obtain ⟨res, HRES⟩ : ∃ r, Hid (rcZ a b = r) := ⟨_, rfl⟩
  have HE : Hid (tilZ (rectZ a b) = res) := by unfold Hid; rw [← HRES.out]; simp [tilZ, HOK.out, rcZ]
  rw [HRES.out]
  have HT := Lib.hid (Rectangle_yes a b ha hb)
  generalize rectZ a b = zs at *
  clear HRES
  go_enter Try.func87, Try.ntmps87
  go_wp2_with (go_at_call 78; refine (within_any _ _ _ _).mono ?_; rintro e w' ⟨rfl, rfl⟩; first | rw [t1] | rw [t2])
  refine (HT.out w).mono ?_
  rintro e w1 ⟨u, rfl, hr1, hb1⟩
  have HC := Lib.hid (CountTilings_any u zs w1.heap.size w1 hr1 (Nat.le_refl _))
  rw [HE.out] at HC
  have HB1 := Lib.hid hb1
  clear hr1 hb1
  go_wp2_with fail
  refine HC.out.mono ?_
  rintro e w2 ⟨rfl, hb2⟩
  go_wp2_with fail
  go_ret
  exact ⟨rfl, HB1.out.trans (hb2.mono HB1.out.size)⟩

theorem areFew_any (a b : Int) (w : World) : Calls Try.prog 68 #[.int .i64 a, .int .i64 b] w fun e w' => e = .returned (.bool (fewB a b)) ∧ w = w' := by
  cases h1 : inB a 1 6
  · have HF : Hid (false = fewB a b) := by unfold Hid; simp [fewB, h1]
    go_enter Try.func68, Try.ntmps68
    go_wp2_with (go_at_call 78; refine (within_any _ _ _ _).mono ?_; rintro e w' ⟨rfl, rfl⟩; rw [h1])
    go_ret
    exact ⟨ret_bool HF.out, rfl⟩
  · cases h2 : inB b 1 6
    · have HF : Hid (false = fewB a b) := by unfold Hid; simp [fewB, h1, h2]
      go_enter Try.func68, Try.ntmps68
      go_wp2_with (go_at_call 78; refine (within_any _ _ _ _).mono ?_; rintro e w' ⟨rfl, rfl⟩; first | rw [h1] | rw [h2])
      go_ret
      exact ⟨ret_bool HF.out, rfl⟩
    · have ha := (inB_iff _ _ _).1 h1
      have hb := (inB_iff _ _ _).1 h2
      have HF : Hid (decide (a * b ≤ 30) = fewB a b) := by unfold Hid; simp [fewB, h1, h2]
      obtain ⟨n, rfl⟩ := Int.eq_ofNat_of_zero_le (show 0 ≤ a by omega)
      obtain ⟨m, rfl⟩ := Int.eq_ofNat_of_zero_le (show 0 ≤ b by omega)
      have hmul : (n : Int) * (m : Int) = ((n * m : Nat) : Int) := by simp
      have h36 : n * m ≤ 36 := Nat.mul_le_mul (show n ≤ 6 by omega) (show m ≤ 6 by omega)
      have hm0 : 0 ≤ (n : Int) * (m : Int) := by omega
      have hm1 : (n : Int) * (m : Int) ≤ 36 := by omega
      clear hmul h36
      go_enter Try.func68, Try.ntmps68
      go_wp2_with (go_at_call 78; refine (within_any _ _ _ _).mono ?_; rintro e w' ⟨rfl, rfl⟩; first | rw [h1] | rw [h2])
      go_ret
      exact ⟨ret_bool HF.out, rfl⟩
theorem l18Size_any (a b : Int) (w : World) : Calls Try.prog 66 #[.int .i64 a, .int .i64 b] w fun e w' => e = .returned (.bool (fewB a b)) ∧ w = w' := by
  cases h1 : inB a 1 6
  · have HF : Hid (false = fewB a b) := by unfold Hid; simp [fewB, h1]
    go_enter Try.func66, Try.ntmps66
    go_wp2_with (go_at_call 73; refine (l01In_any _ _ _ _).mono ?_; rintro e w' ⟨rfl, rfl⟩; rw [h1])
    go_ret
    exact ⟨ret_bool HF.out, rfl⟩
  · cases h2 : inB b 1 6
    · have HF : Hid (false = fewB a b) := by unfold Hid; simp [fewB, h1, h2]
      go_enter Try.func66, Try.ntmps66
      go_wp2_with (go_at_call 73; refine (l01In_any _ _ _ _).mono ?_; rintro e w' ⟨rfl, rfl⟩; first | rw [h1] | rw [h2])
      go_ret
      exact ⟨ret_bool HF.out, rfl⟩
    · have ha := (inB_iff _ _ _).1 h1
      have hb := (inB_iff _ _ _).1 h2
      have HF : Hid (decide (a * b ≤ 30) = fewB a b) := by unfold Hid; simp [fewB, h1, h2]
      obtain ⟨n, rfl⟩ := Int.eq_ofNat_of_zero_le (show 0 ≤ a by omega)
      obtain ⟨m, rfl⟩ := Int.eq_ofNat_of_zero_le (show 0 ≤ b by omega)
      have hmul : (n : Int) * (m : Int) = ((n * m : Nat) : Int) := by simp
      have h36 : n * m ≤ 36 := Nat.mul_le_mul (show n ≤ 6 by omega) (show m ≤ 6 by omega)
      have hm0 : 0 ≤ (n : Int) * (m : Int) := by omega
      have hm1 : (n : Int) * (m : Int) ≤ 36 := by omega
      clear hmul h36
      go_enter Try.func66, Try.ntmps66
      go_wp2_with (go_at_call 73; refine (l01In_any _ _ _ _).mono ?_; rintro e w' ⟨rfl, rfl⟩; first | rw [h1] | rw [h2])
      go_ret
      exact ⟨ret_bool HF.out, rfl⟩
end Go.Proofs.Ytiecphhenpapoaa

namespace Go.Proofs.Ytiecphhenpapoaa
open Go.RowKit
set_option linter.unusedVariables false

def castI (l : List Nat) : List Int := l.map fun (x : Nat) => (x : Int)
theorem castI_len (l : List Nat) : (castI l).length = l.length := by simp [castI]
theorem castI_el (l : List Nat) (k : Nat) (h : k < l.length) : el (castI l) k = ((l[k] : Nat) : Int) := by simp [castI, el, h]
theorem castI_app (l : List Nat) (x : Nat) : castI (l ++ [x]) = castI l ++ [(x : Int)] := by simp [castI]
theorem sbit_tab : ((List.range 32).all fun s => (List.range 6).all fun k => (bits .and .i64 ((s : Int) / 2 ^ k) 1 == 1) == s.testBit k) = true := by decide +kernel
theorem sbit (s k : Nat) (hs : s < 32) (hk : k < 6) : (bits .and .i64 ((s : Int) / 2 ^ k) 1 == 1) = s.testBit k := by
  have h := sbit_tab
  rw [List.all_eq_true] at h
  have h := h s (by simpa using hs)
  rw [List.all_eq_true] at h
  have h := h k (by simpa using hk)
  simpa using h
def RetParts (w : World) (l : List Nat) (n : Int) (e : Ending) (w' : World) : Prop := ∃ v, e = .returned (.tuple #[v, .int .i64 n]) ∧ RdI w' w'.heap.size v (castI l) ∧ Below w.heap.size w w'
def RetPartsS (w : World) (l : List Nat) (e : Ending) (w' : World) : Prop := ∃ v, e = .returned v ∧ RdI w' w'.heap.size v (castI l) ∧ Below w.heap.size w w'

/-- The parts and the last line ahead of place k. -/
def pgZ (len s k : Nat) : List Nat := if k ≤ len then (ptTo s (k - 1)).1 else ptZ len s
def plZ (len s k : Nat) : Nat := if k ≤ len then (ptTo s (k - 1)).2 else len
theorem pg_yes (len s k : Nat) (h1 : 1 ≤ k) (hk : k ≤ len) (h : k = len ∨ s.testBit (k - 1) = true) : pgZ len s (k + 1) = pgZ len s k ++ [k - plZ len s k] ∧ plZ len s (k + 1) = k := by
  unfold pgZ plZ
  rw [if_pos hk, if_pos hk]
  by_cases e : k = len
  · subst e
    rw [if_neg (by omega), if_neg (by omega)]
    exact ⟨rfl, rfl⟩
  · have hb : s.testBit (k - 1) = true := by rcases h with h | h; exact absurd h e; exact h
    rw [if_pos (by omega), if_pos (by omega)]
    obtain ⟨j, rfl⟩ : ∃ j, k = j + 1 := ⟨k - 1, by omega⟩
    simp only [Nat.add_sub_cancel] at hb ⊢
    rw [ptTo, if_pos hb]
    exact ⟨rfl, rfl⟩
theorem pg_no (len s k : Nat) (h1 : 1 ≤ k) (hk : k < len) (h : s.testBit (k - 1) = false) : pgZ len s (k + 1) = pgZ len s k ∧ plZ len s (k + 1) = plZ len s k := by
  unfold pgZ plZ
  rw [if_pos (by omega), if_pos (by omega), if_pos (by omega), if_pos (by omega)]
  obtain ⟨j, rfl⟩ : ∃ j, k = j + 1 := ⟨k - 1, by omega⟩
  simp only [Nat.add_sub_cancel] at h ⊢
  rw [ptTo, if_neg (by rw [h]; simp)]
  exact ⟨rfl, rfl⟩
theorem pl_le (len s k : Nat) (h1 : 1 ≤ k) (hk : k ≤ len) : plZ len s k ≤ k ∧ (pgZ len s k).length ≤ k := by
  unfold plZ pgZ
  rw [if_pos hk, if_pos hk]
  have := ptTo_le s (k - 1)
  omega
set_option maxHeartbeats 4000000 in
theorem parts_any (len s : Nat) (h1 : 1 ≤ len) (h6 : len ≤ 6) (hs : s < 32) (w : World) :
    Calls Try.prog 86 #[.int .i64 (len : Int), .int .i64 (s : Int)] w (RetParts w (ptZ len s) (((ptZ len s).length : Int) - 1)) := by
  have hp1 : pgZ len s 1 = [] := by unfold pgZ; rw [if_pos h1]; rfl
  have hp2 : plZ len s 1 = 0 := by unfold plZ; rw [if_pos h1]; rfl
  have hp3 : pgZ len s (len + 1) = ptZ len s := by unfold pgZ; rw [if_neg (by omega)]
  have hp4 := (pt_at h1 h6 hs).2.2.1
  have hp5 := (pt_at h1 h6 hs).2.2.2
  obtain ⟨pz, HPZ⟩ : ∃ l, Hid (ptZ len s = l) := ⟨_, rfl⟩
  rw [HPZ.out] at hp3 hp4 hp5 ⊢
  have HYES := Lib.hid (pg_yes len s)
  have HNO := Lib.hid (pg_no len s)
  have HLE := Lib.hid (pl_le len s)
  generalize pgZ len s = pg at *
  generalize plZ len s = pl at *
  have HA0 : Hid (Acc elInt w w.heap.size (w.alloc (.cells #[] 3)) (.slice (some ⟨w.heap.size, 0, none⟩) 0 0) (castI (pg 1))) := by rw [hp1]; exact Acc.start w
  have HP1 := Lib.hid hp1; have HP2 := Lib.hid hp2; have HP3 := Lib.hid hp3; have HP4 := Lib.hid hp4; have HP5 := Lib.hid hp5
  clear hp1 hp2 hp3 hp4 hp5 HPZ
  go_enter Try.func86, Try.ntmps86
  go_wp2_with fail
  go_loopw [6, 7, 8, 9] (fun o la n s wr => ∃ (k : Nat) (v : Value) (l c : Nat), 1 ≤ k ∧ k ≤ len + 1 ∧ s = .int .i64 k ∧ v = o ∧ la = .int .i64 l ∧ n = .int .i64 c ∧ Hid (l = pl k) ∧ Hid (c = (pg k).length) ∧ Hid (Acc elInt w w.heap.size wr v (castI (pg k)))) (fun _ _ _ s _ => len + 1 - (intOf s).toNat)
  case atStart => exact ⟨1, _, 0, 0, Nat.le_refl _, by omega, rfl, rfl, rfl, rfl, HP2.out.symm, (by rw [HP1.out]; rfl), HA0⟩
  case round =>
    obtain ⟨k, v, l, c, hk1, hk2, rfl, rfl, rfl, rfl, HL, HC, HA⟩ := hrel
    by_cases hle : k ≤ len
    · have ht : decide ((k : Int) ≤ (len : Int)) = true := by simp only [decide_eq_true_eq]; omega
      have hlb := HLE.out k hk1 hle
      rw [← HL.out, ← HC.out] at hlb
      obtain ⟨hlb1, hlb2⟩ := hlb
      have hkz : ((k : Int) - 1).toNat = k - 1 := by omega
      by_cases hyes : k = len ∨ s.testBit (k - 1) = true
      · obtain ⟨y1, y2⟩ := HYES.out k hk1 hle hyes
        have HY1 : Hid (castI (pg (k + 1)) = castI (pg k) ++ [(k : Int) - (l : Int)]) := by
          unfold Hid
          rw [y1, castI_app, ← HL.out]
          congr 2
          omega
        have HY2 : Hid (k = pl (k + 1)) := y2.symm
        have HY3 : Hid (c + 1 = (pg (k + 1)).length) := by unfold Hid; rw [y1, List.length_append, HC.out]; rfl
        have HCL : Hid ((castI (pg k)).length = c) := by unfold Hid; rw [castI_len, HC.out]
        clear y1 y2
        by_cases e : k = len
        · have te : ((k : Int) == (len : Int)) = true := by simp [e]
          clear hyes e
          go_wp2_with (at_builtin; refine wpList_push okInt rfl _ _ rfl HA.out rfl ((k : Int) - (l : Int)) _ rfl _ rfl (by simp) (by have := HCL.out; omega) ?_; intro v2 w2 HA2 HG2)
          go_roundw
          case rel => exact ⟨k + 1, _, k, c + 1, by omega, by omega, by go_num, rfl, rfl, by go_num, HY2, HY3, by (rw [HY1.out]; exact HA2)⟩
          case measure => simp [intOf]; omega
        · have te : ((k : Int) == (len : Int)) = false := by rw [beq_eq_false_iff_ne]; omega
          have hb : s.testBit (k - 1) = true := by rcases hyes with h | h; exact absurd h e; exact h
          have hsb := sbit s (k - 1) hs (by omega)
          rw [hb] at hsb
          clear hyes hb
          go_wp2_with (at_builtin; refine wpList_push okInt rfl _ _ rfl HA.out rfl ((k : Int) - (l : Int)) _ rfl _ rfl (by simp) (by have := HCL.out; omega) ?_; intro v2 w2 HA2 HG2)
          go_roundw
          case rel => exact ⟨k + 1, _, k, c + 1, by omega, by omega, by go_num, rfl, rfl, by go_num, HY2, HY3, by (rw [HY1.out]; exact HA2)⟩
          case measure => simp [intOf]; omega
      · have e : k ≠ len := fun e => hyes (.inl e)
        have hb : s.testBit (k - 1) = false := by cases h : s.testBit (k - 1); rfl; exact absurd (.inr h) hyes
        obtain ⟨y1, y2⟩ := HNO.out k hk1 (by omega) hb
        have te : ((k : Int) == (len : Int)) = false := by rw [beq_eq_false_iff_ne]; omega
        have hsb := sbit s (k - 1) hs (by omega)
        rw [hb] at hsb
        rw [← y1] at HA HC
        rw [← y2] at HL
        clear hyes hb y1 y2
        go_wp2_with fail
        go_roundw
        case rel => exact ⟨k + 1, _, l, c, by omega, by omega, by go_num, rfl, rfl, rfl, HL, HC, HA⟩
        case measure => simp [intOf]; omega
    · have ht : decide ((k : Int) ≤ (len : Int)) = false := by simp only [decide_eq_false_iff_not]; omega
      have hke : k = len + 1 := by omega
      have HF : Hid (pg k = pz) := by rw [hke]; exact HP3.out
      rw [HF.out] at HC HA
      have hc1 : 1 ≤ c := by have := HC.out; have := HP5.out; omega
      have hc6 : c ≤ 6 := by have := HC.out; have := HP4.out; omega
      have HC2 : Hid ((c : Int) - 1 = (pz.length : Int) - 1) := by unfold Hid; rw [HC.out]
      clear hke
      go_wp2_with fail
      go_ret2
      exact ⟨_, congrArg (fun z : Int => Ending.returned (.tuple #[v, .int .i64 z])) HC2.out, (ownF_int.1 HA.out.1).rd, HA.out.2.1⟩

end Go.Proofs.Ytiecphhenpapoaa

namespace Go.Proofs.Ytiecphhenpapoaa
open Go.RowKit
set_option linter.unusedVariables false

/-- A slice of lengths, read. -/
theorem RdI.nat {w : World} {B : Nat} {v : Value} {l : List Nat} (h : RdI w B v (castI l)) : ∃ A c, v = .slice A l.length c ∧ l.length ≤ c ∧ c ≤ maxLen ∧ ∀ k, (hk : k < l.length) → ∃ ad, A = some ad ∧ ad.block < B ∧ w.cell? (ad.add k) = some (.int .i64 ((l[k] : Nat) : Int)) := by
  obtain ⟨A, c, e, h1, h2, h3⟩ := h
  rw [castI_len] at e h1
  refine ⟨A, c, e, h1, h2, fun k hk => ?_⟩
  obtain ⟨ad, e1, e2, e3⟩ := h3.int (k := k) (by rw [castI_len]; exact hk)
  refine ⟨ad, e1, e2, ?_⟩
  rw [e3]; simp [castI]
theorem pow_wrap (n : Nat) (h : n ≤ 5) : wrap64 ((2 : Int) ^ n) = ((2 ^ n : Nat) : Int) ∧ 2 ^ n ≤ 32 := by
  have h1 : (2 ^ n : Nat) ≤ 2 ^ 5 := Nat.pow_le_pow_right (by omega) h
  have e : ((2 : Int) ^ n) = ((2 ^ n : Nat) : Int) := by simp
  rw [e]
  generalize (2 ^ n : Nat) = p at *
  simp at h1
  refine ⟨?_, h1⟩
  unfold wrap64; omega
theorem par_odd (l r : Nat) (h : (l + r) % 2 = 1) : (((l : Int) - 1 + ((r : Int) - 1)) % 2 == 1) = true := by rw [beq_iff_eq]; omega
theorem par_even (l r : Nat) (h : ¬ (l + r) % 2 = 1) : (((l : Int) - 1 + ((r : Int) - 1)) % 2 == 1) = false := by rw [beq_eq_false_iff_ne]; omega

set_option maxRecDepth 100000 in
set_option maxHeartbeats 8000000 in
theorem CountFaultless_yes (a b : Nat) (ha : 1 ≤ a ∧ a ≤ 6) (hb : 1 ≤ b ∧ b ≤ 6) (hab : a * b ≤ 30) (w : World) (hf : fewB a b = true) :
    Calls Try.prog 24 #[.int .i64 (a : Int), .int .i64 (b : Int)] w fun e w' => e = .returned (.int .i64 (outS a b (2 ^ (a - 1)))) ∧ Below w.heap.size w w' := by
  obtain ⟨hPA1, hPA2⟩ := pow_wrap (a - 1) (by omega)
  obtain ⟨hPB1, hPB2⟩ := pow_wrap (b - 1) (by omega)
  obtain ⟨PA, HPA⟩ : ∃ p : Nat, Hid ((2 : Nat) ^ (a - 1) = p) := ⟨_, rfl⟩
  obtain ⟨PB, HPB⟩ : ∃ p : Nat, Hid ((2 : Nat) ^ (b - 1) = p) := ⟨_, rfl⟩
  obtain ⟨os, HOS⟩ : ∃ f : Nat → Int, Hid (f = outS a b) := ⟨_, rfl⟩
  have HO0 : Hid (os 0 = 0) := by rw [HOS.out]; rfl
  have HOSS : Hid (∀ s, os (s + 1) = inT a b s (os s) PB) := by rw [HOS.out, ← HPB.out]; exact fun s => rfl
  rw [HPA.out] at hPA1 hPA2 ⊢
  rw [HPB.out] at hPB1 hPB2
  rw [← HOS.out]
  clear HOS
  have HWA := Lib.hid hPA1; have HWB := Lib.hid hPB1
  clear hPA1 hPB1
  have haz : ((a : Int) - 1).toNat = a - 1 := by omega
  have hbz : ((b : Int) - 1).toNat = b - 1 := by omega
  go_enter Try.func24, Try.ntmps24
  go_wp2_with fail
  refine (areFew_any _ _ _).mono ?_
  rintro e w1 ⟨rfl, rfl⟩
  rw [hf]
  go_wp2_with fail
  rw [HWA.out]
  go_loopw [5, 24] (fun o s wr => ∃ (k : Nat), k ≤ PA ∧ s = .int .i64 k ∧ o = .int .i64 (os k) ∧ Hid (Below w.heap.size w wr)) (fun _ s _ => PA - (intOf s).toNat)
  case atStart => exact ⟨0, Nat.zero_le _, rfl, by rw [HO0.out], Below.refl _ _⟩
  case round =>
    obtain ⟨s, hs, rfl, rfl, HB⟩ := hrel
    by_cases hlt : s < PA
    · have ht : decide ((s : Int) < (PA : Int)) = true := by simp only [decide_eq_true_eq]; omega
      have HSS := Lib.hid (HOSS.out s)
      generalize os s = o0 at *
      go_wp2_with fail
      rw [HWB.out]
      obtain ⟨it, HIT⟩ : ∃ f : Nat → Int, Hid (f = inT a b s o0) := ⟨_, rfl⟩
      have HI0 : Hid (it 0 = o0) := by rw [HIT.out]; rfl
      have HIS : Hid (∀ t, it (t + 1) = wrap64 (it t + termZ a b s t)) := by rw [HIT.out]; exact fun t => rfl
      rw [← HIT.out] at HSS
      clear HIT
      obtain ⟨wo, HWO⟩ : ∃ wo, Hid (wo = wr) := ⟨_, rfl⟩
      have HB0 : Hid (Below w.heap.size w wo) := by rw [HWO.out]; exact HB.out
      rw [← HWO.out]
      clear HB HWO
      go_loopw [5, 30] (fun o s wr => ∃ (k : Nat), k ≤ PB ∧ s = .int .i64 k ∧ o = .int .i64 (it k) ∧ Hid (Below w.heap.size w wr)) (fun _ s _ => PB - (intOf s).toNat)
      case atStart => exact ⟨0, Nat.zero_le _, rfl, by rw [HI0.out], HB0⟩
      case round =>
        obtain ⟨t, hts, rfl, rfl, HB⟩ := hrel
        by_cases hltt : t < PB
        · have htt : decide ((t : Int) < (PB : Int)) = true := by simp only [decide_eq_true_eq]; omega
          have HIS1 := Lib.hid (HIS.out t)
          generalize it t = o1 at *
          obtain ⟨c1, c2, c3, c4⟩ := pt_at ha.1 ha.2 (show s < 32 by omega)
          obtain ⟨d1, d2, d3, d4⟩ := pt_at hb.1 hb.2 (show t < 32 by omega)
          obtain ⟨p1, p2, p3⟩ := prod_bd ha hb hab (show s < 32 by omega) (show t < 32 by omega)
          have HTM : Hid (termZ a b s t = if ((ptZ a s).length + (ptZ b t).length) % 2 = 1 then -prodZ a b s t else prodZ a b s t) := rfl
          have HC := Lib.hid (parts_any a s ha.1 ha.2 (by omega))
          have HD := Lib.hid (parts_any b t hb.1 hb.2 (by omega))
          generalize prodZ a b s t = q at *
          generalize termZ a b s t = tm at *
          generalize ptZ a s = cols at *
          generalize ptZ b t = rows at *
          have HC2 := Lib.hid c2; have HD2 := Lib.hid d2; have HP1 := Lib.hid p1
          clear c1 c2 d1 d2 p1
          go_wp2_with fail
          refine (HC.out _).mono ?_
          rintro e w2 ⟨v2, rfl, hr2, hb2⟩
          have HB2 := Lib.hid (HB.out.trans (hb2.mono HB.out.size))
          have HR2 := Lib.hid hr2
          clear hb2 hr2
          go_wp2_with fail
          refine (HD.out _).mono ?_
          rintro e w3 ⟨v3, rfl, hr3, hb3⟩
          have HB3 := Lib.hid (HB2.out.trans (hb3.mono HB2.out.size))
          have HR3 := Lib.hid hr3
          have HR2' := Lib.hid (HR2.out.below hb3)
          have HSZ : Hid (w2.heap.size ≤ w3.heap.size) := hb3.size
          obtain ⟨A2, x2, rfl, y21, y22, G2⟩ := HR2'.out.nat
          obtain ⟨A3, x3, rfl, y31, y32, G3⟩ := HR3.out.nat
          unfold maxLen at y22 y32
          have HG2 := Lib.hid G2; have HG3 := Lib.hid G3
          clear hb3 hr3 G2 G3 HR2 HB2
          go_wp2_with fail
          go_loopw [12, 47] (fun n i wr => ∃ (k : Nat), k ≤ cols.length ∧ i = .int .i64 k ∧ n = .int .i64 (colF mulI (cols.take k) rows 1) ∧ Hid (Below w3.heap.size w3 wr)) (fun _ i _ => cols.length - (intOf i).toNat)
          case atStart => exact ⟨0, Nat.zero_le _, rfl, rfl, Below.refl _ _⟩
          case round =>
            obtain ⟨i, hi, rfl, rfl, HBI⟩ := hrel
            by_cases hli : i < cols.length
            · have hti : decide ((i : Int) < (cols.length : Int)) = true := by simp only [decide_eq_true_eq]; omega
              obtain ⟨ad, rfl, had, hc⟩ := HG2.out i hli
              have hc' := (HBI.out.cell (p := ad.add i) (by rw [addBlock]; have := HSZ.out; omega)).trans hc
              have hi0 : (0 : Int) ≤ (i : Int) := by omega
              have hi1 : (i : Int) < (cols.length : Int) := by omega
              have HTK := Lib.hid (colF_take mulI cols rows 1 i hli)
              have hcb := HC2.out _ (List.getElem_mem hli)
              generalize colF mulI (cols.take i) rows 1 = n0 at *
              generalize cols[i] = c at *
              obtain ⟨wi, HWI⟩ : ∃ wo, Hid (wo = wr) := ⟨_, rfl⟩
              have HBI0 : Hid (Below w3.heap.size w3 wi) := by rw [HWI.out]; exact HBI.out
              clear hc
              go_wp2_with fail
              rw [← HWI.out]
              clear HBI HWI hc'
              go_loopw [12, 53] (fun n i wr => ∃ (k : Nat), k ≤ rows.length ∧ i = .int .i64 k ∧ n = .int .i64 (rowF mulI c (rows.take k) n0) ∧ Hid (Below w3.heap.size w3 wr)) (fun _ i _ => rows.length - (intOf i).toNat)
              case atStart => exact ⟨0, Nat.zero_le _, rfl, rfl, HBI0⟩
              case round =>
                obtain ⟨j, hj, rfl, rfl, HBJ⟩ := hrel
                by_cases hlj : j < rows.length
                · have htj : decide ((j : Int) < (rows.length : Int)) = true := by simp only [decide_eq_true_eq]; omega
                  obtain ⟨ad3, rfl, had3, hc3⟩ := HG3.out j hlj
                  have hc3' := (HBJ.out.cell (p := ad3.add j) (by rw [addBlock]; exact had3)).trans hc3
                  have hj0 : (0 : Int) ≤ (j : Int) := by omega
                  have hj1 : (j : Int) < (rows.length : Int) := by omega
                  have HTJ := Lib.hid (rowF_take mulI c rows n0 j hlj)
                  have hrb := HD2.out _ (List.getElem_mem hlj)
                  generalize rowF mulI c (rows.take j) n0 = n1 at *
                  generalize rows[j] = r at *
                  clear hc3
                  by_cases hn : 0 < n1
                  · have HRC := Lib.hid (RectangleCount_yes c r (by omega) (by omega))
                    have HM : Hid (mulI n1 (rcZ c r) = wrap64 (n1 * rcZ c r)) := by unfold Hid mulI; rw [if_pos hn]
                    generalize rcZ c r = rc at *
                    have htn : decide (0 < n1) = true := by simp [hn]
                    clear hn
                    go_wp2_with fail
                    refine (HRC.out _).mono ?_
                    rintro e w6 ⟨rfl, hb6⟩
                    have HB6 := Lib.hid (HBJ.out.trans (hb6.mono HBJ.out.size))
                    clear hb6
                    go_wp2_with fail
                    go_roundw
                    case rel => exact ⟨j + 1, by omega, by go_num, by rw [HTJ.out, HM.out], HB6⟩
                    case measure => simp [intOf]; omega
                  · have HM : Hid (mulI n1 (rcZ c r) = n1) := by unfold Hid mulI; rw [if_neg hn]
                    have htn : decide (0 < n1) = false := by simp; omega
                    clear hn
                    go_wp2_with fail
                    go_roundw
                    case rel => exact ⟨j + 1, by omega, by go_num, by rw [HTJ.out, HM.out], HBJ⟩
                    case measure => simp [intOf]; omega
                · have htj : decide ((j : Int) < (rows.length : Int)) = false := by simp only [decide_eq_false_iff_not]; omega
                  have HF : Hid (rowF mulI c (rows.take j) n0 = colF mulI (cols.take (i + 1)) rows 1) := by unfold Hid; rw [HTK.out, List.take_of_length_le (by omega)]
                  rw [HF.out]
                  go_wp2_with fail
                  go_roundw
                  case rel => exact ⟨i + 1, by omega, by go_num, rfl, HBJ⟩
                  case measure => simp [intOf]; omega
            · have hti : decide ((i : Int) < (cols.length : Int)) = false := by simp only [decide_eq_false_iff_not]; omega
              have HF : Hid (colF mulI (cols.take i) rows 1 = q) := by unfold Hid; rw [List.take_of_length_le (by omega)]; exact HP1.out
              rw [HF.out]
              have HBE := Lib.hid (HB3.out.trans (HBI.out.mono HB3.out.size))
              clear hi
              by_cases hodd : (cols.length + rows.length) % 2 = 1
              · have hp := par_odd _ _ hodd
                have HTE : Hid (it (t + 1) = wrap64 (o1 + -q)) := by unfold Hid; rw [HIS1.out, HTM.out, if_pos hodd]
                clear hodd
                go_wp2_with fail
                go_roundw
                case rel => exact ⟨t + 1, by omega, by go_num, by rw [HTE.out], HBE⟩
                case measure => simp [intOf]; omega
              · have hp := par_even _ _ hodd
                have HTE : Hid (it (t + 1) = wrap64 (o1 + q)) := by unfold Hid; rw [HIS1.out, HTM.out, if_neg hodd]
                clear hodd
                go_wp2_with fail
                go_roundw
                case rel => exact ⟨t + 1, by omega, by go_num, by rw [HTE.out], HBE⟩
                case measure => simp [intOf]; omega
        · have htt : decide ((t : Int) < (PB : Int)) = false := by simp only [decide_eq_false_iff_not]; omega
          have HF : Hid (it t = os (s + 1)) := by unfold Hid; rw [HSS.out, show t = PB by omega]
          rw [HF.out]
          go_wp2_with fail
          go_roundw
          case rel => exact ⟨s + 1, by omega, by go_num, rfl, HB⟩
          case measure => simp [intOf]; omega
    · have ht : decide ((s : Int) < (PA : Int)) = false := by simp only [decide_eq_false_iff_not]; omega
      have HF : Hid (os s = os PA) := by unfold Hid; rw [show s = PA by omega]
      go_wp2_with fail
      go_ret
      exact ⟨ret_int HF.out, HB.out⟩
end Go.Proofs.Ytiecphhenpapoaa

namespace Go.Proofs.Ytiecphhenpapoaa
open Go.RowKit
set_option linter.unusedVariables false

theorem mem_sum : ∀ (l : List Nat) (x : Nat), x ∈ l → x ≤ l.sum
  | y :: l, x, h => by
    rw [List.sum_cons]
    rcases List.mem_cons.1 h with rfl | h
    · omega
    · have := mem_sum l x h; omega
/-- The table. -/
def TRow (w : World) (g : Nat) (T : List Int) : Prop := w.heap[g]? = some (.cells (rwC T) 3 (0, 0)) ∧ T.length = 49
theorem TRow.cell {w : World} {g : Nat} {T : List Int} (h : TRow w g T) {k : Nat} (hk : k < 49) : w.cell? ⟨g, k, none⟩ = some (.int .i64 (el T k)) := by rw [blk_cell h.1]; exact rwC_get _ _ (by rw [h.2]; exact hk)
theorem TRow.free {w : World} {g : Nat} {T : List Int} (h : TRow w g T) (k : Nat) : w.frozen? ⟨g, k, none⟩ = false := blk_free h.1
theorem TRow.set {w : World} {g : Nat} {T : List Int} (h : TRow w g T) (k : Nat) (z : Int) : TRow (w.setCell ⟨g, k, none⟩ (.int .i64 z)) g (T.set k z) := ⟨by rw [blk_setCell h.1, rwC_set], by simpa using h.2⟩
theorem TRow.below {w w' : World} {g : Nat} {T : List Int} (h : TRow w g T) (hb : Below w.heap.size w w') : TRow w' g T := ⟨blk_below h.1 hb, h.2⟩
def Filled (a b x0 y0 : Nat) (T : List Int) : Prop := ∀ x y, 1 ≤ x → x ≤ a → 1 ≤ y → y ≤ b → (x < x0 ∨ (x = x0 ∧ y < y0)) → el T (x * 7 + y) = rcZ x y
theorem Filled.step {a b x0 y0 : Nat} {T : List Int} (h : Filled a b x0 y0 T) (hl : T.length = 49) (ha : a ≤ 6) (hb : b ≤ 6) (hx : x0 ≤ 6) (hy : y0 ≤ 6) : Filled a b x0 (y0 + 1) (T.set (x0 * 7 + y0) (rcZ x0 y0)) := by
  intro x y h1 h2 h3 h4 h5
  rw [el_set']
  by_cases e : x * 7 + y = x0 * 7 + y0
  · have e1 : x = x0 := by omega
    have e2 : y = y0 := by omega
    subst e1 e2
    rw [if_pos ⟨rfl, by omega⟩]
  · rw [if_neg (fun h9 => e h9.1)]
    exact h x y h1 h2 h3 h4 (by omega)
theorem Filled.row {a b x0 : Nat} {T : List Int} (h : Filled a b x0 (b + 1) T) : Filled a b (x0 + 1) 1 T := fun x y h1 h2 h3 h4 h5 => h x y h1 h2 h3 h4 (by omega)
def zer49 : List Int := List.replicate 49 0
theorem made49 : madeCells #[.int .i64 0] 49 = rwC zer49 := by kernel_rfl
theorem zer49_len : zer49.length = 49 := List.length_replicate

end Go.Proofs.Ytiecphhenpapoaa

namespace Go.Proofs.Ytiecphhenpapoaa
open Go.RowKit
set_option linter.unusedVariables false

theorem CountFaultless_any (a b : Int) (w : World) :
    Calls Try.prog 24 #[.int .i64 a, .int .i64 b] w fun e w' => e = .returned (.int .i64 (fltlZ a b)) ∧ Below w.heap.size w w' := by
  cases hf : fewB a b
  · have e0 : fltlZ a b = -1 := by simp [fltlZ, hf]
    rw [e0]; clear e0
    go_enter Try.func24, Try.ntmps24
    go_wp2_with fail
    refine (areFew_any _ _ _).mono ?_
    rintro e w1 ⟨rfl, rfl⟩
    rw [hf]
    go_wp2_with fail
    go_ret
    exact ⟨rfl, Below.refl _ _⟩
  · have h := hf
    unfold fewB at h
    simp only [Bool.and_eq_true, inB_iff, decide_eq_true_eq] at h
    obtain ⟨n, rfl⟩ := Int.eq_ofNat_of_zero_le (show 0 ≤ a by omega)
    obtain ⟨m, rfl⟩ := Int.eq_ofNat_of_zero_le (show 0 ≤ b by omega)
    have hmul : (n : Int) * (m : Int) = ((n * m : Nat) : Int) := by simp
    have e0 : fltlZ n m = outS n m (2 ^ (n - 1)) := by simp [fltlZ, hf]
    rw [e0]
    exact CountFaultless_yes n m (by omega) (by omega) (by omega) w hf
end Go.Proofs.Ytiecphhenpapoaa
