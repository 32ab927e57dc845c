/- The contract of the reference's ListHeaps. -/
import Derived.Test.YtfamjhemecpgnaaLHeaps3
import Derived.Test.YtfamjhemecpgnaaSrcRow
namespace Go.Proofs.Ytfamjhemecpgnaa
open Go.RowKit
set_option linter.unusedVariables false

abbrev eMM : El Sl := elSl 26 29
/-- One call of l21List. -/
def SRest (a b : Nat) (c : Int) (d : Nat) (hd : List Int) : Prop := ∀ (w : World) (B : Nat) (v : Value), RdI w B v hd → B ≤ w.heap.size →
  Calls Try.prog 114 #[.int .i64 a, .int .i64 b, .int .i64 c, v] w (RetN kdM eMM w ((heapsN b c d hd).map (rowsOf a b)))
/-- A part of a row. -/
theorem RdI.cut {w : World} {B : Nat} {A : Option Addr} {n c : Nat} {zs : List Int} (h : RdI w B (.slice A n c) zs) (i k : Nat) (hk : i ≤ k) (hkn : k ≤ zs.length) (hc : i ≠ c) (hA : ∃ ad, A = some ad) :
    ∃ ad, A = some ad ∧ Rd w B (some (ad.add i)) (((zs.drop i).take (k - i)).map (Value.int .i64)) := by
  obtain ⟨ad, rfl⟩ := hA
  obtain ⟨A', c', e, _, _, hr⟩ := h
  simp only [Value.slice.injEq] at e
  obtain ⟨rfl, _, _⟩ := e
  refine ⟨ad, rfl, fun hn => ?_⟩
  have hne : zs.map (Value.int .i64) ≠ [] := by
    intro e
    have : zs = [] := by simpa using e
    subst this; simp at hn
  obtain ⟨ad', e, hb, hcl⟩ := hr hne
  obtain rfl := Option.some.inj e
  refine ⟨_, rfl, by rw [addBlock]; exact hb, fun j u hu => ?_⟩
  rw [List.getElem?_map] at hu
  obtain ⟨z, hz, rfl⟩ := Option.map_eq_some_iff.1 hu
  have hj : j < k - i := by have := (List.getElem?_eq_some_iff.1 hz).1; simp at this; omega
  rw [List.getElem?_take, if_pos hj, List.getElem?_drop] at hz
  rw [addAdd]
  exact hcl (i + j) _ (by rw [List.getElem?_map, hz]; rfl)

set_option maxRecDepth 100000 in
set_option maxHeartbeats 4000000 in
theorem srest_end (a b : Nat) (c : Int) (ha : 1 ≤ a ∧ a ≤ 3) (hb : 1 ≤ b ∧ b ≤ 3) (hd : List Int) (hl : hd.length = a * b) : SRest a b c 0 hd := by
  intro w B v hr hB
  obtain ⟨A, cv, rfl, r1, r2, hrd⟩ := id hr
  unfold maxLen at r2
  have HR := Lib.hid hr
  have hne : hd ≠ [] := by intro e; subst e; simp at hl; have := Nat.mul_pos ha.1 hb.1; omega
  obtain ⟨ad, rfl, hbl, _⟩ := hrd (by simpa using hne)
  have hl9 : hd.length ≤ 9 := by rw [hl]; exact Nat.mul_le_mul ha.2 hb.2
  have hmul : (a : Int) * (b : Int) = (hd.length : Int) := by rw [hl]; simp
  have HL := Lib.hid hl
  have HF : Hid ((heapsN b c 0 hd).map (rowsOf a b) = [rowsOf a b hd]) := rfl
  clear hl hr hrd hne
  have HMS := Lib.hid (MRel.start w)
  generalize hk : hd.length = k at *
  go_enter Try.func114, Try.ntmps114
  have hm2 : ((k : Int) == (a : Int) * (b : Int)) = true := by rw [hmul]; simp
  have hm0 : 0 ≤ (a : Int) * (b : Int) := by omega
  have hm1 : (a : Int) * (b : Int) ≤ 9 := by omega
  go_wp2_with fail
  go_loopw [9, 10] (fun o s wr => ∃ (i hi : Nat) (u : Value) (zss : List (List Int)), i ≤ a ∧ s = .int .i64 i ∧ o = u ∧ Hid (MRel w wr hi u zss) ∧ Hid (zss = (rowsOf a b hd).take i) ∧ zss.length ≤ i) (fun _ s _ => a - (intOf s).toNat)
  case atStart => exact ⟨0, _, _, [], Nat.zero_le _, rfl, rfl, HMS, (by simp [Hid]), Nat.le_refl _⟩
  case round =>
    obtain ⟨i, hi, u, zss, hia, rfl, rfl, HM, HZ, hzl⟩ := hrel
    by_cases hlt : i < a
    · have ht : decide ((i : Int) < (a : Int)) = true := by simp only [decide_eq_true_eq]; omega
      have hib : (i + 1) * b ≤ a * b := Nat.mul_le_mul_right _ hlt
      have hpq : i * b + b = (i + 1) * b := (Nat.succ_mul i b).symm
      have e1 : (i : Int) * (b : Int) = ((i * b : Nat) : Int) := by simp
      have e2 : ((i : Int) + 1) * (b : Int) = (((i + 1) * b : Nat) : Int) := by simp
      have HRT : Hid ((rowsOf a b hd).take (i + 1) = (rowsOf a b hd).take i ++ [(hd.drop (i * b)).take b]) := by
        unfold Hid
        rw [List.take_succ_eq_append_getElem (by simp [rowsOf]; exact hlt)]
        congr 2
        simp [rowsOf]
      have HLK := HL.out
      rw [← HLK] at hib
      generalize i * b = p at *
      generalize (i + 1) * b = q at *
      have hpc : p ≠ cv := by omega
      have hb := HM.out.2.1
      have hal : Below w.heap.size w (wr.alloc (.cells #[] 3)) := hb.alloc hb.size _
      obtain ⟨ad2, had2, hcut⟩ := HR.out.cut (A := some ad) p q (by omega) (by omega) hpc ⟨ad, rfl⟩
      obtain rfl := Option.some.inj had2
      clear had2
      have HQ := Lib.hid (hcut.below (hal.mono hB))
      have HACC : Hid (Acc elInt w hi (wr.alloc (.cells #[] 3)) (.slice (some ⟨wr.heap.size, 0, none⟩) 0 0) []) := Acc.startAt hb HM.out.2.2.2 HM.out.2.2.1
      rw [show q - p = b by omega] at HQ
      obtain ⟨zs, HZS⟩ : ∃ zs, Hid ((hd.drop p).take b = zs) := ⟨_, rfl⟩
      rw [HZS.out] at HQ HRT
      have hzs : zs.length = b := by rw [← HZS.out]; simp; omega
      have HFL := Lib.hid (flat_int zs)
      have hi0 : (0 : Int) ≤ (i : Int) := by omega
      have hp0 : (p : Int) ≤ (q : Int) := by omega
      have hq0 : (q : Int) ≤ (cv : Int) := by omega
      have HZL := Lib.hid hzs
      have hqp : q - p = b := by omega
      have HQP := Lib.hid hqp
      clear hal hb hcut HLK hpq hqp hk hzs
      go_wp2_with (first
        | (at_builtin; refine wpList_pushSrc okInt rfl rfl _ _ rfl HACC.out rfl zs B (some (ad.add p)) (q - p) (cv - p) (by rw [HFL.out]; exact HQ.out) rfl (by have := HZL.out; have := HQP.out; omega) (by simp; have := HZL.out; omega) ?_; intro u1 w1 HA1 HG1; have HRR := Lib.hid (RowRel.ofSrc HM.out HA1.out HG1.out.1); clear HA1 HG1; obtain ⟨A4, c4, rfl, _, _, _⟩ := HRR.out.2.rd)
        | (at_builtin; refine wpList_pushRow rfl _ _ rfl HRR.out rfl _ rfl (by simp) (by omega) ?_; intro u2 w2 HM2 HB2))
      go_roundw
      case rel => exact ⟨i + 1, _, _, _, by omega, by go_num, rfl, HM2, (by unfold Hid; rw [HRT.out, ← HZ.out]), by simp; omega⟩
      case measure => simp [intOf]; omega
    · have HZ2 : Hid (zss = rowsOf a b hd) := by unfold Hid; rw [HZ.out, List.take_of_length_le (by simp [rowsOf]; omega)]
      rw [HZ2.out] at HM
      have hxl : (rowsOf a b hd).length = a := by simp [rowsOf]
      obtain ⟨A, cu, rfl, g1, g2, _⟩ := HM.out.1.rd.open_
      have HMN := Lib.hid HM.out
      rw [hxl] at HMN g1 ⊢
      have ht : decide ((i : Int) < (a : Int)) = false := by simp only [decide_eq_false_iff_not]; omega
      unfold maxLen at g2
      clear HM HZ HZ2
      go_wp2_with fail
      go_ret
      rw [HF.out]
      have hal : Below wr.heap.size wr (wr.alloc (.cells #[.slice A a cu] 26)) := (Below.refl _ _).alloc (Nat.le_refl _) _
      have hMN := HMN.out
      have hsz := hMN.2.1.size
      refine ⟨_, hi, rfl, [(A, a, cu)], ⟨?_, hMN.2.1.alloc hsz _, Nat.le_refl _, by simp; omega⟩, ⟨rfl, fun _ => w.heap.size, fun _ => hi, fun j s x hs hx => ?_, fun i j h1 h2 => by simp at h2; omega⟩, ?_⟩
      · exact World.ownsRow_lit (base := w.heap.size) (e := 26) (size := 1) wr #[.slice A a cu] 1 hsz (by simp [maxLen]) (by simp)
      · have hj : j = 0 := by have := (List.getElem?_eq_some_iff.1 hs).1; simp at this; exact this
        subst hj
        simp only [List.getElem?_cons_zero, Option.some.injEq] at hs hx
        subst hs hx
        refine ⟨Nat.le_refl _, Nat.le_refl _, hMN.1.below hal, fun g hg => .inr ?_⟩
        have hg' : wr.heap.size = g := by simpa [Value.ownBlock] using hg
        have := hMN.2.2.1
        show hi ≤ g
        omega
      · have := hMN.2.2.1; simp; omega

theorem flat_sl {e t : TypeId} (ss : List Sl) : ss.flatMap (elSl e t).f = ss.map slV := by
  induction ss with
  | nil => rfl
  | cons s ss ih => rw [List.flatMap_cons, ih]; rfl
/-- An owned slice of slices reads as its values. -/
theorem OwnF.rdSl {e t : TypeId} {w : World} {lo : Nat} {A : Option Addr} {n c : Nat} {ss : List Sl} (h : OwnF (elSl e t) w lo (.slice A n c) ss) : n = ss.length ∧ Rd w w.heap.size A (ss.flatMap (elSl e t).f) := by
  rcases h.2 with ⟨e1, h0⟩ | ⟨g, cap, cur, e1, hb, hgg, rest⟩
  · simp only [Value.slice.injEq] at e1
    obtain ⟨rfl, rfl, rfl⟩ := e1
    have hz : ss = [] := List.eq_nil_of_length_eq_zero h0
    subst hz
    exact ⟨rfl, fun hn => absurd rfl hn⟩
  · have hlt := World.ownsRow.lt h g (by rw [e1]; rfl)
    simp only [Value.slice.injEq] at e1
    obtain ⟨rfl, rfl, rfl⟩ := e1
    exact ⟨rfl, fun _ => ⟨_, rfl, hlt.2, fun j u hu => World.ownsRow.cells h rfl j u hu⟩⟩

set_option maxRecDepth 100000 in
set_option maxHeartbeats 4000000 in
theorem srest_step (a b : Nat) (c : Int) (ha : 1 ≤ a ∧ a ≤ 3) (hb : 1 ≤ b ∧ b ≤ 3) (hc : 1 ≤ c ∧ c ≤ 3) (d : Nat) (hd : List Int) (hl : hd.length + (d + 1) = a * b) (hin : InC c hd)
    (IH : ∀ x : Int, 0 ≤ x → x ≤ c → SRest a b c d (hd ++ [x])) : SRest a b c (d + 1) hd := by
  intro w B v hr hB
  obtain ⟨A, cv, rfl, r1, r2, hrd⟩ := id hr
  unfold maxLen at r2
  have HR := Lib.hid hr
  have HRD := Lib.hid hrd
  have hab : a * b ≤ 9 := Nat.mul_le_mul ha.2 hb.2
  obtain ⟨k, HK⟩ : ∃ k : Nat, Hid (hd.length = k) := ⟨_, rfl⟩
  rw [HK.out] at hl r1
  have hk9 : k ≤ 9 := by omega
  have HMZ : Hid (mostZ b c hd = (if b ≤ k then min (if 0 < k % b then min c (el hd (k - 1)) else c) (el hd (k - b)) else (if 0 < k % b then min c (el hd (k - 1)) else c))) := by unfold Hid mostZ; rw [HK.out]
  obtain ⟨m, hmz⟩ := Int.eq_ofNat_of_zero_le (mostZ_bd hin (show 0 < b by omega) (by omega)).1
  have hm3 := (mostZ_bd hin (show 0 < b by omega) (show 0 ≤ c by omega)).2
  rw [hmz] at hm3 HMZ
  have HNS := Lib.hid (heapsN_succ b c d hd m hmz)
  have HIN := Lib.hid hin
  have HIH := Lib.hid IH
  have hm2 : ((k : Int) == (a : Int) * (b : Int)) = false := by
    have : (a : Int) * (b : Int) = ((a * b : Nat) : Int) := by simp
    rw [this, beq_eq_false_iff_ne]; omega
  have hm0 : 0 ≤ (a : Int) * (b : Int) := by have : (a : Int) * (b : Int) = ((a * b : Nat) : Int) := by simp
                                             omega
  have hm1 : (a : Int) * (b : Int) ≤ 9 := by have : (a : Int) * (b : Int) = ((a * b : Nat) : Int) := by simp
                                             omega
  have HX : Hid ((k : Int) % (b : Int) = ((k % b : Nat) : Int)) := by unfold Hid; simp
  have hxb : k % b < b := Nat.mod_lt _ (by omega)
  have hC : ∀ j, j < k → ∃ ad, A = some ad ∧ ad.block < B ∧ w.cell? (ad.add j) = some (.int .i64 (el hd j)) := fun j hj => by
    obtain ⟨ad, e, hb, hc⟩ := hrd.int (k := j) (by rw [HK.out]; exact hj)
    exact ⟨ad, e, hb, by rw [hc, el_get _ _ (by rw [HK.out]; exact hj)]⟩
  have HC := Lib.hid hC
  clear hmz hin IH hr hrd hC
  have hkz : ((k : Int) - 1).toNat = k - 1 := by omega
  have hkb : ((k : Int) - (b : Int)).toNat = k - b := by omega
  rw [HK.out]
  generalize k % b = x at *
  obtain ⟨c0, HC0⟩ : ∃ y, Hid (y = c) := ⟨_, rfl⟩
  have hx := HX.out
  rcases Nat.eq_zero_or_pos x with hx0 | hx0 <;> rcases Nat.lt_or_ge k b with hy0 | hy0
  case' inl.inl =>
    have t1' : decide (0 < x) = false := by simp; omega
    have t2 : decide (b ≤ k) = false := by simp; omega
    have HM : Hid (c = (m : Int)) := by unfold Hid; have := HMZ.out; rw [if_neg (show ¬ b ≤ k by omega), if_neg (show ¬ 0 < x by omega)] at this; exact this.symm
    clear hx0 hy0
    go_enter Try.func114, Try.ntmps114
    go_wp2_with fail
  case' inl.inr =>
    have t1' : decide (0 < x) = false := by simp; omega
    have t2 : decide (b ≤ k) = true := by simp; omega
    obtain ⟨ad, rfl, hbl, m3⟩ := HC.out (k - b) (by omega)
    have HM : Hid (min c (el hd (k - b)) = (m : Int)) := by unfold Hid; have := HMZ.out; rw [if_pos hy0, if_neg (show ¬ 0 < x by omega)] at this; exact this.symm
    have e2 : 0 ≤ (k : Int) - (b : Int) := by omega
    have e4 : (k : Int) - (b : Int) < (k : Int) := by omega
    have e5 : IntKind.i64.wrap ((k : Int) - (b : Int)) = (k : Int) - (b : Int) := IntWalk.i64_in _ (by omega)
    clear hx0 hy0
    go_enter Try.func114, Try.ntmps114
    go_wp2_with fail
  case' inr.inl =>
    have t1' : decide (0 < x) = true := by simp; omega
    have t2 : decide (b ≤ k) = false := by simp; omega
    have hk1 : 1 ≤ k := by
      rcases Nat.eq_zero_or_pos k with e | e
      · subst e; simp at hx; omega
      · exact e
    obtain ⟨ad, rfl, hbl, m3⟩ := HC.out (k - 1) (by omega)
    have HM : Hid (min c (el hd (k - 1)) = (m : Int)) := by unfold Hid; have := HMZ.out; rw [if_neg (show ¬ b ≤ k by omega), if_pos hx0] at this; exact this.symm
    have e2 : 0 ≤ (k : Int) - 1 := by omega
    have e4 : (k : Int) - 1 < (k : Int) := by omega
    have e5 : IntKind.i64.wrap ((k : Int) - 1) = (k : Int) - 1 := IntWalk.i64_in _ (by omega)
    clear hx0 hy0
    go_enter Try.func114, Try.ntmps114
    go_wp2_with fail
  case' inr.inr =>
    have t1' : decide (0 < x) = true := by simp; omega
    have t2 : decide (b ≤ k) = true := by simp; omega
    obtain ⟨ad, hA, hbl, m3⟩ := HC.out (k - 1) (by omega)
    obtain ⟨ad', hA', hbl', m3'⟩ := HC.out (k - b) (by omega)
    subst hA
    obtain rfl := Option.some.inj hA'
    clear hA' hbl'
    have HM : Hid (min (min c (el hd (k - 1))) (el hd (k - b)) = (m : Int)) := by unfold Hid; have := HMZ.out; rw [if_pos hy0, if_pos hx0] at this; exact this.symm
    have e2 : 0 ≤ (k : Int) - 1 := by omega
    have e4 : (k : Int) - 1 < (k : Int) := by omega
    have e5 : IntKind.i64.wrap ((k : Int) - 1) = (k : Int) - 1 := IntWalk.i64_in _ (by omega)
    have e2' : 0 ≤ (k : Int) - (b : Int) := by omega
    have e4' : (k : Int) - (b : Int) < (k : Int) := by omega
    have e5' : IntKind.i64.wrap ((k : Int) - (b : Int)) = (k : Int) - (b : Int) := IntWalk.i64_in _ (by omega)
    clear hx0 hy0
    go_enter Try.func114, Try.ntmps114
    go_wp2_with fail
  all_goals
    first
      | (have HT : Hid (∀ n : Nat, decide ((n : Int) ≤ el hd (k - b)) = decide (n ≤ m)) := fun n => by have hm' := HM.out; rw [decide_eq_decide]; omega)
      | (have HT : Hid (∀ n : Nat, decide ((n : Int) ≤ el hd (k - 1)) = decide (n ≤ m)) := fun n => by have hm' := HM.out; rw [decide_eq_decide]; omega)
      | (have HT : Hid (∀ n : Nat, decide ((n : Int) ≤ c) = decide (n ≤ m)) := fun n => by have hm' := HM.out; rw [decide_eq_decide]; omega)
    have HS0 : Hid (NRel kdM eMM w w.heap.size w.heap.size (w.alloc (.cells #[] 26)) (w.heap.size + 1) (.slice (some ⟨w.heap.size, 0, none⟩) 0 0) []) := ⟨[], Acc.start w, Els.nil _ _ _ _, by simp⟩
    clear hx
    go_loopw [13, 14] (fun o i wr => ∃ (n : Nat) (v : Value) (hi : Nat), n ≤ m + 1 ∧ i = .int .i64 n ∧ v = o ∧ Hid (NRel kdM eMM w w.heap.size w.heap.size wr hi v ((heapsTo b c d hd n).map (rowsOf a b)))) (fun _ i _ => m + 1 - (intOf i).toNat)
    case atStart => exact ⟨0, _, _, Nat.zero_le _, rfl, rfl, HS0⟩
    case round =>
      obtain ⟨n, v, hi, hn, rfl, rfl, HN⟩ := hrel
      have ht := HT.out n
      by_cases hle : n ≤ m
      · rw [decide_eq_true hle] at ht
        have HACC : Hid (Acc elInt wr wr.heap.size (wr.alloc (.cells #[] 3)) (.slice (some ⟨wr.heap.size, 0, none⟩) 0 0) []) := Acc.start wr
        have HBW : Hid (Below w.heap.size w wr) := HN.out.choose_spec.1.2.1
        have HQ : Hid (Rd (wr.alloc (.cells #[] 3)) B _ (hd.map (Value.int .i64))) := HRD.out.below ((HBW.out.alloc HBW.out.size _).mono hB)
        have HFL := Lib.hid (flat_int hd)
        have hIH := HIH.out (n : Int) (by omega) (by omega)
        have HI := Lib.hid hIH
        have HL9 : Hid (((heapsTo b c d hd n).map (rowsOf a b)).length ≤ 1000000) := by
          unfold Hid
          have := heapsTo_len (b := b) (c := c) (by omega) (by omega) (by omega) d hd n
          have hn3 : n ≤ 3 := by omega
          have h4 : n * 4 ^ d ≤ 3 * 4 ^ d := Nat.mul_le_mul_right _ hn3
          have h5 : 4 ^ d ≤ 4 ^ 8 := Nat.pow_le_pow_right (by omega) (by omega)
          simp only [List.length_map]
          omega
        have HL8 : Hid (((heapsN b c d (hd ++ [(n : Int)])).map (rowsOf a b)).length ≤ 1000000) := by
          unfold Hid
          have := heapsN_len (b := b) (c := c) (by omega) (by omega) (by omega) d (hd ++ [(n : Int)]) (mostZ_le3 (by omega) _) (mostZ_le3 (by omega))
          have h5 : 4 ^ d ≤ 4 ^ 8 := Nat.pow_le_pow_right (by omega) (by omega)
          simp only [List.length_map]
          omega
        have HSC : Hid ((heapsTo b c d hd (n + 1)).map (rowsOf a b) = (heapsTo b c d hd n).map (rowsOf a b) ++ (heapsN b c d (hd ++ [(n : Int)])).map (rowsOf a b)) := by unfold Hid; rw [heapsTo_succ, List.map_append]
        clear hIH
        generalize (heapsTo b c d hd n).map (rowsOf a b) = xs at *
        obtain ⟨zs, HZS⟩ : ∃ zs, Hid (zs = (heapsTo b c d hd (n + 1)).map (rowsOf a b)) := ⟨_, rfl⟩
        rw [← HZS.out] at HSC
        go_wp2_with (first
          | (at_builtin; refine wpList_pushSrc okInt rfl rfl _ _ rfl HACC.out rfl hd B _ k cv (by rw [HFL.out]; exact HQ.out) rfl (by have := HK.out; omega) (by have := HK.out; simp; omega) ?_; intro u1 w1 HA1 HG1; obtain ⟨A1, c1, hu1, _⟩ := HA1.out.1.rd okInt; rw [show (([] : List Int) ++ hd).length = k from HK.out] at hu1; rw [hu1] at HA1; rw [hu1]; clear hu1 HG1)
          | (at_builtin; refine wpList_push okInt rfl _ _ rfl HA1.out rfl (n : Int) _ rfl _ rfl (by simp) (by have := HK.out; simp; omega) ?_; intro u2 w2 HA2 HG2; obtain ⟨A2, c2, hu2, _⟩ := HA2.out.1.rd okInt; rw [show (([] : List Int) ++ hd ++ [(n : Int)]).length = k + 1 by have := HK.out; simp; exact this] at hu2; rw [hu2] at HA2; rw [hu2]; clear hu2 HG2))
        have HRI : Hid (RdI w2 w2.heap.size (.slice A2 (k + 1) c2) (hd ++ [(n : Int)])) := (ownF_int.1 HA2.out.1).rd
        have HI2 := Lib.hid (HI.out w2 w2.heap.size _ HRI.out (Nat.le_refl _))
        refine HI2.out.mono ?_
        rintro e w3 ⟨v3, hi3, rfl, hN3⟩
        have HB3 := Lib.hid ((HBW.out.trans (HA2.out.2.1.mono HBW.out.size)))
        obtain ⟨ss, hA, hE, hh⟩ := HN.out
        obtain ⟨ss3, hA3, hE3, hh3⟩ := hN3
        have hb23 : Below wr.heap.size wr w3 := HA2.out.2.1.trans (hA3.2.1.mono HA2.out.2.1.size)
        obtain ⟨A3, c3, hv3, _⟩ := hA3.1.rd okRows
        subst hv3
        obtain ⟨-, hr3⟩ := OwnF.rdSl hA3.1
        have HR3 := Lib.hid hr3
        have HAO := Lib.hid (hA.below hb23)
        have HEO := Lib.hid (hE.kept (w' := w3) hb23.size fun k _ hk _ => hb23.block k (by omega))
        have HE3 := Lib.hid hE3
        have HSL : Hid (ss.length = xs.length ∧ ss3.length ≤ 1000000) := ⟨hE.1, by rw [hE3.1]; exact HL8.out⟩
        have HLT : Hid (hi ≤ w3.heap.size ∧ hi ≤ w2.heap.size ∧ hi3 ≤ w3.heap.size ∧ (∀ g, v.ownBlock = some g → g < w2.heap.size) ∧ w.heap.size ≤ w2.heap.size) := ⟨Nat.le_trans hh hb23.size, Nat.le_trans hh HA2.out.2.1.size, hh3, fun g hg => Nat.lt_of_lt_of_le (hA.lt g hg).2 HA2.out.2.1.size, HB3.out.size⟩
        clear hA hE hh hA3 hE3 hh3 hb23 hr3 HA1 HA2 HACC HQ
        go_wp2_with (at_builtin; refine wpList_pushSrc okRows rfl rfl _ _ rfl HAO.out rfl ss3 w3.heap.size A3 ss3.length c3 HR3.out rfl rfl (by have := HSL.out; have := HL9.out; omega) ?_; intro u4 w4 HA4 HG4; obtain ⟨A4, c4, hu4, _⟩ := HA4.out.1.rd okRows; rw [List.length_append] at hu4; rw [hu4] at HA4 HG4; rw [hu4]; clear hu4)
        have HN4 : Hid (NRel kdM eMM w w.heap.size w.heap.size w4 w4.heap.size (.slice A4 (ss.length + ss3.length) c4) zs) := by
          unfold Hid
          rw [HSC.out]
          have hlt := HLT.out
          exact NRel.append HEO.out hlt.1 HE3.out hlt.2.2.2.2 hlt.2.1 hlt.2.2.1 (fun g hg => .inl (hlt.2.2.2.1 g hg)) HA4 HG4
        go_roundw
        case rel => exact ⟨n + 1, _, _, by omega, by go_num, rfl, by (rw [← HZS.out]; exact HN4)⟩
        case measure => simp [intOf]; omega
      · rw [decide_eq_false hle] at ht
        go_wp2_with fail
        go_ret
        obtain rfl : n = m + 1 := by omega
        rw [HNS.out]
        exact ⟨_, _, rfl, HN.out⟩

theorem srest_any (a b : Nat) (c : Int) (ha : 1 ≤ a ∧ a ≤ 3) (hb : 1 ≤ b ∧ b ≤ 3) (hc : 1 ≤ c ∧ c ≤ 3) : ∀ (d : Nat) (hd : List Int), hd.length + d = a * b → InC c hd → SRest a b c d hd
  | 0, hd, hl, _ => srest_end a b c ha hb hd hl
  | d + 1, hd, hl, hin => srest_step a b c ha hb hc d hd hl hin fun x h0 h1 => srest_any a b c ha hb hc d (hd ++ [x]) (by simp; omega) (hin.push h0 h1)
end Go.Proofs.Ytfamjhemecpgnaa
