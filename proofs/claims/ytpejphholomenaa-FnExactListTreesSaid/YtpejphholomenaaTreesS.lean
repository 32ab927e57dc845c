/- The contract of the reference's ListTrees. -/
import Derived.Test.YtpejphholomenaaTrees
namespace Go.Proofs.Ytpejphholomenaa
open Go.RowKit
set_option linter.unusedVariables false

/-- One call of l23List. -/
def SRestT (wd n : Nat) (all : List Lk) (d k : Nat) (gs : List Nat) (hd : List Lk) : Prop := ∀ (w : World) (B : Nat) (va vh vg : Value), RdF elLink w B va all → RdF elLink w B vh hd → RdI w B vg (natI gs) → B ≤ w.heap.size →
  Calls Try.prog 104 #[.int .i64 wd, va, .int .i64 (k : Int), vh, vg, .int .i64 (d : Int)] w (RetN (kdF elLink) eLL w (searchZ wd (all.drop k) gs hd d))
theorem searchZ_zero (wd : Nat) (xs : List Lk) (g : List Nat) (hd : List Lk) : searchZ wd xs g hd 0 = [hd] := by cases xs <;> rfl

set_option maxRecDepth 100000 in
set_option maxHeartbeats 4000000 in
theorem srest_endT (wd n : Nat) (all : List Lk) (k : Nat) (gs : List Nat) (hd : List Lk) (hh : hd.length ≤ 100) : SRestT wd n all 0 k gs hd := by
  intro w B va vh vg hva hvh hvg hB
  rw [searchZ_zero]
  obtain ⟨Ah, ch, rfl, p1, p2, _⟩ := id hvh
  unfold maxLen at p2
  have hb2 : Below w.heap.size w ((w.alloc (.cells #[] 57)).alloc (.cells #[] 110)) := ((Below.refl _ _).alloc (Nat.le_refl _) _).alloc (by simp) _
  have HRH := Lib.hid (hvh.below (hb2.mono hB))
  have HACC : Hid (Acc elLink w (w.heap.size + 1) ((w.alloc (.cells #[] 57)).alloc (.cells #[] 110)) (.slice (some ⟨w.heap.size + 1, 0, none⟩) 0 0) []) := by
    have := Acc.startAt (E := elLink) (w := w) (wr := w.alloc (.cells #[] 57)) (lo := w.heap.size + 1) ((Below.refl _ _).alloc (Nat.le_refl _) _) (by omega) (by simp)
    rw [show (w.alloc (.cells #[] 57)).heap.size = w.heap.size + 1 by simp] at this
    exact this
  have HACO : Hid (Acc eLL w w.heap.size ((w.alloc (.cells #[] 57)).alloc (.cells #[] 110)) (.slice (some ⟨w.heap.size, 0, none⟩) 0 0) []) := by
    refine (Acc.start (E := eLL) w).below ?_
    exact (Below.refl _ _).alloc (Nat.le_refl _) _
  clear hva hvg hb2 hvh
  go_enter Try.func104, Try.ntmps104
  go_wp2_with (first
    | (at_builtin; refine wpList_pushSrcF okLink rfl _ _ rfl HACC.out rfl hd _ _ HRH.out rfl (by simp; omega) ?_; intro u2 w2 HA2 HG2; rw [List.nil_append] at HA2; obtain ⟨A2, k2, hu2, _⟩ := HA2.out.1.rd okLink; subst hu2; have HAO2 : Hid (Acc eLL w w.heap.size w2 (.slice (some ⟨w.heap.size, 0, none⟩) 0 0) []) := ⟨HACO.out.1.kept HG2.out.1 (fun k h1 h2 => by simp only [Value.ownBlock, Option.some.injEq] at h1 h2; omega), HA2.out.2.1, Nat.le_refl _, HA2.out.2.1.size⟩)
    | (at_builtin; refine wpList_push okLL rfl _ _ rfl HAO2.out rfl (A2, hd.length, k2) _ rfl _ rfl rfl (by simp) ?_; intro v3 w3 HA3 HG3; obtain ⟨A3, k3, hv3, _⟩ := HA3.out.1.rd okLL; rw [show (([] : List Sl) ++ [((A2, hd.length, k2) : Sl)]).length = 1 by simp] at hv3; subst hv3))
  go_ret
  refine ⟨_, w3.heap.size, rfl, ?_⟩
  have hs2 := HA2.out.2.2.2
  have := NRel.push (K := kdF elLink) (E := eLL) (w := w) (wr := w2) (base := w.heap.size) (lo := w.heap.size) (hi := w.heap.size + 1) (a := w.heap.size + 1) (b := w2.heap.size) (ss := []) (xs := []) (s := (A2, hd.length, k2)) (x := hd) (Els.nil _ _ _ _) hs2 ⟨HA2.out.1, fun g hg => (HA2.out.1.lt g hg).2⟩ (by omega) (Nat.le_refl _) (Nat.le_refl _) (fun g hg => by simp only [Value.ownBlock, Option.some.injEq] at hg; omega) HA3 HG3
  exact this

/-- A link in memory, in a world that grows. -/
abbrev LkS (w w' : World) (p : Addr) (x y : Int) (d : Bool) : Prop := w'.cell? p = some (.int .i64 x) ∧ w'.cell? ⟨p.block, p.off + 1, none⟩ = some (.int .i64 y) ∧ w'.cell? ⟨p.block, p.off + 2, none⟩ = some (.bool d) ∧ Below w.heap.size w w'
theorem LkS.of {w w' : World} {p : Addr} {x y : Int} {d : Bool} (h : Three w p x y d) (hp : p.block < w.heap.size) (hb : Below w.heap.size w w') : LkS w w' p x y d :=
  ⟨(hb.cell hp).trans h.1, (hb.cell (p := ⟨p.block, p.off + 1, none⟩) hp).trans h.2.1, (hb.cell (p := ⟨p.block, p.off + 2, none⟩) hp).trans h.2.2, hb⟩
theorem LkS.of2 {w w3 W : World} {p : Addr} {x y : Int} {d : Bool} (h : Three w p x y d) (hp : p.block < w.heap.size) (hb : Below w.heap.size w w3) (hb2 : Below w3.heap.size w3 W) : LkS w W p x y d := LkS.of h hp (hb.trans (hb2.mono hb.size))
/-- One element in a block of its own. -/
theorem rdF_one {α : Type} {E : El α} {w : World} {h : Nat} {cs : Array Value} {t : TypeId} {y : α} (hE : (E.f y).length = E.s) (hb : w.heap[h]? = some (.cells cs t (0, 0))) (hc : cs.toList = E.f y) : RdF E w w.heap.size (.slice (some ⟨h, 0, none⟩) 1 1) [y] := by
  refine ⟨_, _, rfl, Nat.le_refl _, by unfold maxLen; omega, fun j x hx => ?_⟩
  have hj : j = 0 := by have := (List.getElem?_eq_some_iff.1 hx).1; simp at this; exact this
  subst hj
  simp only [List.getElem?_cons_zero, Option.some.injEq] at hx
  subst hx
  refine ⟨_, rfl, lt_of_block hb, fun i u hu => ?_⟩
  rw [Nat.zero_mul, Nat.zero_add]
  exact World.news_of_block hb i u (by rw [hc]; exact hu)

theorem flat_int' (zs : List Int) : zs.flatMap elInt.f = zs.map (Value.int .i64) := by
  induction zs with
  | nil => rfl
  | cons z zs ih => rw [List.flatMap_cons, ih]; rfl
theorem searchZ_drop (wd : Nat) (all : List Lk) (i : Nat) (gs : List Nat) (hd : List Lk) (d : Nat) (h : i < all.length) : searchZ wd (all.drop i) gs hd (d + 1) = (if gi gs (lkN wd all[i]).1 = gi gs (lkN wd all[i]).2 then [] else searchZ wd (all.drop (i + 1)) (joinF gs (lkN wd all[i])) (hd ++ [all[i]]) d) ++ searchZ wd (all.drop (i + 1)) gs hd (d + 1) := by
  rw [List.drop_eq_getElem_cons h, searchZ]
theorem NRel.big' {α : Type} {K : Kd α} {E : El Sl} {w wr : World} {base lo hi : Nat} {v : Value} {xs : List α} (h : NRel K E w base lo wr hi v xs) : Below w.heap.size w wr := h.choose_spec.1.2.1

set_option maxRecDepth 100000 in
set_option maxHeartbeats 8000000 in
theorem srest_stepT (wd n : Nat) (all : List Lk) (hal : all.length ≤ 20) (hwd : wd ≤ 4) (hn : 0 < n ∧ n ≤ 16) (hin : ∀ l ∈ all, lkIn wd n l = true) (d k : Nat) (gs : List Nat) (hgl : gs.length = n) (hd : List Lk) (hh : hd.length ≤ 20) (hd9 : d ≤ 20) (hk : k ≤ all.length)
    (IH : ∀ (i : Nat) (h : i < all.length), SRestT wd n all d (i + 1) (joinF gs (lkN wd all[i])) (hd ++ [all[i]])) : SRestT wd n all (d + 1) k gs hd := by
  intro w B va vh vg hva hvh hvg hB
  have HVA := Lib.hid hva; have HVH := Lib.hid hvh; have HVG := Lib.hid hvg
  obtain ⟨Aa, ca, rfl, s1, s2, G3⟩ := RdT.of (E := elLink) rfl (fun _ => rfl) hva
  obtain ⟨Ah, ch, rfl, p1, p2, _⟩ := id hvh
  obtain ⟨Ag, cg, rfl, r1, r2, hRG⟩ := id hvg
  unfold maxLen at s2 p2 r2
  rw [natI_length, hgl] at r1 HVG
  have HRG := Lib.hid hRG
  have HGL := Lib.hid hgl
  have HIH := Lib.hid IH
  have HIN := Lib.hid hin
  have HK := Lib.hid hk
  have HS0 : Hid (NRel (kdF elLink) eLL w w.heap.size w.heap.size (w.alloc (.cells #[] 57)) (w.heap.size + 1) (.slice (some ⟨w.heap.size, 0, none⟩) 0 0) []) := ⟨[], Acc.start w, Els.nil _ _ _ _, by simp⟩
  obtain ⟨TT, HTT⟩ : ∃ TT, Hid (searchZ wd (all.drop k) gs hd (d + 1) = TT) := ⟨_, rfl⟩
  have HTL : Hid (TT.length ≤ 1048576) := by
    unfold Hid
    have h1 := searchZ_len wd (all.drop k) gs hd (d + 1)
    rw [HTT.out, List.length_drop] at h1
    have h2 : 2 ^ (all.length - k) ≤ 2 ^ 20 := Nat.pow_le_pow_right (by omega) (by omega)
    omega
  rw [HTT.out, natI_length, hgl]
  have HQ0 : Hid ([] ++ searchZ wd (all.drop k) gs hd (d + 1) = TT) := HTT.out
  clear hva hvh hvg hRG IH hin hk HTT
  go_enter Try.func104, Try.ntmps104
  have hdz : (((d + 1 : Nat) : Int) == 0) = false := by rw [beq_eq_false_iff_ne]; omega
  have hd1 : ((d + 1 : Nat) : Int) = (d : Int) + 1 := by omega
  rw [hd1] at hdz ⊢
  clear hd1
  go_wp2_with fail
  go_loopw [13, 14] (fun o s wr => ∃ (i hi : Nat) (v : Value) (ys : List (List Lk)), i ≤ all.length ∧ s = .int .i64 i ∧ v = o ∧ Hid (NRel (kdF elLink) eLL w w.heap.size w.heap.size wr hi v ys) ∧ Hid (ys ++ searchZ wd (all.drop i) gs hd (d + 1) = TT)) (fun _ s _ => all.length - (intOf s).toNat)
  case atStart => exact ⟨k, _, _, [], HK.out, rfl, rfl, HS0, HQ0⟩
  case round =>
    obtain ⟨i, hi, v, ys, hil, rfl, rfl, HN, HQ⟩ := hrel
    by_cases hlt : i < all.length
    · have ht : decide ((i : Int) < (all.length : Int)) = true := by simp only [decide_eq_true_eq]; omega
      obtain ⟨ad, rfl, had, hx, hy, hz⟩ := G3.out i hlt
      have hi0 : (0 : Int) ≤ (i : Int) := by omega
      have hi1 : (i : Int) < (all.length : Int) := by omega
      have hbw := HN.out.big'
      have HX : Hid (all[i] = (lx all i, ly all i, ld all i)) := lk_at _ _ hlt
      have HTD := Lib.hid (searchZ_drop wd all i gs hd d hlt)
      have HI1 := Lib.hid (HIH.out i hlt)
      have hlk := HIN.out _ (List.getElem_mem hlt)
      rw [HX.out] at HTD HI1 hlk
      have HT3 : Hid (Three w (ad.add (i * 3)) (lx all i) (ly all i) (ld all i)) := ⟨hx, hy, hz⟩
      have HAB : Hid ((ad.add (i * 3)).block < B) := by unfold Hid; rw [addBlock]; exact had
      have HBW := Lib.hid hbw
      have HACC : Hid (Acc elInt wr wr.heap.size (wr.alloc (.cells #[] 3)) (.slice (some ⟨wr.heap.size, 0, none⟩) 0 0) []) := Acc.start wr
      have HQG : Hid (Rd (wr.alloc (.cells #[] 3)) B Ag ((natI gs).map (Value.int .i64))) := HRG.out.below ((hbw.alloc hbw.size _).mono hB)
      have HFL := Lib.hid (flat_int' (natI gs))
      clear hx hy hz hbw G3
      generalize lx all i = x at *
      generalize ly all i = y at *
      generalize ld all i = z at *
      obtain ⟨pa, pb, ha, hb', i1, i2, i3, i4, i5, i6⟩ := lk_ends hlk
      have HA := Lib.hid ha; have HBB := Lib.hid hb'; have HLN := Lib.hid i4
      clear ha hb' i4 hlk
      go_wp2_with (at_builtin; refine wpList_pushSrc okInt rfl rfl _ _ rfl HACC.out rfl (natI gs) B Ag n cg (by rw [HFL.out]; exact HQG.out) rfl (by rw [natI_length]; exact HGL.out.symm) (by rw [natI_length]; have := HGL.out; simp; omega) ?_; intro u1 w1 HA1 HG1; rw [List.nil_append] at HA1; obtain ⟨gg, cgg, hv1, hgb, hglt⟩ := World.ownsRow.form (ownF_int.1 HA1.out.1) (by rw [natI_length, HGL.out]; exact hn.1); rw [natI_length, HGL.out] at hv1; subst hv1; have HB1 : Hid (Below wr.heap.size wr w1) := HA1.out.2.1; have HB1w := Lib.hid (HBW.out.trans (HB1.out.mono HBW.out.size)); have hT1 := LkS.of HT3.out (Nat.lt_of_lt_of_le HAB.out hB) HB1w.out; obtain ⟨g1, g2, g3, _⟩ := hT1)
      refine (l23Ends_any _ _ _ _ _ (by omega) (by omega) (by omega) (by omega) (by omega) (by omega)).mono ?_
      rintro e w2 ⟨rfl, hb2⟩
      rw [HA.out, HBB.out]
      have HB2 := Lib.hid (HB1.out.trans (hb2.mono HB1.out.size))
      have HG2 := Lib.hid ((ownF_int.1 HA1.out.1).below hb2)
      clear hb2
      go_wp2_with fail
      refine (l23Join_any gg cgg n wr.heap.size pa pb gs _ HG2.out HGL.out (by omega) (by omega) (by omega)).mono ?_
      rintro e w3 ⟨rfl, hO3, hg3⟩
      have HO3 := Lib.hid hO3
      have HB3 := Lib.hid (HB2.out.grown hg3 HB2.out.size (fun k hk => by obtain rfl := Option.some.inj hk; exact hgb))
      have HB3w := Lib.hid (HBW.out.trans (HB3.out.mono HBW.out.size))
      have HN3 := Lib.hid (HN.out.below HB3.out)
      clear hO3 hg3 g1 g2 g3
      rw [HLN.out] at HTD HI1
      by_cases hj : gi gs pa = gi gs pb
      · rw [show decide (gi gs pa ≠ gi gs pb) = false by simp [hj]]
        have HQ1 : Hid (ys ++ searchZ wd (all.drop (i + 1)) gs hd (d + 1) = TT) := by unfold Hid; rw [← HQ.out, HTD.out, if_pos hj, List.nil_append]
        clear hj
        go_wp2_with fail
        go_roundw
        case rel => exact ⟨i + 1, _, _, ys, by omega, by go_num, rfl, HN3, HQ1⟩
        case measure => simp [intOf]; omega
      · rw [show decide (gi gs pa ≠ gi gs pb) = true by simp [hj]]
        have HQ1 : Hid ((ys ++ searchZ wd (all.drop (i + 1)) (joinF gs (pa, pb)) (hd ++ [(x, y, z)]) d) ++ searchZ wd (all.drop (i + 1)) gs hd (d + 1) = TT) := by unfold Hid; rw [← HQ.out, HTD.out, if_neg hj, List.append_assoc]
        clear hj HTD
        have HPB : Hid ((ad.add (i * 3)).block < w.heap.size) := Nat.lt_of_lt_of_le HAB.out hB
        have HS3 : Hid (LkS w w3.drew (ad.add (i * 3)) x y z) := LkS.of2 HT3.out HPB.out HB3w.out (Below.refl _ _).drew
        have hw1 : IntKind.i64.wrap ((i : Int) + 1) = (i : Int) + 1 := IntWalk.i64_in _ (by omega)
        have hw2 : IntKind.i64.wrap ((d : Int) + 1 - 1) = (d : Int) := by rw [IntWalk.i64_in _ (by omega)]; omega
        have hw3 : IntKind.i64.wrap (d : Int) = (d : Int) := IntWalk.i64_in _ (by omega)
        have hbA : Below w3.heap.size w3 (w3.alloc (.cells #[] 110)).drew := ((Below.refl _ _).alloc (Nat.le_refl _) _).drew
        have hbE : Below w3.heap.size w3 (w3.alloc (.cells #[.int .i64 x, .int .i64 y, .bool z] 110)).drew := ((Below.refl _ _).alloc (Nat.le_refl _) _).drew
        have hbB : Below w3.heap.size w3 ((w3.alloc (.cells #[] 110)).alloc (.cells #[.int .i64 x, .int .i64 y, .bool z] 110)).drew := (((Below.refl _ _).alloc (Nat.le_refl _) _).alloc (by simp) _).drew
        have hbC : Below w3.heap.size w3 ((w3.alloc (.cells #[.int .i64 x, .int .i64 y, .bool z] 110)).alloc (.cells #[] 110)).drew := (((Below.refl _ _).alloc (Nat.le_refl _) _).alloc (by simp) _).drew
        have HAA : Hid (Acc elLink w3 w3.heap.size (w3.alloc (.cells #[] 110)).drew (.slice (some ⟨w3.heap.size, 0, none⟩) 0 0) []) := (Acc.start w3).below (Below.refl _ _).drew
        have HAB2 : Hid (Acc elLink w3 w3.heap.size ((w3.alloc (.cells #[] 110)).alloc (.cells #[.int .i64 x, .int .i64 y, .bool z] 110)).drew (.slice (some ⟨w3.heap.size, 0, none⟩) 0 0) []) := (Acc.start w3).below ((Below.refl _ _).alloc (Nat.le_refl _) _).drew
        have HAC : Hid (Acc elLink w3 w3.heap.size ((w3.alloc (.cells #[.int .i64 x, .int .i64 y, .bool z] 110)).alloc (.cells #[] 110)).drew (.slice (some ⟨w3.heap.size + 1, 0, none⟩) 0 0) []) := by
          have := Acc.startAt (E := elLink) (w := w3) (wr := w3.alloc (.cells #[.int .i64 x, .int .i64 y, .bool z] 110)) (lo := w3.heap.size) ((Below.refl _ _).alloc (Nat.le_refl _) _) (Nat.le_refl _) (by simp)
          rw [show (w3.alloc (.cells #[.int .i64 x, .int .i64 y, .bool z] 110)).heap.size = w3.heap.size + 1 by simp] at this
          exact this.below (Below.refl _ _).drew
        obtain ⟨_, hWB, kb0, kb1, _⟩ := two_alloc w3 (.cells #[] 110) (.cells #[.int .i64 x, .int .i64 y, .bool z] 110)
        obtain ⟨_, hWC, kc0, kc1, _⟩ := two_alloc w3 (.cells #[.int .i64 x, .int .i64 y, .bool z] 110) (.cells #[] 110)
        rw [hWB] at kb0 kb1
        rw [hWC] at kc0 kc1
        clear hWB hWC
        have HKB : Hid (∀ (w4 : World) (u4 : Value), GrewS ((w3.alloc (.cells #[] 110)).alloc (.cells #[.int .i64 x, .int .i64 y, .bool z] 110)).drew w4 (.slice (some ⟨w3.heap.size, 0, none⟩) 0 0) u4 → w4.heap[w3.heap.size + 1]? = some (.cells #[.int .i64 x, .int .i64 y, .bool z] 110 (0, 0))) := fun w4 u4 hg => (hg.1.block _ (lt_of_block kb1) (by simp [Value.ownBlock])).trans kb1
        have HKC : Hid (∀ (w4 : World) (u4 : Value), GrewS ((w3.alloc (.cells #[.int .i64 x, .int .i64 y, .bool z] 110)).alloc (.cells #[] 110)).drew w4 (.slice (some ⟨w3.heap.size + 1, 0, none⟩) 0 0) u4 → w4.heap[w3.heap.size]? = some (.cells #[.int .i64 x, .int .i64 y, .bool z] 110 (0, 0))) := fun w4 u4 hg => (hg.1.block _ (lt_of_block kc0) (by simp [Value.ownBlock])).trans kc0
        have hRH := HVH.out.below (HB3w.out.mono hB)
        have HRA := Lib.hid ((hRH.more (Nat.le_trans hB HB3w.out.size)).below hbA)
        have HRB := Lib.hid ((hRH.more (Nat.le_trans hB HB3w.out.size)).below hbB)
        have HRC := Lib.hid ((hRH.more (Nat.le_trans hB HB3w.out.size)).below hbC)
        have HBA := Lib.hid hbA; have HBE := Lib.hid hbE; have HBB2 := Lib.hid hbB; have HBC := Lib.hid hbC
        have HRD := Lib.hid ((HVA.out.below (HB3w.out.mono hB)).more (Nat.le_trans hB HB3w.out.size))
        have HRG3 : Hid (RdI w3 w3.heap.size (.slice (some ⟨gg, 0, none⟩) n cgg) (natI (joinF gs (pa, pb)))) := HO3.out.rd
        have HI2 : Hid (∀ (w : World) (B : Nat) (va vh vg : Value), RdF elLink w B va all → RdF elLink w B vh (hd ++ [(x, y, z)]) → RdI w B vg (natI (joinF gs (pa, pb))) → B ≤ w.heap.size →
            Calls Try.prog 104 #[.int .i64 wd, va, .int .i64 ((i : Int) + 1), vh, vg, .int .i64 (d : Int)] w (RetN (kdF elLink) eLL w (searchZ wd (all.drop (i + 1)) (joinF gs (pa, pb)) (hd ++ [(x, y, z)]) d))) := by
          intro w B va vh vg h1 h2 h3 h4
          have := HI1.out w B va vh vg h1 h2 h3 h4
          rw [show ((i + 1 : Nat) : Int) = (i : Int) + 1 by omega] at this
          exact this
        obtain ⟨sub, HSUB⟩ : ∃ sub, Hid (searchZ wd (all.drop (i + 1)) (joinF gs (pa, pb)) (hd ++ [(x, y, z)]) d = sub) := ⟨_, rfl⟩
        rw [HSUB.out] at HI2 HQ1
        have HLS : Hid (ys.length + sub.length ≤ 1048576) := by
          unfold Hid
          have h1 := HTL.out
          rw [← HQ1.out] at h1
          simp only [List.length_append] at h1
          omega
        clear hbA hbB hbC hbE kb0 kb1 kc0 kc1 hRH HI1
        go_wp2_with fail
        refine wp_region_held_drew (S := fun w' => LkS w w' (ad.add (i * 3)) x y z) (by kernel_rfl) (by exact HS3.out) (fun hHeld => ?_)
        refine wpAnyH_take (i := 0) (oi := ⟨_, _, _, _, _, _⟩) (v := ?vap13609q1n0) rfl (by kernel_rfl) (by kernel_rfl) (by kernel_rfl) (fun _ _ _ h => h) (Or.inl ⟨by rfl, ?hap13609q1n0⟩) (by assumption) ?_
        case hap13609q1n0 => (intro w hSw; (try dsimp only at hSw); go_simp; try with_reducible rfl)
        try simp only [Act.put, List.setIfInBounds_toArray, List.set_cons_zero, List.set_cons_succ]
        refine wpAnyH_take (i := 1) (oi := ⟨_, _, _, _, _, _⟩) (v := ?vap13609q2n1) rfl (by kernel_rfl) (by kernel_rfl) (by kernel_rfl) (fun _ _ _ h => h) (Or.inl ⟨by rfl, ?hap13609q2n1⟩) (by assumption) ?_
        case hap13609q2n1 => (intro w hSw; (try dsimp only at hSw); go_simp; try with_reducible rfl)
        try simp only [Act.put, List.setIfInBounds_toArray, List.set_cons_zero, List.set_cons_succ]
        refine wpAnyH_take (i := 2) (oi := ⟨_, _, _, _, _, _⟩) (v := ?vap13609q3n2) rfl (by kernel_rfl) (by kernel_rfl) (by kernel_rfl) (fun _ _ _ h => h) (Or.inl ⟨by rfl, ?hap13609q3n2⟩) (by assumption) ?_
        case hap13609q3n2 => (intro w hSw; (try dsimp only at hSw); go_simp; try with_reducible rfl)
        try simp only [Act.put, List.setIfInBounds_toArray, List.set_cons_zero, List.set_cons_succ]
        refine wpAnyH_take (i := 3) (oi := ⟨_, _, _, _, _, _⟩) (v := ?vap13609q4n3) rfl (by kernel_rfl) (by kernel_rfl) (by kernel_rfl) (fun _ _ _ h => h) (Or.inl ⟨by rfl, ?hap13609q4n3⟩) (by assumption) ?_
        case hap13609q4n3 => (intro w hSw; (try dsimp only at hSw); go_simp; try with_reducible rfl)
        try simp only [Act.put, List.setIfInBounds_toArray, List.set_cons_zero, List.set_cons_succ]
        refine wpAnyH_take (i := 4) (oi := ⟨_, _, _, _, _, _⟩) (v := ?vap13609q5n4) rfl (by kernel_rfl) (by kernel_rfl) (by kernel_rfl) (fun _ _ _ h => h) (Or.inl ⟨by rfl, ?hap13609q5n4⟩) (by assumption) ?_
        case hap13609q5n4 => (intro w hSw; (try dsimp only at hSw); go_simp; try with_reducible rfl)
        try simp only [Act.put, List.setIfInBounds_toArray, List.set_cons_zero, List.set_cons_succ]
        refine wpAnyH_take (i := 6) (oi := ⟨_, _, _, _, _, _⟩) (v := ?vap13609q6n6) rfl (by kernel_rfl) (by kernel_rfl) (by kernel_rfl) (fun _ _ _ h => h) (Or.inl ⟨by rfl, ?hap13609q6n6⟩) (by assumption) ?_
        case hap13609q6n6 => (intro w hSw; (try dsimp only at hSw); go_simp; try with_reducible rfl)
        try simp only [Act.put, List.setIfInBounds_toArray, List.set_cons_zero, List.set_cons_succ]
        refine wpAnyH_take (i := 8) (oi := ⟨_, _, _, _, _, _⟩) (v := ?vap13609q7n8) rfl (by kernel_rfl) (by kernel_rfl) (by kernel_rfl) (fun _ _ _ h => h) (Or.inl ⟨by rfl, ?hap13609q7n8⟩) (by assumption) ?_
        case hap13609q7n8 => (intro w hSw; (try dsimp only at hSw); go_simp; try with_reducible rfl)
        try simp only [Act.put, List.setIfInBounds_toArray, List.set_cons_zero, List.set_cons_succ]
        refine wpAnyH_take (i := 9) (oi := ⟨_, _, _, _, _, _⟩) (v := ?vap13609q8n9) rfl (by kernel_rfl) (by kernel_rfl) (by kernel_rfl) (fun _ _ _ h => h) (Or.inl ⟨by rfl, ?hap13609q8n9⟩) (by assumption) ?_
        case hap13609q8n9 => (intro w hSw; (try dsimp only at hSw); go_simp; try with_reducible rfl)
        try simp only [Act.put, List.setIfInBounds_toArray, List.set_cons_zero, List.set_cons_succ]
        refine wpAnyH_take (i := 10) (oi := ⟨_, _, _, _, _, _⟩) (v := ?vap13609q9n10) rfl (by kernel_rfl) (by kernel_rfl) (by kernel_rfl) (fun _ _ _ h => h) (Or.inl ⟨by rfl, ?hap13609q9n10⟩) (by assumption) ?_
        case hap13609q9n10 => (intro w hSw; (try dsimp only at hSw); go_simp; try with_reducible rfl)
        try simp only [Act.put, List.setIfInBounds_toArray, List.set_cons_zero, List.set_cons_succ]
        refine wpAnyH_take (i := 11) (oi := ⟨_, _, _, _, _, _⟩) (v := ?vap13609q10n11) rfl (by kernel_rfl) (by kernel_rfl) (by kernel_rfl) (fun _ _ _ h => h) (Or.inl ⟨by rfl, ?hap13609q10n11⟩) (by assumption) ?_
        case hap13609q10n11 => (intro w hSw; (try dsimp only at hSw); go_simp; try with_reducible rfl)
        try simp only [Act.put, List.setIfInBounds_toArray, List.set_cons_zero, List.set_cons_succ]
        refine wpAnyH_take (i := 14) (oi := ⟨_, _, _, _, _, _⟩) (v := ?vap13609q11n14) rfl (by kernel_rfl) (by kernel_rfl) (by kernel_rfl) (fun _ _ _ h => h) (Or.inl ⟨by rfl, ?hap13609q11n14⟩) (by assumption) ?_
        case hap13609q11n14 => (intro w hSw; (try dsimp only at hSw); go_simp; try with_reducible rfl)
        try simp only [Act.put, List.setIfInBounds_toArray, List.set_cons_zero, List.set_cons_succ]
        refine wpAnyH_take (i := 15) (oi := ⟨_, _, _, _, _, _⟩) (v := ?vap13609q12n15) rfl (by kernel_rfl) (by kernel_rfl) (by kernel_rfl) (fun _ _ _ h => h) (Or.inl ⟨by rfl, ?hap13609q12n15⟩) (by assumption) ?_
        case hap13609q12n15 => (intro w hSw; (try dsimp only at hSw); go_simp; try with_reducible rfl)
        try simp only [Act.put, List.setIfInBounds_toArray, List.set_cons_zero, List.set_cons_succ]
        refine wpAnyH_take (i := 16) (oi := ⟨_, _, _, _, _, _⟩) (v := ?vap13609q13n16) rfl (by kernel_rfl) (by kernel_rfl) (by kernel_rfl) (fun _ _ _ h => h) (Or.inl ⟨by rfl, ?hap13609q13n16⟩) (by assumption) ?_
        case hap13609q13n16 => (intro w hSw; (try dsimp only at hSw); go_simp; try with_reducible rfl)
        try simp only [Act.put, List.setIfInBounds_toArray, List.set_cons_zero, List.set_cons_succ]
        refine wpAnyH_ready (rs := [5, 12]) (by kernel_rfl) (by simp) ?_
        refine AllReadyH.cons (o := ⟨_, _, _, _, _, _⟩) rfl (fun K hK => ?cp13609q14n5) (AllReadyH.cons (o := ⟨_, _, _, _, _, _⟩) rfl (fun K hK => ?cp13609q14n12) AllReadyH.nil)
        case cp13609q14n5 =>
          go_simp
          refine hK.out _ _ (by first | with_reducible exact LkS.of2 HT3.out HPB.out HB3w.out HBA.out | with_reducible exact LkS.of2 HT3.out HPB.out HB3w.out HBE.out | with_reducible exact LkS.of2 HT3.out HPB.out HB3w.out HBB2.out | with_reducible exact LkS.of2 HT3.out HPB.out HB3w.out HBC.out | with_reducible exact LkS.of2 HT3.out HPB.out HB3w.out HB4.out | with_reducible exact LkS.of2 HT3.out HPB.out HB3w.out HB4E.out | with_reducible exact LkS.of2 HT3.out HPB.out HB3w.out HB5.out | with_reducible exact LkS.of2 HT3.out HPB.out HB3w.out HB6.out | with_reducible exact LkS.of HT3.out HPB.out HB7.out) (fun hHeld => ?_)
          clear hK K
          try simp only [Act.put, List.setIfInBounds_toArray, List.set_cons_zero, List.set_cons_succ]
          refine wpAnyH_ready (rs := [7, 12]) (by kernel_rfl) (by simp) ?_
          refine AllReadyH.cons (o := ⟨_, _, _, _, _, _⟩) rfl (fun K hK => ?cp13609q15n7) (AllReadyH.cons (o := ⟨_, _, _, _, _, _⟩) rfl (fun K hK => ?cp13609q15n12) AllReadyH.nil)
          case cp13609q15n7 =>
            refine step_pushSrcF okLink (by rfl) _ _ (by rfl) (by first | with_reducible exact HAA.out | with_reducible exact HAB2.out | with_reducible exact HAC.out) (by rfl) hd _ _ (by first | with_reducible exact HRA.out | with_reducible exact HRB.out | with_reducible exact HRC.out) (by rfl) (by simp; omega) ?_
            intro u4 w4 HA4 HG4
            rw [List.nil_append] at HA4
            obtain ⟨A4, k4, hu4, _⟩ := HA4.out.1.rd okLink
            subst hu4
            have HB4 : Hid (Below w3.heap.size w3 w4) := HA4.out.2.1
            have HB4E : Hid (Below w3.heap.size w3 (w4.alloc (.cells #[.int .i64 x, .int .i64 y, .bool z] 110))) := HB4.out.alloc HB4.out.size _
            have HA4E : Hid (Acc elLink w3 w3.heap.size (w4.alloc (.cells #[.int .i64 x, .int .i64 y, .bool z] 110)) (.slice A4 hd.length k4) hd) := HA4.out.below ((Below.refl _ _).alloc (Nat.le_refl _) _)
            have HX4A : Hid (RdF elLink (w4.alloc (.cells #[.int .i64 x, .int .i64 y, .bool z] 110)) (w4.alloc (.cells #[.int .i64 x, .int .i64 y, .bool z] 110)).heap.size (.slice (some ⟨w4.heap.size, 0, none⟩) 1 1) [(x, y, z)]) := rdF_one rfl (heap_alloc_new w4 _) rfl
            first
              | (with_reducible (have hx9 := HKB.out _ _ HG4.out))
              | (with_reducible (have hx9 := HKC.out _ _ HG4.out))
              | skip
            try (have HX4B := Lib.hid (rdF_one (E := elLink) (y := (x, y, z)) rfl hx9 rfl))
            refine hK.out _ _ (by first | with_reducible exact LkS.of2 HT3.out HPB.out HB3w.out HBA.out | with_reducible exact LkS.of2 HT3.out HPB.out HB3w.out HBE.out | with_reducible exact LkS.of2 HT3.out HPB.out HB3w.out HBB2.out | with_reducible exact LkS.of2 HT3.out HPB.out HB3w.out HBC.out | with_reducible exact LkS.of2 HT3.out HPB.out HB3w.out HB4.out | with_reducible exact LkS.of2 HT3.out HPB.out HB3w.out HB4E.out | with_reducible exact LkS.of2 HT3.out HPB.out HB3w.out HB5.out | with_reducible exact LkS.of2 HT3.out HPB.out HB3w.out HB6.out | with_reducible exact LkS.of HT3.out HPB.out HB7.out) (fun hHeld => ?_)
            clear hK K
            try simp only [Act.put, List.setIfInBounds_toArray, List.set_cons_zero, List.set_cons_succ]
            refine wpAnyH_ready (rs := [12]) (by kernel_rfl) (by simp) ?_
            refine AllReadyH.cons (o := ⟨_, _, _, _, _, _⟩) rfl (fun K hK => ?_) AllReadyH.nil
            go_simp
            refine hK.out _ _ (by first | with_reducible exact LkS.of2 HT3.out HPB.out HB3w.out HBA.out | with_reducible exact LkS.of2 HT3.out HPB.out HB3w.out HBE.out | with_reducible exact LkS.of2 HT3.out HPB.out HB3w.out HBB2.out | with_reducible exact LkS.of2 HT3.out HPB.out HB3w.out HBC.out | with_reducible exact LkS.of2 HT3.out HPB.out HB3w.out HB4.out | with_reducible exact LkS.of2 HT3.out HPB.out HB3w.out HB4E.out | with_reducible exact LkS.of2 HT3.out HPB.out HB3w.out HB5.out | with_reducible exact LkS.of2 HT3.out HPB.out HB3w.out HB6.out | with_reducible exact LkS.of HT3.out HPB.out HB7.out) (fun hHeld => ?_)
            clear hK K
            try simp only [Act.put, List.setIfInBounds_toArray, List.set_cons_zero, List.set_cons_succ]
            refine wpAnyH_ready (rs := [13]) (by kernel_rfl) (by simp) ?_
            refine AllReadyH.cons (o := ⟨_, _, _, _, _, _⟩) rfl (fun K hK => ?_) AllReadyH.nil
            refine step_pushSrcF okLink (by rfl) _ _ (by rfl) (by first | with_reducible exact HA4.out | with_reducible exact HA4E.out) (by rfl) [(x, y, z)] _ _ (by first | with_reducible exact HX4A.out | with_reducible exact HX4B.out) (by rfl) (by simp; omega) ?_
            intro u5 w5 HA5 HG5
            obtain ⟨A5, k5, hu5, _⟩ := HA5.out.1.rd okLink
            rw [show (hd ++ [((x, y, z) : Lk)]).length = hd.length + 1 by simp] at hu5
            subst hu5
            have HB5 : Hid (Below w3.heap.size w3 w5) := HA5.out.2.1
            refine hK.out _ _ (by first | with_reducible exact LkS.of2 HT3.out HPB.out HB3w.out HBA.out | with_reducible exact LkS.of2 HT3.out HPB.out HB3w.out HBE.out | with_reducible exact LkS.of2 HT3.out HPB.out HB3w.out HBB2.out | with_reducible exact LkS.of2 HT3.out HPB.out HB3w.out HBC.out | with_reducible exact LkS.of2 HT3.out HPB.out HB3w.out HB4.out | with_reducible exact LkS.of2 HT3.out HPB.out HB3w.out HB4E.out | with_reducible exact LkS.of2 HT3.out HPB.out HB3w.out HB5.out | with_reducible exact LkS.of2 HT3.out HPB.out HB3w.out HB6.out | with_reducible exact LkS.of HT3.out HPB.out HB7.out) (fun hHeld => ?_)
            clear hK K
            try simp only [Act.put, List.setIfInBounds_toArray, List.set_cons_zero, List.set_cons_succ]
            refine wpAnyH_ready (rs := [17]) (by kernel_rfl) (by simp) ?_
            refine AllReadyH.cons (o := ⟨_, _, _, _, _, _⟩) rfl (fun K hK => ?_) AllReadyH.nil
            go_simp
            go_at_call 104
            refine (HI2.out w5 w5.heap.size _ _ _ ((HRD.out.below HB5.out).more HB5.out.size) (HA5.out.1.rd okLink) ((HRG3.out.below HB5.out).more HB5.out.size) (Nat.le_refl _)).mono ?_
            rintro e w6 ⟨v6, hi6, rfl, ss6, hA6, hE6, hh6⟩
            have HB6 : Hid (Below w3.heap.size w3 w6) := HB5.out.trans (hA6.2.1.mono HB5.out.size)
            have HA6 := Lib.hid hA6
            have HE6 := Lib.hid hE6
            have HH6 := Lib.hid hh6
            have HRS6 := Lib.hid (hA6.1.rd okLL)
            obtain ⟨ss3, hA3, hE3, hh3⟩ := HN3.out
            have HA3 := Lib.hid (hA3.below HB6.out)
            have HE3 := Lib.hid (hE3.kept (w' := w6) HB6.out.size fun k _ hk _ => HB6.out.block k (by omega))
            have HSL : Hid (ss3.length + ss6.length ≤ 1048576) := by have h1 := HLS.out; have h2 := hE3.1; have h3 := hE6.1; unfold Hid; omega
            have HH3 : Hid (hi ≤ w5.heap.size ∧ hi ≤ w6.heap.size ∧ w.heap.size ≤ w5.heap.size ∧ ∀ g, v.ownBlock = some g → g < w5.heap.size) := ⟨Nat.le_trans hh3 HB5.out.size, Nat.le_trans hh3 HB6.out.size, Nat.le_trans hA3.2.1.size HB5.out.size, fun g hg => Nat.lt_of_lt_of_le (hA3.lt g hg).2 HB5.out.size⟩
            clear hA6 hE6 hh6 hA3 hE3 hh3
            refine hK.out _ _ (by first | with_reducible exact LkS.of2 HT3.out HPB.out HB3w.out HBA.out | with_reducible exact LkS.of2 HT3.out HPB.out HB3w.out HBE.out | with_reducible exact LkS.of2 HT3.out HPB.out HB3w.out HBB2.out | with_reducible exact LkS.of2 HT3.out HPB.out HB3w.out HBC.out | with_reducible exact LkS.of2 HT3.out HPB.out HB3w.out HB4.out | with_reducible exact LkS.of2 HT3.out HPB.out HB3w.out HB4E.out | with_reducible exact LkS.of2 HT3.out HPB.out HB3w.out HB5.out | with_reducible exact LkS.of2 HT3.out HPB.out HB3w.out HB6.out | with_reducible exact LkS.of HT3.out HPB.out HB7.out) (fun hHeld => ?_)
            clear hK K
            try simp only [Act.put, List.setIfInBounds_toArray, List.set_cons_zero, List.set_cons_succ]
            refine wpAnyH_ready (rs := [18]) (by kernel_rfl) (by simp) ?_
            refine AllReadyH.cons (o := ⟨_, _, _, _, _, _⟩) rfl (fun K hK => ?_) AllReadyH.nil
            refine step_pushSrcF okLL (by rfl) _ _ (by rfl) HA3.out (by rfl) ss6 _ _ HRS6.out (by rfl) (by have := HSL.out; omega) ?_
            intro v7 w7 HA7 HG7
            have HN7 : Hid (NRel (kdF elLink) eLL w w.heap.size w.heap.size w7 w7.heap.size v7 (ys ++ sub)) := by
              have h3 := HH3.out
              exact NRel.append HE3.out h3.2.1 HE6.out h3.2.2.1 h3.1 HH6.out (fun g hg => .inl (h3.2.2.2 g hg)) HA7 HG7
            have HB7 : Hid (Below w.heap.size w w7) := HN7.out.big'
            refine hK.out _ _ (by first | with_reducible exact LkS.of2 HT3.out HPB.out HB3w.out HBA.out | with_reducible exact LkS.of2 HT3.out HPB.out HB3w.out HBE.out | with_reducible exact LkS.of2 HT3.out HPB.out HB3w.out HBB2.out | with_reducible exact LkS.of2 HT3.out HPB.out HB3w.out HBC.out | with_reducible exact LkS.of2 HT3.out HPB.out HB3w.out HB4.out | with_reducible exact LkS.of2 HT3.out HPB.out HB3w.out HB4E.out | with_reducible exact LkS.of2 HT3.out HPB.out HB3w.out HB5.out | with_reducible exact LkS.of2 HT3.out HPB.out HB3w.out HB6.out | with_reducible exact LkS.of HT3.out HPB.out HB7.out) (fun hHeld => ?_)
            clear hK K
            try simp only [Act.put, List.setIfInBounds_toArray, List.set_cons_zero, List.set_cons_succ]
            refine wpAnyH_take (i := 19) (oi := ⟨_, _, _, _, _, _⟩) (v := ?vap13609q16n19) rfl (by kernel_rfl) (by kernel_rfl) (by kernel_rfl) (fun _ _ _ h => h) (Or.inl ⟨by rfl, ?hap13609q16n19⟩) (by assumption) ?_
            case hap13609q16n19 => (intro w hSw; (try dsimp only at hSw); go_simp; try with_reducible rfl)
            try simp only [Act.put, List.setIfInBounds_toArray, List.set_cons_zero, List.set_cons_succ]
            refine wpAnyH_done (by kernel_rfl) ?_ _
            go_wp2_with fail
            go_roundw
            case rel => exact ⟨i + 1, _, _, _, by omega, by go_num, rfl, HN7, HQ1⟩
            case measure => simp [intOf]; omega
          case cp13609q15n12 =>
            go_simp
            refine hK.out _ _ (by first | with_reducible exact LkS.of2 HT3.out HPB.out HB3w.out HBA.out | with_reducible exact LkS.of2 HT3.out HPB.out HB3w.out HBE.out | with_reducible exact LkS.of2 HT3.out HPB.out HB3w.out HBB2.out | with_reducible exact LkS.of2 HT3.out HPB.out HB3w.out HBC.out | with_reducible exact LkS.of2 HT3.out HPB.out HB3w.out HB4.out | with_reducible exact LkS.of2 HT3.out HPB.out HB3w.out HB4E.out | with_reducible exact LkS.of2 HT3.out HPB.out HB3w.out HB5.out | with_reducible exact LkS.of2 HT3.out HPB.out HB3w.out HB6.out | with_reducible exact LkS.of HT3.out HPB.out HB7.out) (fun hHeld => ?_)
            clear hK K
            try simp only [Act.put, List.setIfInBounds_toArray, List.set_cons_zero, List.set_cons_succ]
            refine wpAnyH_ready (rs := [7]) (by kernel_rfl) (by simp) ?_
            refine AllReadyH.cons (o := ⟨_, _, _, _, _, _⟩) rfl (fun K hK => ?_) AllReadyH.nil
            refine step_pushSrcF okLink (by rfl) _ _ (by rfl) (by first | with_reducible exact HAA.out | with_reducible exact HAB2.out | with_reducible exact HAC.out) (by rfl) hd _ _ (by first | with_reducible exact HRA.out | with_reducible exact HRB.out | with_reducible exact HRC.out) (by rfl) (by simp; omega) ?_
            intro u4 w4 HA4 HG4
            rw [List.nil_append] at HA4
            obtain ⟨A4, k4, hu4, _⟩ := HA4.out.1.rd okLink
            subst hu4
            have HB4 : Hid (Below w3.heap.size w3 w4) := HA4.out.2.1
            have HB4E : Hid (Below w3.heap.size w3 (w4.alloc (.cells #[.int .i64 x, .int .i64 y, .bool z] 110))) := HB4.out.alloc HB4.out.size _
            have HA4E : Hid (Acc elLink w3 w3.heap.size (w4.alloc (.cells #[.int .i64 x, .int .i64 y, .bool z] 110)) (.slice A4 hd.length k4) hd) := HA4.out.below ((Below.refl _ _).alloc (Nat.le_refl _) _)
            have HX4A : Hid (RdF elLink (w4.alloc (.cells #[.int .i64 x, .int .i64 y, .bool z] 110)) (w4.alloc (.cells #[.int .i64 x, .int .i64 y, .bool z] 110)).heap.size (.slice (some ⟨w4.heap.size, 0, none⟩) 1 1) [(x, y, z)]) := rdF_one rfl (heap_alloc_new w4 _) rfl
            first
              | (with_reducible (have hx9 := HKB.out _ _ HG4.out))
              | (with_reducible (have hx9 := HKC.out _ _ HG4.out))
              | skip
            try (have HX4B := Lib.hid (rdF_one (E := elLink) (y := (x, y, z)) rfl hx9 rfl))
            refine hK.out _ _ (by first | with_reducible exact LkS.of2 HT3.out HPB.out HB3w.out HBA.out | with_reducible exact LkS.of2 HT3.out HPB.out HB3w.out HBE.out | with_reducible exact LkS.of2 HT3.out HPB.out HB3w.out HBB2.out | with_reducible exact LkS.of2 HT3.out HPB.out HB3w.out HBC.out | with_reducible exact LkS.of2 HT3.out HPB.out HB3w.out HB4.out | with_reducible exact LkS.of2 HT3.out HPB.out HB3w.out HB4E.out | with_reducible exact LkS.of2 HT3.out HPB.out HB3w.out HB5.out | with_reducible exact LkS.of2 HT3.out HPB.out HB3w.out HB6.out | with_reducible exact LkS.of HT3.out HPB.out HB7.out) (fun hHeld => ?_)
            clear hK K
            try simp only [Act.put, List.setIfInBounds_toArray, List.set_cons_zero, List.set_cons_succ]
            refine wpAnyH_ready (rs := [13]) (by kernel_rfl) (by simp) ?_
            refine AllReadyH.cons (o := ⟨_, _, _, _, _, _⟩) rfl (fun K hK => ?_) AllReadyH.nil
            refine step_pushSrcF okLink (by rfl) _ _ (by rfl) (by first | with_reducible exact HA4.out | with_reducible exact HA4E.out) (by rfl) [(x, y, z)] _ _ (by first | with_reducible exact HX4A.out | with_reducible exact HX4B.out) (by rfl) (by simp; omega) ?_
            intro u5 w5 HA5 HG5
            obtain ⟨A5, k5, hu5, _⟩ := HA5.out.1.rd okLink
            rw [show (hd ++ [((x, y, z) : Lk)]).length = hd.length + 1 by simp] at hu5
            subst hu5
            have HB5 : Hid (Below w3.heap.size w3 w5) := HA5.out.2.1
            refine hK.out _ _ (by first | with_reducible exact LkS.of2 HT3.out HPB.out HB3w.out HBA.out | with_reducible exact LkS.of2 HT3.out HPB.out HB3w.out HBE.out | with_reducible exact LkS.of2 HT3.out HPB.out HB3w.out HBB2.out | with_reducible exact LkS.of2 HT3.out HPB.out HB3w.out HBC.out | with_reducible exact LkS.of2 HT3.out HPB.out HB3w.out HB4.out | with_reducible exact LkS.of2 HT3.out HPB.out HB3w.out HB4E.out | with_reducible exact LkS.of2 HT3.out HPB.out HB3w.out HB5.out | with_reducible exact LkS.of2 HT3.out HPB.out HB3w.out HB6.out | with_reducible exact LkS.of HT3.out HPB.out HB7.out) (fun hHeld => ?_)
            clear hK K
            try simp only [Act.put, List.setIfInBounds_toArray, List.set_cons_zero, List.set_cons_succ]
            refine wpAnyH_ready (rs := [17]) (by kernel_rfl) (by simp) ?_
            refine AllReadyH.cons (o := ⟨_, _, _, _, _, _⟩) rfl (fun K hK => ?_) AllReadyH.nil
            go_simp
            go_at_call 104
            refine (HI2.out w5 w5.heap.size _ _ _ ((HRD.out.below HB5.out).more HB5.out.size) (HA5.out.1.rd okLink) ((HRG3.out.below HB5.out).more HB5.out.size) (Nat.le_refl _)).mono ?_
            rintro e w6 ⟨v6, hi6, rfl, ss6, hA6, hE6, hh6⟩
            have HB6 : Hid (Below w3.heap.size w3 w6) := HB5.out.trans (hA6.2.1.mono HB5.out.size)
            have HA6 := Lib.hid hA6
            have HE6 := Lib.hid hE6
            have HH6 := Lib.hid hh6
            have HRS6 := Lib.hid (hA6.1.rd okLL)
            obtain ⟨ss3, hA3, hE3, hh3⟩ := HN3.out
            have HA3 := Lib.hid (hA3.below HB6.out)
            have HE3 := Lib.hid (hE3.kept (w' := w6) HB6.out.size fun k _ hk _ => HB6.out.block k (by omega))
            have HSL : Hid (ss3.length + ss6.length ≤ 1048576) := by have h1 := HLS.out; have h2 := hE3.1; have h3 := hE6.1; unfold Hid; omega
            have HH3 : Hid (hi ≤ w5.heap.size ∧ hi ≤ w6.heap.size ∧ w.heap.size ≤ w5.heap.size ∧ ∀ g, v.ownBlock = some g → g < w5.heap.size) := ⟨Nat.le_trans hh3 HB5.out.size, Nat.le_trans hh3 HB6.out.size, Nat.le_trans hA3.2.1.size HB5.out.size, fun g hg => Nat.lt_of_lt_of_le (hA3.lt g hg).2 HB5.out.size⟩
            clear hA6 hE6 hh6 hA3 hE3 hh3
            refine hK.out _ _ (by first | with_reducible exact LkS.of2 HT3.out HPB.out HB3w.out HBA.out | with_reducible exact LkS.of2 HT3.out HPB.out HB3w.out HBE.out | with_reducible exact LkS.of2 HT3.out HPB.out HB3w.out HBB2.out | with_reducible exact LkS.of2 HT3.out HPB.out HB3w.out HBC.out | with_reducible exact LkS.of2 HT3.out HPB.out HB3w.out HB4.out | with_reducible exact LkS.of2 HT3.out HPB.out HB3w.out HB4E.out | with_reducible exact LkS.of2 HT3.out HPB.out HB3w.out HB5.out | with_reducible exact LkS.of2 HT3.out HPB.out HB3w.out HB6.out | with_reducible exact LkS.of HT3.out HPB.out HB7.out) (fun hHeld => ?_)
            clear hK K
            try simp only [Act.put, List.setIfInBounds_toArray, List.set_cons_zero, List.set_cons_succ]
            refine wpAnyH_ready (rs := [18]) (by kernel_rfl) (by simp) ?_
            refine AllReadyH.cons (o := ⟨_, _, _, _, _, _⟩) rfl (fun K hK => ?_) AllReadyH.nil
            refine step_pushSrcF okLL (by rfl) _ _ (by rfl) HA3.out (by rfl) ss6 _ _ HRS6.out (by rfl) (by have := HSL.out; omega) ?_
            intro v7 w7 HA7 HG7
            have HN7 : Hid (NRel (kdF elLink) eLL w w.heap.size w.heap.size w7 w7.heap.size v7 (ys ++ sub)) := by
              have h3 := HH3.out
              exact NRel.append HE3.out h3.2.1 HE6.out h3.2.2.1 h3.1 HH6.out (fun g hg => .inl (h3.2.2.2 g hg)) HA7 HG7
            have HB7 : Hid (Below w.heap.size w w7) := HN7.out.big'
            refine hK.out _ _ (by first | with_reducible exact LkS.of2 HT3.out HPB.out HB3w.out HBA.out | with_reducible exact LkS.of2 HT3.out HPB.out HB3w.out HBE.out | with_reducible exact LkS.of2 HT3.out HPB.out HB3w.out HBB2.out | with_reducible exact LkS.of2 HT3.out HPB.out HB3w.out HBC.out | with_reducible exact LkS.of2 HT3.out HPB.out HB3w.out HB4.out | with_reducible exact LkS.of2 HT3.out HPB.out HB3w.out HB4E.out | with_reducible exact LkS.of2 HT3.out HPB.out HB3w.out HB5.out | with_reducible exact LkS.of2 HT3.out HPB.out HB3w.out HB6.out | with_reducible exact LkS.of HT3.out HPB.out HB7.out) (fun hHeld => ?_)
            clear hK K
            try simp only [Act.put, List.setIfInBounds_toArray, List.set_cons_zero, List.set_cons_succ]
            refine wpAnyH_take (i := 19) (oi := ⟨_, _, _, _, _, _⟩) (v := ?vap13609q17n19) rfl (by kernel_rfl) (by kernel_rfl) (by kernel_rfl) (fun _ _ _ h => h) (Or.inl ⟨by rfl, ?hap13609q17n19⟩) (by assumption) ?_
            case hap13609q17n19 => (intro w hSw; (try dsimp only at hSw); go_simp; try with_reducible rfl)
            try simp only [Act.put, List.setIfInBounds_toArray, List.set_cons_zero, List.set_cons_succ]
            refine wpAnyH_done (by kernel_rfl) ?_ _
            go_wp2_with fail
            go_roundw
            case rel => exact ⟨i + 1, _, _, _, by omega, by go_num, rfl, HN7, HQ1⟩
            case measure => simp [intOf]; omega
        case cp13609q14n12 =>
          go_simp
          refine hK.out _ _ (by first | with_reducible exact LkS.of2 HT3.out HPB.out HB3w.out HBA.out | with_reducible exact LkS.of2 HT3.out HPB.out HB3w.out HBE.out | with_reducible exact LkS.of2 HT3.out HPB.out HB3w.out HBB2.out | with_reducible exact LkS.of2 HT3.out HPB.out HB3w.out HBC.out | with_reducible exact LkS.of2 HT3.out HPB.out HB3w.out HB4.out | with_reducible exact LkS.of2 HT3.out HPB.out HB3w.out HB4E.out | with_reducible exact LkS.of2 HT3.out HPB.out HB3w.out HB5.out | with_reducible exact LkS.of2 HT3.out HPB.out HB3w.out HB6.out | with_reducible exact LkS.of HT3.out HPB.out HB7.out) (fun hHeld => ?_)
          clear hK K
          try simp only [Act.put, List.setIfInBounds_toArray, List.set_cons_zero, List.set_cons_succ]
          refine wpAnyH_ready (rs := [5]) (by kernel_rfl) (by simp) ?_
          refine AllReadyH.cons (o := ⟨_, _, _, _, _, _⟩) rfl (fun K hK => ?_) AllReadyH.nil
          go_simp
          refine hK.out _ _ (by first | with_reducible exact LkS.of2 HT3.out HPB.out HB3w.out HBA.out | with_reducible exact LkS.of2 HT3.out HPB.out HB3w.out HBE.out | with_reducible exact LkS.of2 HT3.out HPB.out HB3w.out HBB2.out | with_reducible exact LkS.of2 HT3.out HPB.out HB3w.out HBC.out | with_reducible exact LkS.of2 HT3.out HPB.out HB3w.out HB4.out | with_reducible exact LkS.of2 HT3.out HPB.out HB3w.out HB4E.out | with_reducible exact LkS.of2 HT3.out HPB.out HB3w.out HB5.out | with_reducible exact LkS.of2 HT3.out HPB.out HB3w.out HB6.out | with_reducible exact LkS.of HT3.out HPB.out HB7.out) (fun hHeld => ?_)
          clear hK K
          try simp only [Act.put, List.setIfInBounds_toArray, List.set_cons_zero, List.set_cons_succ]
          refine wpAnyH_ready (rs := [7]) (by kernel_rfl) (by simp) ?_
          refine AllReadyH.cons (o := ⟨_, _, _, _, _, _⟩) rfl (fun K hK => ?_) AllReadyH.nil
          refine step_pushSrcF okLink (by rfl) _ _ (by rfl) (by first | with_reducible exact HAA.out | with_reducible exact HAB2.out | with_reducible exact HAC.out) (by rfl) hd _ _ (by first | with_reducible exact HRA.out | with_reducible exact HRB.out | with_reducible exact HRC.out) (by rfl) (by simp; omega) ?_
          intro u4 w4 HA4 HG4
          rw [List.nil_append] at HA4
          obtain ⟨A4, k4, hu4, _⟩ := HA4.out.1.rd okLink
          subst hu4
          have HB4 : Hid (Below w3.heap.size w3 w4) := HA4.out.2.1
          have HB4E : Hid (Below w3.heap.size w3 (w4.alloc (.cells #[.int .i64 x, .int .i64 y, .bool z] 110))) := HB4.out.alloc HB4.out.size _
          have HA4E : Hid (Acc elLink w3 w3.heap.size (w4.alloc (.cells #[.int .i64 x, .int .i64 y, .bool z] 110)) (.slice A4 hd.length k4) hd) := HA4.out.below ((Below.refl _ _).alloc (Nat.le_refl _) _)
          have HX4A : Hid (RdF elLink (w4.alloc (.cells #[.int .i64 x, .int .i64 y, .bool z] 110)) (w4.alloc (.cells #[.int .i64 x, .int .i64 y, .bool z] 110)).heap.size (.slice (some ⟨w4.heap.size, 0, none⟩) 1 1) [(x, y, z)]) := rdF_one rfl (heap_alloc_new w4 _) rfl
          first
            | (with_reducible (have hx9 := HKB.out _ _ HG4.out))
            | (with_reducible (have hx9 := HKC.out _ _ HG4.out))
            | skip
          try (have HX4B := Lib.hid (rdF_one (E := elLink) (y := (x, y, z)) rfl hx9 rfl))
          refine hK.out _ _ (by first | with_reducible exact LkS.of2 HT3.out HPB.out HB3w.out HBA.out | with_reducible exact LkS.of2 HT3.out HPB.out HB3w.out HBE.out | with_reducible exact LkS.of2 HT3.out HPB.out HB3w.out HBB2.out | with_reducible exact LkS.of2 HT3.out HPB.out HB3w.out HBC.out | with_reducible exact LkS.of2 HT3.out HPB.out HB3w.out HB4.out | with_reducible exact LkS.of2 HT3.out HPB.out HB3w.out HB4E.out | with_reducible exact LkS.of2 HT3.out HPB.out HB3w.out HB5.out | with_reducible exact LkS.of2 HT3.out HPB.out HB3w.out HB6.out | with_reducible exact LkS.of HT3.out HPB.out HB7.out) (fun hHeld => ?_)
          clear hK K
          try simp only [Act.put, List.setIfInBounds_toArray, List.set_cons_zero, List.set_cons_succ]
          refine wpAnyH_ready (rs := [13]) (by kernel_rfl) (by simp) ?_
          refine AllReadyH.cons (o := ⟨_, _, _, _, _, _⟩) rfl (fun K hK => ?_) AllReadyH.nil
          refine step_pushSrcF okLink (by rfl) _ _ (by rfl) (by first | with_reducible exact HA4.out | with_reducible exact HA4E.out) (by rfl) [(x, y, z)] _ _ (by first | with_reducible exact HX4A.out | with_reducible exact HX4B.out) (by rfl) (by simp; omega) ?_
          intro u5 w5 HA5 HG5
          obtain ⟨A5, k5, hu5, _⟩ := HA5.out.1.rd okLink
          rw [show (hd ++ [((x, y, z) : Lk)]).length = hd.length + 1 by simp] at hu5
          subst hu5
          have HB5 : Hid (Below w3.heap.size w3 w5) := HA5.out.2.1
          refine hK.out _ _ (by first | with_reducible exact LkS.of2 HT3.out HPB.out HB3w.out HBA.out | with_reducible exact LkS.of2 HT3.out HPB.out HB3w.out HBE.out | with_reducible exact LkS.of2 HT3.out HPB.out HB3w.out HBB2.out | with_reducible exact LkS.of2 HT3.out HPB.out HB3w.out HBC.out | with_reducible exact LkS.of2 HT3.out HPB.out HB3w.out HB4.out | with_reducible exact LkS.of2 HT3.out HPB.out HB3w.out HB4E.out | with_reducible exact LkS.of2 HT3.out HPB.out HB3w.out HB5.out | with_reducible exact LkS.of2 HT3.out HPB.out HB3w.out HB6.out | with_reducible exact LkS.of HT3.out HPB.out HB7.out) (fun hHeld => ?_)
          clear hK K
          try simp only [Act.put, List.setIfInBounds_toArray, List.set_cons_zero, List.set_cons_succ]
          refine wpAnyH_ready (rs := [17]) (by kernel_rfl) (by simp) ?_
          refine AllReadyH.cons (o := ⟨_, _, _, _, _, _⟩) rfl (fun K hK => ?_) AllReadyH.nil
          go_simp
          go_at_call 104
          refine (HI2.out w5 w5.heap.size _ _ _ ((HRD.out.below HB5.out).more HB5.out.size) (HA5.out.1.rd okLink) ((HRG3.out.below HB5.out).more HB5.out.size) (Nat.le_refl _)).mono ?_
          rintro e w6 ⟨v6, hi6, rfl, ss6, hA6, hE6, hh6⟩
          have HB6 : Hid (Below w3.heap.size w3 w6) := HB5.out.trans (hA6.2.1.mono HB5.out.size)
          have HA6 := Lib.hid hA6
          have HE6 := Lib.hid hE6
          have HH6 := Lib.hid hh6
          have HRS6 := Lib.hid (hA6.1.rd okLL)
          obtain ⟨ss3, hA3, hE3, hh3⟩ := HN3.out
          have HA3 := Lib.hid (hA3.below HB6.out)
          have HE3 := Lib.hid (hE3.kept (w' := w6) HB6.out.size fun k _ hk _ => HB6.out.block k (by omega))
          have HSL : Hid (ss3.length + ss6.length ≤ 1048576) := by have h1 := HLS.out; have h2 := hE3.1; have h3 := hE6.1; unfold Hid; omega
          have HH3 : Hid (hi ≤ w5.heap.size ∧ hi ≤ w6.heap.size ∧ w.heap.size ≤ w5.heap.size ∧ ∀ g, v.ownBlock = some g → g < w5.heap.size) := ⟨Nat.le_trans hh3 HB5.out.size, Nat.le_trans hh3 HB6.out.size, Nat.le_trans hA3.2.1.size HB5.out.size, fun g hg => Nat.lt_of_lt_of_le (hA3.lt g hg).2 HB5.out.size⟩
          clear hA6 hE6 hh6 hA3 hE3 hh3
          refine hK.out _ _ (by first | with_reducible exact LkS.of2 HT3.out HPB.out HB3w.out HBA.out | with_reducible exact LkS.of2 HT3.out HPB.out HB3w.out HBE.out | with_reducible exact LkS.of2 HT3.out HPB.out HB3w.out HBB2.out | with_reducible exact LkS.of2 HT3.out HPB.out HB3w.out HBC.out | with_reducible exact LkS.of2 HT3.out HPB.out HB3w.out HB4.out | with_reducible exact LkS.of2 HT3.out HPB.out HB3w.out HB4E.out | with_reducible exact LkS.of2 HT3.out HPB.out HB3w.out HB5.out | with_reducible exact LkS.of2 HT3.out HPB.out HB3w.out HB6.out | with_reducible exact LkS.of HT3.out HPB.out HB7.out) (fun hHeld => ?_)
          clear hK K
          try simp only [Act.put, List.setIfInBounds_toArray, List.set_cons_zero, List.set_cons_succ]
          refine wpAnyH_ready (rs := [18]) (by kernel_rfl) (by simp) ?_
          refine AllReadyH.cons (o := ⟨_, _, _, _, _, _⟩) rfl (fun K hK => ?_) AllReadyH.nil
          refine step_pushSrcF okLL (by rfl) _ _ (by rfl) HA3.out (by rfl) ss6 _ _ HRS6.out (by rfl) (by have := HSL.out; omega) ?_
          intro v7 w7 HA7 HG7
          have HN7 : Hid (NRel (kdF elLink) eLL w w.heap.size w.heap.size w7 w7.heap.size v7 (ys ++ sub)) := by
            have h3 := HH3.out
            exact NRel.append HE3.out h3.2.1 HE6.out h3.2.2.1 h3.1 HH6.out (fun g hg => .inl (h3.2.2.2 g hg)) HA7 HG7
          have HB7 : Hid (Below w.heap.size w w7) := HN7.out.big'
          refine hK.out _ _ (by first | with_reducible exact LkS.of2 HT3.out HPB.out HB3w.out HBA.out | with_reducible exact LkS.of2 HT3.out HPB.out HB3w.out HBE.out | with_reducible exact LkS.of2 HT3.out HPB.out HB3w.out HBB2.out | with_reducible exact LkS.of2 HT3.out HPB.out HB3w.out HBC.out | with_reducible exact LkS.of2 HT3.out HPB.out HB3w.out HB4.out | with_reducible exact LkS.of2 HT3.out HPB.out HB3w.out HB4E.out | with_reducible exact LkS.of2 HT3.out HPB.out HB3w.out HB5.out | with_reducible exact LkS.of2 HT3.out HPB.out HB3w.out HB6.out | with_reducible exact LkS.of HT3.out HPB.out HB7.out) (fun hHeld => ?_)
          clear hK K
          try simp only [Act.put, List.setIfInBounds_toArray, List.set_cons_zero, List.set_cons_succ]
          refine wpAnyH_take (i := 19) (oi := ⟨_, _, _, _, _, _⟩) (v := ?vap13609q18n19) rfl (by kernel_rfl) (by kernel_rfl) (by kernel_rfl) (fun _ _ _ h => h) (Or.inl ⟨by rfl, ?hap13609q18n19⟩) (by assumption) ?_
          case hap13609q18n19 => (intro w hSw; (try dsimp only at hSw); go_simp; try with_reducible rfl)
          try simp only [Act.put, List.setIfInBounds_toArray, List.set_cons_zero, List.set_cons_succ]
          refine wpAnyH_done (by kernel_rfl) ?_ _
          go_wp2_with fail
          go_roundw
          case rel => exact ⟨i + 1, _, _, _, by omega, by go_num, rfl, HN7, HQ1⟩
          case measure => simp [intOf]; omega
    · have ht : decide ((i : Int) < (all.length : Int)) = false := by simp only [decide_eq_false_iff_not]; omega
      have HF : Hid (ys = TT) := by
        unfold Hid
        rw [← HQ.out, List.drop_of_length_le (by omega)]
        simp [searchZ]
      go_wp2_with fail
      go_ret
      rw [← HF.out]
      exact ⟨_, _, rfl, HN.out⟩
end Go.Proofs.Ytpejphholomenaa
