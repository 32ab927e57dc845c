/- What the claim's walk rests on: parts TxtS, ClsI, Til, TilM, SymL. -/
import Derived.Test.YtehnbalbpfmijaaGreatDoorKb9
import Derived.Test.YtehnbalbpfmijaaGreatDoorKb1
import Derived.Test.YtehnbalbpfmijaaGreatDoorKb7
import Derived.Test.YtehnbalbpfmijaaGreatDoorKb6
import Derived.BigQuiet
namespace Go.Proofs.YtehnbalbpfmijaaGreatDoor
open Go.RowKit
set_option linter.unusedVariables false

theorem FormatInt_small (i : Nat) (hi : i < 100) (w : World) :
    Calls Tryz.prog 74 #[.int .i64 (i : Int)] w fun e w' => e = .returned (.string ⟨(Lib.decDigits i).toArray⟩) ∧ w' = w := by
  have HI : Hid (Calls Tryz.prog 89 #[.int .i64 (i : Int)] w fun e w' => e = .returned (.string ⟨(Lib.decDigits i).toArray⟩) ∧ w' = w) := Any.strconv_Itoa_small Tryz.lays171 i hi w
  go_enter Tryz.func74, Tryz.ntmps74
  go_wp2_with fail
  refine HI.out.mono ?_
  rintro e w' ⟨rfl, rfl⟩
  go_wp2_with fail
  go_ret
  exact ⟨rfl, rfl⟩

theorem digit (i : Nat) (hi : i < 10) : Lib.decDigits i = [UInt8.ofNat (48 + i)] := by
  unfold Lib.decDigits
  rw [dif_pos hi]

set_option maxRecDepth 100000 in
set_option maxHeartbeats 2000000 in
theorem DominoText_ok (a b : Nat) (d : Bool) (ha : a ≤ 7) (hb : b ≤ 7) (hd : domB (a : Int) (b : Int) d = true) (w : World) :
    Calls Tryz.prog 54 #[triV (a : Int) (b : Int) d] w fun e w' => e = .returned (.string ⟨(fourB ((a : Int), (b : Int), d)).toArray⟩) ∧ Below w.heap.size w w' := by
  have HOK := Lib.hid (fun V => DominoOk_any (a : Int) (b : Int) d V)
  have HFA : Hid (∀ V, Calls Tryz.prog 74 #[.int .i64 (a : Int)] V fun e w' => e = .returned (.string ⟨#[UInt8.ofNat (48 + a)]⟩) ∧ w' = V) := fun V => by
    have := FormatInt_small a (by omega) V
    rwa [digit a (by omega)] at this
  have HFB : Hid (∀ V, Calls Tryz.prog 74 #[.int .i64 (b : Int)] V fun e w' => e = .returned (.string ⟨#[UInt8.ofNat (48 + b)]⟩) ∧ w' = V) := fun V => by
    have := FormatInt_small b (by omega) V
    rwa [digit b (by omega)] at this
  have HR : Hid (fourB ((a : Int), (b : Int), d) = [UInt8.ofNat (48 + a), 44, UInt8.ofNat (48 + b), if d then 100 else 114]) := by unfold Hid fourB; simp
  rw [HR.out]
  generalize UInt8.ofNat (48 + a) = p at *
  generalize UInt8.ofNat (48 + b) = q at *
  clear HR
  cases d
  · go_enter Tryz.func54, Tryz.ntmps54
    go_wp2_with fail
    obtain ⟨V0, hV0, k9, hbV0⟩ := one_alloc w (.cells #[.int .i64 (a : Int), .int .i64 (b : Int), .bool false] 51)
    rw [← hV0]
    have f0 : V0.cell? ⟨w.heap.size, 0, none⟩ = some (.int .i64 (a : Int)) := by rw [blk_cell k9]; rfl
    have f1 : V0.cell? ⟨w.heap.size, 1, none⟩ = some (.int .i64 (b : Int)) := by rw [blk_cell k9]; rfl
    have f2 : V0.cell? ⟨w.heap.size, 2, none⟩ = some (.bool false) := by rw [blk_cell k9]; rfl
    have HL := Lib.hid (lt_of_block k9)
    have HB0 := Lib.hid hbV0
    clear hV0 k9 hbV0
    refine (HOK.out _).mono ?_
    rintro e w1 ⟨rfl, hb1⟩
    rw [hd]
    have g0 := (hb1.cell (p := ⟨w.heap.size, 0, none⟩) HL.out).trans f0
    have g1 := (hb1.cell (p := ⟨w.heap.size, 1, none⟩) HL.out).trans f1
    have g2 := (hb1.cell (p := ⟨w.heap.size, 2, none⟩) HL.out).trans f2
    have HB1 := Lib.hid (HB0.out.trans (hb1.mono HB0.out.size))
    clear f0 f1 f2 hb1
    go_wp2_with fail
    go_quiet (first
      | (go_at_call 74; exact Calls.quiet_of_same (HFA.out _))
      | (go_at_call 74; exact Calls.quiet_of_same (HFB.out _)))
    go_wp2_with fail
    go_ret
    exact ⟨rfl, HB1.out.trans ((Drawn.below (w := w1) (w' := w1.drewN _) ⟨_, rfl⟩ w1.heap.size).mono HB1.out.size)⟩
  · go_enter Tryz.func54, Tryz.ntmps54
    go_wp2_with fail
    obtain ⟨V0, hV0, k9, hbV0⟩ := one_alloc w (.cells #[.int .i64 (a : Int), .int .i64 (b : Int), .bool true] 51)
    rw [← hV0]
    have f0 : V0.cell? ⟨w.heap.size, 0, none⟩ = some (.int .i64 (a : Int)) := by rw [blk_cell k9]; rfl
    have f1 : V0.cell? ⟨w.heap.size, 1, none⟩ = some (.int .i64 (b : Int)) := by rw [blk_cell k9]; rfl
    have f2 : V0.cell? ⟨w.heap.size, 2, none⟩ = some (.bool true) := by rw [blk_cell k9]; rfl
    have HL := Lib.hid (lt_of_block k9)
    have HB0 := Lib.hid hbV0
    clear hV0 k9 hbV0
    refine (HOK.out _).mono ?_
    rintro e w1 ⟨rfl, hb1⟩
    rw [hd]
    have g0 := (hb1.cell (p := ⟨w.heap.size, 0, none⟩) HL.out).trans f0
    have g1 := (hb1.cell (p := ⟨w.heap.size, 1, none⟩) HL.out).trans f1
    have g2 := (hb1.cell (p := ⟨w.heap.size, 2, none⟩) HL.out).trans f2
    have HB1 := Lib.hid (HB0.out.trans (hb1.mono HB0.out.size))
    clear f0 f1 f2 hb1
    go_wp2_with fail
    go_quiet (first
      | (go_at_call 74; exact Calls.quiet_of_same (HFA.out _))
      | (go_at_call 74; exact Calls.quiet_of_same (HFB.out _)))
    go_wp2_with fail
    go_ret
    exact ⟨rfl, HB1.out.trans ((Drawn.below (w := w1) (w' := w1.drewN _) ⟨_, rfl⟩ w1.heap.size).mono HB1.out.size)⟩

def fourT (l : Lk) : ByteArray := ⟨(fourB l).toArray⟩
theorem dAt_here (ls : List Lk) (k : Nat) (h : k < ls.length) : dAt ls k = ls[k] := by
  unfold dAt lx ly ld
  simp [h]
theorem four_list (l : Lk) : (fourT l).data.toList = fourB l := rfl
theorem map_four (ls : List Lk) : (ls.map fourT).map (fun b : ByteArray => b.data.toList) = ls.map fourB := by
  rw [List.map_map]; rfl
theorem dom_small {x y : Int} {d : Bool} (h : domB x y d = true) : ∃ a b : Nat, x = (a : Int) ∧ y = (b : Int) ∧ a ≤ 7 ∧ b ≤ 7 := by
  unfold domB at h
  rw [Bool.and_eq_true] at h
  have h1 := h.1
  unfold spotB at h1
  simp only [Bool.and_eq_true, inB_iff] at h1
  exact ⟨x.toNat, y.toNat, by omega, by omega, by omega, by omega⟩
set_option maxRecDepth 100000 in
set_option maxHeartbeats 2000000 in
theorem TilingText_ok (v : Value) (ls : List Lk) (B : Nat) (w : World) (h : RdF elDomino w B v ls) (hB : B ≤ w.heap.size) (hd : ls.all domL = true) (hn : ls.length ≤ 64) :
    Calls Tryz.prog 29 #[v] w fun e w' => e = .returned (.string ⟨(textZ ls).toArray⟩) ∧ Below w.heap.size w w' := by
  have HOK := Lib.hid (fun a b d V => DominoOk_any a b d V)
  have HDT : Hid (∀ k, k < ls.length → domB (lx ls k) (ly ls k) (ld ls k) = true ∧ ∀ V, Calls Tryz.prog 54 #[triV (lx ls k) (ly ls k) (ld ls k)] V fun e w' => e = .returned (.string (fourT (dAt ls k))) ∧ Below V.heap.size V w') := fun k hk => by
    have h1 : domL (dAt ls k) = true := List.all_eq_true.1 hd _ (by rw [dAt_here ls k hk]; exact List.getElem_mem hk)
    have h2 : domB (lx ls k) (ly ls k) (ld ls k) = true := h1
    refine ⟨h2, fun V => ?_⟩
    obtain ⟨a, b, ea, eb, ha, hb⟩ := dom_small h2
    have e : dAt ls k = ((a : Int), (b : Int), ld ls k) := by unfold dAt; rw [ea, eb]
    have := DominoText_ok a b (ld ls k) ha hb (by rw [← ea, ← eb]; exact h2) V
    rw [e, ea, eb]
    exact this
  have HTK : Hid (∀ k, k < ls.length → (ls.take (k + 1)).map fourT = (ls.take k).map fourT ++ [fourT (dAt ls k)]) := fun k hk => by
    rw [List.take_succ_eq_append_getElem hk, List.map_append, dAt_here ls k hk]; rfl
  have HLN : Hid (∀ k, k ≤ ls.length → ((ls.take k).map fourT).length = k) := fun k hk => by rw [List.length_map, List.length_take]; omega
  have HT0 : Hid ((ls.take 0).map fourT = []) := by unfold Hid; simp
  have HTE : Hid ((ls.take ls.length).map fourT = ls.map fourT) := by unfold Hid; rw [List.take_length]
  have HTX : Hid (textZ ls = Lib.join ((ls.map fourT).map (fun b : ByteArray => b.data.toList)) [32]) := by unfold Hid textZ; rw [map_four]
  have HTL := Lib.hid (text_len ls)
  obtain ⟨tz, HTZ⟩ : ∃ tz, Hid (textZ ls = tz) := ⟨_, rfl⟩
  rw [HTZ.out] at HTX HTL ⊢
  clear HTZ
  obtain ⟨tk, HTKE⟩ : ∃ tk : Nat → List ByteArray, Hid (tk = fun k => (ls.take k).map fourT) := ⟨_, rfl⟩
  have htk : ∀ k, (ls.take k).map fourT = tk k := fun k => by rw [HTKE.out]
  simp only [htk, Hid] at HTK HLN HT0 HTE
  replace HTK := Lib.hid HTK; replace HLN := Lib.hid HLN; replace HT0 := Lib.hid HT0; replace HTE := Lib.hid HTE
  clear htk HTKE
  have HV := Lib.hid h
  obtain ⟨A, c, rfl, g1, g2, G3⟩ := RdT.of (E := elDomino) rfl (fun _ => rfl) h
  unfold maxLen at g2
  have HJ := Lib.hid (fun (bk o c : Nat) (xs : List ByteArray) (W : World) hc hb hN hcap hlen => Any.strings_Join Tryz.lays156 Tryz.Builder_Extra_156 bk o c xs ⟨#[32]⟩ W hc hb hN hcap hlen)
  have HA0 : Hid (Acc elStr w w.heap.size (w.alloc (.cells #[] 9)) (.slice (some ⟨w.heap.size, 0, none⟩) 0 0) []) := Acc.start w
  clear h hd
  go_enter Tryz.func29, Tryz.ntmps29
  go_wp2_with fail
  go_loopw [3, 9] (fun o i wr => ∃ (k : Nat) (u : Value), k ≤ ls.length ∧ i = .int .i64 (k : Int) ∧ u = o ∧ Hid (Acc elStr w w.heap.size wr u (tk k))) (fun _ i _ => ls.length - (intOf i).toNat)
  case atStart => exact ⟨0, _, Nat.zero_le _, rfl, rfl, by rw [HT0.out]; exact HA0⟩
  case round =>
    obtain ⟨k, u, hk, rfl, rfl, HA⟩ := hrel
    have hml := HLN.out k hk
    obtain ⟨A1, ca, hv, q1, q2, _⟩ := HA.out.1.rd okStr
    rw [hml] at hv q1
    subst hv
    unfold maxLen at q2
    by_cases hlt : k < ls.length
    · have ht : decide ((k : Int) < (ls.length : Int)) = true := by simp only [decide_eq_true_eq]; omega
      obtain ⟨ad, rfl, hbl, hx, hy, hz⟩ := G3.out k hlt
      have hbl2 : (ad.add (k * 3)).block < w.heap.size := by rw [addBlock]; omega
      have hbw := HA.out.2.1
      have hx' := (hbw.cell (p := ad.add (k * 3)) hbl2).trans hx
      have hy' := (hbw.cell (p := ⟨(ad.add (k * 3)).block, (ad.add (k * 3)).off + 1, none⟩) hbl2).trans hy
      have hz' := (hbw.cell (p := ⟨(ad.add (k * 3)).block, (ad.add (k * 3)).off + 2, none⟩) hbl2).trans hz
      obtain ⟨hd, hdt⟩ := HDT.out k hlt
      have HDK := Lib.hid hdt
      have HTK1 := Lib.hid (HTK.out k hlt)
      have hk0 : (0 : Int) ≤ (k : Int) := by omega
      have hk1 : (k : Int) < (ls.length : Int) := by omega
      generalize lx ls k = x at *
      generalize ly ls k = y at *
      generalize ld ls k = d at *
      generalize fourT (dAt ls k) = tx at *
      clear hx hy hz hbw hdt
      go_wp2_with fail
      obtain ⟨V0, hV0, k9, hbV0⟩ := one_alloc wr (.cells #[.int .i64 x, .int .i64 y, .bool d] 51)
      rw [← hV0]
      have f0 : V0.cell? ⟨wr.heap.size, 0, none⟩ = some (.int .i64 x) := by rw [blk_cell k9]; rfl
      have f1 : V0.cell? ⟨wr.heap.size, 1, none⟩ = some (.int .i64 y) := by rw [blk_cell k9]; rfl
      have f2 : V0.cell? ⟨wr.heap.size, 2, none⟩ = some (.bool d) := by rw [blk_cell k9]; rfl
      have HL := Lib.hid (lt_of_block k9)
      have HAV := Lib.hid (HA.out.below hbV0)
      clear hV0 k9 hbV0 hx' hy' hz' HA
      refine (HOK.out _ _ _ _).mono ?_
      rintro e w3 ⟨rfl, hb3⟩
      rw [hd]
      have HA3 := Lib.hid (HAV.out.below hb3)
      have g0 := (hb3.cell (p := ⟨wr.heap.size, 0, none⟩) HL.out).trans f0
      have g1 := (hb3.cell (p := ⟨wr.heap.size, 1, none⟩) HL.out).trans f1
      have g2 := (hb3.cell (p := ⟨wr.heap.size, 2, none⟩) HL.out).trans f2
      clear f0 f1 f2 hb3 HAV
      go_wp2_with fail
      refine (HDK.out _).mono ?_
      rintro e w4 ⟨rfl, hb4⟩
      have HA4 := Lib.hid (HA3.out.below hb4)
      clear g0 g1 g2 hb4 HA3
      have hml2 : (tk k).length + 1 ≤ 1073741824 := by omega
      generalize tk k = ts at *
      go_wp2_with (at_builtin; refine wpList_push okStr rfl _ _ rfl HA4.out rfl tx _ rfl _ rfl (by simp) hml2 ?_; intro u5 w5 HA5 HG5)
      go_roundw
      case rel => exact ⟨k + 1, _, by omega, by go_num, rfl, by rw [HTK1.out]; exact HA5⟩
      case measure => simp [intOf]; omega
    · obtain rfl : k = ls.length := by omega
      have ht : decide ((ls.length : Int) < (ls.length : Int)) = false := by simp
      rw [HTE.out] at HA hml
      have HO9 : Hid (OwnF elStr wr w.heap.size (.slice A1 ls.length ca) (ls.map fourT)) := HA.out.1
      have HB9 := Lib.hid HA.out.2.1
      have HXL : Hid ((Lib.join ((ls.map fourT).map (fun b : ByteArray => b.data.toList)) [32]).length ≤ 140737488355328) := by
        unfold Hid; rw [← HTX.out]; exact Nat.le_trans HTL.out (by omega)
      by_cases h0 : ls.length = 0
      · have e0 : ls = [] := List.length_eq_zero_iff.1 h0
        have ez : tz = [] := by rw [HTX.out, e0]; rfl
        subst e0 ez
        have HJ0 := Lib.hid (Any.strings_Join_none Tryz.lays156 Tryz.Builder_Extra_156 A1 ca ⟨#[32]⟩ wr)
        clear HJ HO9 HXL HA
        go_wp2_with fail
        refine HJ0.out.mono ?_
        rintro e w' ⟨rfl, rfl⟩
        go_wp2_with fail
        go_ret
        exact ⟨rfl, HB9.out⟩
      · obtain ⟨g, cap, hv9, _, hg⟩ := World.ownsRow.form HO9.out (by rw [hml]; omega)
        rw [hml] at hv9
        simp only [Value.slice.injEq, true_and] at hv9
        obtain ⟨rfl, rfl⟩ := hv9
        have HJ1 := Lib.hid (HJ.out g 0 ca (ls.map fourT) wr (fun j x hj => by
          have hjl := (List.getElem?_eq_some_iff.1 hj).1
          have h1 := HO9.out
          unfold OwnF at h1
          rw [hml] at h1
          have h2 := World.ownsRow.cellAt h1 j (by rw [hml] at hjl; simp only [elStr]; omega)
          rw [Nat.zero_add, h2]
          have h3 := flat_get okStr.len (ls.map fourT) j 0 x hj (by decide)
          simpa [elStr] using h3) hg (by rw [hml]; omega) (by rw [hml]; exact q1) HXL.out)
        rw [hml, ← HTX.out] at HJ1
        clear HJ HO9 HXL HA
        go_wp2_with fail
        refine HJ1.out.mono ?_
        rintro e w' ⟨rfl, hb'⟩
        go_wp2_with fail
        go_ret
        exact ⟨rfl, HB9.out.trans (hb'.mono HB9.out.size)⟩
end Go.Proofs.YtehnbalbpfmijaaGreatDoor

namespace Go.Proofs.YtehnbalbpfmijaaGreatDoor
open Go.RowKit
set_option linter.unusedVariables false

theorem zeroB (w : World) : (zeroValue 4).run Tryz.prog w = .ok (.bool false) w := by kernel_rfl
abbrev Kn (w : World) (b n : Nat) (S : List (List UInt8)) : Prop := Knows Tryz.prog 9 4 w b n S
/-- What a round keeps: old cells, and the map. -/
def KRel (w w2 wr : World) (n : Nat) (S : List (List UInt8)) : Prop :=
  Below w.heap.size w wr ∧ w2.heap.size ≤ wr.heap.size ∧ (∀ p : Addr, p.block < w2.heap.size → wr.cell? p = w2.cell? p) ∧ Kn wr w.heap.size n S ∧ w.heap.size < w2.heap.size
theorem KRel.below {w w2 wr w' : World} {n : Nat} {S : List (List UInt8)} (h : KRel w w2 wr n S) (hb : Below wr.heap.size wr w') : KRel w w2 w' n S := by
  obtain ⟨h1, h2, h3, h4, h5⟩ := h
  exact ⟨h1.trans (hb.mono h1.size), Nat.le_trans h2 hb.size, fun p hp => (hb.cell (Nat.lt_of_lt_of_le hp h2)).trans (h3 p hp), h4.below hb h4.lt, h5⟩
theorem KRel.put {w w2 wr w' : World} {n n' : Nat} {S S' : List (List UInt8)} (h : KRel w w2 wr n S) (hk : Kn w' w.heap.size n' S') (hg : wr.grownBy w' (some w.heap.size)) : KRel w w2 w' n' S' := by
  obtain ⟨h1, h2, h3, h4, h5⟩ := h
  exact ⟨h1.grown hg h1.size fun k hk => by simp only [Option.some.injEq] at hk; omega, Nat.le_trans h2 hg.size, fun p hp => (h4.cells hk hg p (Nat.lt_of_lt_of_le hp h2)).trans (h3 p hp), hk, h5⟩
theorem KRel.more {w w2 wr : World} {n n' : Nat} {S : List (List UInt8)} (h : KRel w w2 wr n S) (hn : n ≤ n') : KRel w w2 wr n' S := ⟨h.1, h.2.1, h.2.2.1, h.2.2.2.1.mono hn, h.2.2.2.2⟩
theorem RdF.krel {w w2 wr : World} {n : Nat} {S : List (List UInt8)} {v : Value} {xs : List Lk} (h : RdF elDomino w2 w2.heap.size v xs) (hk : KRel w w2 wr n S) : RdF elDomino wr wr.heap.size v xs :=
  (h.keep fun p hp => hk.2.2.1 p hp).more hk.2.1
theorem img_all {s : Nat} (hs : s = 2 ∨ s = 4) {ls : List Lk} (h : ls ∈ allT s) : ls.all domL = true ∧ ls.length ≤ 8 := img_ok hs h (t := 0) (by omega) false

set_option maxRecDepth 100000 in
set_option maxHeartbeats 4000000 in
theorem CountClasses_yes2 (s : Nat) (hs2 : s = 2) (w : World) :
    Calls Tryz.prog 14 #[.int .i64 (s : Int)] w fun e w' => e = .returned (.int .i64 (clsN s : Nat)) ∧ Below w.heap.size w w' := by
  have hs : s = 2 ∨ s = 4 := by omega
  obtain ⟨hb1, hb2, hb3⟩ := fix_at hs
  have HCN : Hid (clsN s = (stTo s (allT s) (allT s).length).1) := rfl
  rw [HCN.out]
  have HLT := Lib.hid (ListT_sq s hs)
  have HRC := Lib.hid (Rectangle_yes s s (by omega) (by omega))
  have HSN : Hid (∀ j : Nat, j < 8 → ∀ v ls B w, RdF elDomino w B v ls → B ≤ w.heap.size → Calls Tryz.prog 23 #[.int .i64 (s : Int), v, .int .i64 ((j : Int) % 4), .bool (decide (4 ≤ (j : Int)))] w (RetRd w (imgZ s ls j))) := fun j hj v ls B w h hB => by
    have h1 := seen_loop (s : Int) (j % 4) (by omega) v ls (decide (4 ≤ j)) B w h hB
    have e1 : ((j % 4 : Nat) : Int) = (j : Int) % 4 := by omega
    have e2 : decide (4 ≤ (j : Int)) = decide (4 ≤ j) := by rw [decide_eq_decide]; omega
    rw [e2, ← e1]
    exact h1
  have HIM : Hid (∀ j : Nat, j < 8 → ∀ ls, ls ∈ allT s → (imgZ s ls j).all domL = true ∧ (imgZ s ls j).length ≤ 8) := fun j hj ls h => img_ok hs h (by omega) _
  have HAL : Hid (∀ ls, ls ∈ allT s → ls.all domL = true ∧ ls.length ≤ 8) := fun ls h => img_all hs h
  have HTT := Lib.hid (fun v ls B w h hB hd hn => TilingText_ok v ls B w h hB hd hn)
  have HTLN : Hid (∀ ls : List Lk, ls.length ≤ 8 → (textZ ls).length ≤ 40) := fun ls h => Nat.le_trans (text_len ls) (by omega)
  have HGL : Hid (∀ k (h : k < (allT s).length), getL (allT s) k = (allT s)[k]) := fun k h => by unfold Hid getL at *; simp [h]
  have HSI : Hid (∀ k, decide (textZ (getL (allT s) k) ∈ (stTo s (allT s) k).2) = true → (stTo s (allT s) (k + 1)).1 = (stTo s (allT s) k).1 ∧ (stTo s (allT s) (k + 1)).2 = (stTo s (allT s) k).2) := fun k h => by
    rw [st_in h]; exact ⟨rfl, rfl⟩
  have HSO : Hid (∀ k, decide (textZ (getL (allT s) k) ∈ (stTo s (allT s) k).2) = false → (stTo s (allT s) (k + 1)).1 = (stTo s (allT s) k).1 + 1 ∧ (stTo s (allT s) (k + 1)).2 = knTo (fun j => textZ (imgZ s (getL (allT s) k) j)) (stTo s (allT s) k).2 8) := fun k h => by
    rw [st_out h]; exact ⟨rfl, rfl⟩
  have HLE : Hid (∀ k, (stTo s (allT s) k).1 ≤ k) := st_le s (allT s)
  have H01 : Hid ((stTo s (allT s) 0).1 = 0) := rfl
  have H02 : Hid ((stTo s (allT s) 0).2 = []) := rfl
  generalize rectZ s s = rz at *
  generalize allT s = L at *
  obtain ⟨ct, HCT⟩ : ∃ ct : Nat → Nat, Hid (ct = fun k => (stTo s L k).1) := ⟨_, rfl⟩
  obtain ⟨kn, HKN⟩ : ∃ kn : Nat → List (List UInt8), Hid (kn = fun k => (stTo s L k).2) := ⟨_, rfl⟩
  have hct : ∀ k, (stTo s L k).1 = ct k := fun k => by rw [HCT.out]
  have hkn : ∀ k, (stTo s L k).2 = kn k := fun k => by rw [HKN.out]
  simp only [hct, hkn, Hid] at HSI HSO HLE H01 H02
  rw [hct]
  replace HSI := Lib.hid HSI; replace HSO := Lib.hid HSO; replace HLE := Lib.hid HLE; replace H01 := Lib.hid H01; replace H02 := Lib.hid H02
  clear HCN HCT HKN hct hkn hb1 hb2
  obtain ⟨im, HIME⟩ : ∃ im : List Lk → Nat → List Lk, Hid (im = imgZ s) := ⟨_, rfl⟩
  rw [← HIME.out] at HSN HIM HSO
  obtain ⟨tx, HTXE⟩ : ∃ tx : List Lk → List UInt8, Hid (tx = textZ) := ⟨_, rfl⟩
  rw [← HTXE.out] at HTT HTLN HSI HSO
  clear HIME HTXE
  have hc2' : ((s : Int) != 2) = false := by rw [hs2]; rfl
  have hmm := @run_makeMap Tryz.prog
  clear hs2 hs
  go_enter Tryz.func14, Tryz.ntmps14
  go_wp2_with fail
  obtain ⟨V0, hV0, k9, hbV0⟩ := one_alloc w (.map #[] 0)
  have HKV : Hid (Kn V0 w.heap.size 0 []) := by unfold Hid Kn; rw [hV0]; exact Knows.made w
  rw [← hV0]
  have HBV := Lib.hid hbV0
  clear hV0 k9 hbV0 hmm
  refine (HRC.out _).mono ?_
  rintro e w1 ⟨u1, rfl, hr1, hb1⟩
  have HK1 := Lib.hid (HKV.out.below hb1 HKV.out.lt)
  have HB1 := Lib.hid (HBV.out.trans (hb1.mono HBV.out.size))
  have HL := Lib.hid (HLT.out u1 _ w1 hr1 (Nat.le_refl _))
  clear hb1 hr1
  go_wp2_with fail
  refine HL.out.mono ?_
  rintro e w2 ⟨v2, hi2, rfl, hN2⟩
  have HBN : Hid (Below w1.heap.size w1 w2) := hN2.choose_spec.1.2.1
  have HK2 := Lib.hid (HK1.out.below HBN.out HK1.out.lt)
  have HB2 := Lib.hid (HB1.out.trans (HBN.out.mono HB1.out.size))
  have HR0 : Hid (KRel w w2 w2 0 []) := ⟨HB2.out, Nat.le_refl _, fun _ _ => rfl, HK2.out, HK2.out.lt⟩
  obtain ⟨A2, c2, rfl, q1, q2, G⟩ := hN2.rdD.open_
  unfold maxLen at q2
  have HG := Lib.hid G
  clear hN2 HL G HBN HK2 HK1 HB1 HKV HBV
  go_wp2_with fail
  go_loopw [3, 20] (fun n i wr => ∃ k : Nat, k ≤ L.length ∧ i = .int .i64 (k : Int) ∧ n = .int .i64 (ct k : Nat) ∧ Hid (KRel w w2 wr (8 * k) (kn k))) (fun _ i _ => L.length - (intOf i).toNat)
  case atStart => exact ⟨0, Nat.zero_le _, rfl, by rw [H01.out]; rfl, by rw [H02.out]; exact HR0⟩
  case round =>
    obtain ⟨k, hk, rfl, rfl, HR⟩ := hrel
    have hnk := HLE.out k
    by_cases hlt : k < L.length
    · have ht : decide ((k : Int) < (L.length : Int)) = true := by simp only [decide_eq_true_eq]; omega
      obtain ⟨ad, sl, rfl, hbl, hc, hx⟩ := HG.out k hlt
      have hc2 : wr.cell? (ad.add k) = some (slV sl) := (HR.out.2.2.1 _ (by rw [addBlock]; exact hbl)).trans hc
      have HX : Hid (RdF elDomino w2 w2.heap.size (slV sl) L[k]) := hx
      have HGK := Lib.hid (HGL.out k hlt)
      obtain ⟨ha1, ha2⟩ := HAL.out L[k] (List.getElem_mem hlt)
      have HIK := Lib.hid (fun j hj => HIM.out j hj L[k] (List.getElem_mem hlt))
      have HSIK := Lib.hid (HSI.out k)
      have HSOK := Lib.hid (HSO.out k)
      rw [HGK.out] at HSIK HSOK
      generalize L[k] = ls at *
      obtain ⟨g3, n3, c3⟩ := sl
      unfold slV at hc2 HX
      have hk0 : (0 : Int) ≤ (k : Int) := by omega
      have hk1 : (k : Int) < (L.length : Int) := by omega
      clear hc hx hbl HGK
      obtain ⟨A3, c3', hv3, r1, r2, _⟩ := id HX.out
      simp only [Value.slice.injEq] at hv3
      obtain ⟨rfl, rfl, rfl⟩ := hv3
      have HTK := Lib.hid (HTT.out _ ls _ wr (HX.out.krel HR.out) (Nat.le_refl _) ha1 (by omega))
      have htl := HTLN.out ls ha2
      go_wp2_with fail
      refine HTK.out.mono ?_
      rintro e w3 ⟨rfl, hb3⟩
      have HR3 := Lib.hid (HR.out.below hb3)
      have hk8 : 8 * k + 8 ≤ 3000 := by omega
      clear hb3 HTK
      cases hq : decide (tx ls ∈ kn k)
      · obtain ⟨hs1, hs2⟩ := HSOK.out hq
        have HS1 := Lib.hid hs1; have HS2 := Lib.hid hs2
        clear hs1 hs2 HSIK HSOK
        go_wp2_with (at_lookup; refine wpList_look rfl _ _ _ rfl Tryz.underlying9 Tryz.underlying53 Tryz.underlying4 (zeroB _) rfl HR3.out.2.2.2.1 _ rfl (by show (tx ls).length ≤ _; unfold maxLen; omega) false (by exact hq) ?_)
        have HR30 : Hid (KRel w w2 w3 (8 * k + 0) (knTo (fun j => tx (im ls j)) (kn k) 0)) := HR3.out
        have HKN : Hid (∀ S j, knTo (fun j => tx (im ls j)) S (j + 1) = tx (im ls j) :: knTo (fun j => tx (im ls j)) S j) := fun _ _ => rfl
        generalize kn k = S0 at *
        obtain ⟨kt, HKT⟩ : ∃ kt : Nat → List (List UInt8), Hid (kt = knTo (fun j => tx (im ls j)) S0) := ⟨_, rfl⟩
        have HKN2 : Hid (∀ j, kt (j + 1) = tx (im ls j) :: kt j) := fun j => by rw [HKT.out]; exact HKN.out S0 j
        rw [← HKT.out] at HS2 HR30
        clear HKT HKN
        go_loopw [30] (fun i wi => ∃ j : Nat, j ≤ 8 ∧ i = .int .i64 (j : Int) ∧ Hid (KRel w w2 wi (8 * k + j) (kt j))) (fun i _ => 8 - (intOf i).toNat)
        case atStart => exact ⟨0, Nat.zero_le _, rfl, HR30⟩
        case round =>
          obtain ⟨j, hj, rfl, HRJ⟩ := hrel
          by_cases hlj : j < 8
          · have htj : decide ((j : Int) < 8) = true := by simp only [decide_eq_true_eq]; omega
            have hj0 : (0 : Int) ≤ (j : Int) := by omega
            have hj1 : (j : Int) < 8 := by omega
            have HS5 := Lib.hid (fun V => HSN.out j hlj (.slice g3 ls.length c3) ls V.heap.size V)
            obtain ⟨hi1, hi2⟩ := HIK.out j hlj
            have HTJ := Lib.hid (fun V u h => HTT.out u (im ls j) V.heap.size V h (Nat.le_refl _) hi1 (by omega))
            have htl2 := HTLN.out _ hi2
            have HKJ := Lib.hid (HKN2.out j)
            generalize im ls j = il at *
            clear hi1 hi2
            go_wp2_with fail
            refine (HS5.out _ (HX.out.krel HRJ.out) (Nat.le_refl _)).mono ?_
            rintro e w5 ⟨u5, rfl, hr5, hb5⟩
            have HR5 := Lib.hid (HRJ.out.below hb5)
            have HT5 := Lib.hid (HTJ.out w5 u5 hr5)
            obtain ⟨A5, c5, rfl, _, _, _⟩ := id hr5
            clear hr5 hb5
            go_wp2_with fail
            refine HT5.out.mono ?_
            rintro e w6 ⟨rfl, hb6⟩
            have HR6 := Lib.hid (HR5.out.below hb6)
            clear hb6 HT5
            go_wp2_with (at_mapUpdate; refine wpList_putM rfl _ _ _ _ rfl Tryz.underlying9 Tryz.underlying53 Tryz.underlying4 rfl HR6.out.2.2.2.1 (by unfold maxLen; omega) _ rfl rfl (by show (tx il).length ≤ _; unfold maxLen; omega) ?_; intro w7 HK7 HG7)
            go_roundw
            case rel => exact ⟨j + 1, by omega, by go_num, by rw [HKJ.out]; exact HR6.out.put HK7.out HG7.out⟩
            case measure => simp [intOf]; omega
          · obtain rfl : j = 8 := by omega
            go_wp2_with fail
            go_roundw
            case rel => exact ⟨k + 1, by omega, by go_num, by rw [HS1.out]; go_num, by rw [HS2.out, show 8 * (k + 1) = 8 * k + 8 by omega]; exact HRJ⟩
            case measure => simp [intOf]; omega
      · obtain ⟨hs1, hs2⟩ := HSIK.out hq
        have HS1 := Lib.hid hs1; have HS2 := Lib.hid hs2
        clear hs1 hs2 HSIK HSOK
        go_wp2_with (at_lookup; refine wpList_look rfl _ _ _ rfl Tryz.underlying9 Tryz.underlying53 Tryz.underlying4 (zeroB _) rfl HR3.out.2.2.2.1 _ rfl (by show (tx ls).length ≤ _; unfold maxLen; omega) true (by exact hq) ?_)
        go_roundw
        case rel => exact ⟨k + 1, by omega, by go_num, by rw [HS1.out], by rw [HS2.out]; exact HR3.out.more (by omega)⟩
        case measure => simp [intOf]; omega
    · obtain rfl : k = L.length := by omega
      have ht : decide ((L.length : Int) < (L.length : Int)) = false := by simp
      go_wp2_with fail
      go_ret
      exact ⟨rfl, HR.out.1⟩

set_option maxRecDepth 100000 in
set_option maxHeartbeats 4000000 in
theorem CountClasses_yes4 (s : Nat) (hs2 : s = 4) (w : World) :
    Calls Tryz.prog 14 #[.int .i64 (s : Int)] w fun e w' => e = .returned (.int .i64 (clsN s : Nat)) ∧ Below w.heap.size w w' := by
  have hs : s = 2 ∨ s = 4 := by omega
  obtain ⟨hb1, hb2, hb3⟩ := fix_at hs
  have HCN : Hid (clsN s = (stTo s (allT s) (allT s).length).1) := rfl
  rw [HCN.out]
  have HLT := Lib.hid (ListT_sq s hs)
  have HRC := Lib.hid (Rectangle_yes s s (by omega) (by omega))
  have HSN : Hid (∀ j : Nat, j < 8 → ∀ v ls B w, RdF elDomino w B v ls → B ≤ w.heap.size → Calls Tryz.prog 23 #[.int .i64 (s : Int), v, .int .i64 ((j : Int) % 4), .bool (decide (4 ≤ (j : Int)))] w (RetRd w (imgZ s ls j))) := fun j hj v ls B w h hB => by
    have h1 := seen_loop (s : Int) (j % 4) (by omega) v ls (decide (4 ≤ j)) B w h hB
    have e1 : ((j % 4 : Nat) : Int) = (j : Int) % 4 := by omega
    have e2 : decide (4 ≤ (j : Int)) = decide (4 ≤ j) := by rw [decide_eq_decide]; omega
    rw [e2, ← e1]
    exact h1
  have HIM : Hid (∀ j : Nat, j < 8 → ∀ ls, ls ∈ allT s → (imgZ s ls j).all domL = true ∧ (imgZ s ls j).length ≤ 8) := fun j hj ls h => img_ok hs h (by omega) _
  have HAL : Hid (∀ ls, ls ∈ allT s → ls.all domL = true ∧ ls.length ≤ 8) := fun ls h => img_all hs h
  have HTT := Lib.hid (fun v ls B w h hB hd hn => TilingText_ok v ls B w h hB hd hn)
  have HTLN : Hid (∀ ls : List Lk, ls.length ≤ 8 → (textZ ls).length ≤ 40) := fun ls h => Nat.le_trans (text_len ls) (by omega)
  have HGL : Hid (∀ k (h : k < (allT s).length), getL (allT s) k = (allT s)[k]) := fun k h => by unfold Hid getL at *; simp [h]
  have HSI : Hid (∀ k, decide (textZ (getL (allT s) k) ∈ (stTo s (allT s) k).2) = true → (stTo s (allT s) (k + 1)).1 = (stTo s (allT s) k).1 ∧ (stTo s (allT s) (k + 1)).2 = (stTo s (allT s) k).2) := fun k h => by
    rw [st_in h]; exact ⟨rfl, rfl⟩
  have HSO : Hid (∀ k, decide (textZ (getL (allT s) k) ∈ (stTo s (allT s) k).2) = false → (stTo s (allT s) (k + 1)).1 = (stTo s (allT s) k).1 + 1 ∧ (stTo s (allT s) (k + 1)).2 = knTo (fun j => textZ (imgZ s (getL (allT s) k) j)) (stTo s (allT s) k).2 8) := fun k h => by
    rw [st_out h]; exact ⟨rfl, rfl⟩
  have HLE : Hid (∀ k, (stTo s (allT s) k).1 ≤ k) := st_le s (allT s)
  have H01 : Hid ((stTo s (allT s) 0).1 = 0) := rfl
  have H02 : Hid ((stTo s (allT s) 0).2 = []) := rfl
  generalize rectZ s s = rz at *
  generalize allT s = L at *
  obtain ⟨ct, HCT⟩ : ∃ ct : Nat → Nat, Hid (ct = fun k => (stTo s L k).1) := ⟨_, rfl⟩
  obtain ⟨kn, HKN⟩ : ∃ kn : Nat → List (List UInt8), Hid (kn = fun k => (stTo s L k).2) := ⟨_, rfl⟩
  have hct : ∀ k, (stTo s L k).1 = ct k := fun k => by rw [HCT.out]
  have hkn : ∀ k, (stTo s L k).2 = kn k := fun k => by rw [HKN.out]
  simp only [hct, hkn, Hid] at HSI HSO HLE H01 H02
  rw [hct]
  replace HSI := Lib.hid HSI; replace HSO := Lib.hid HSO; replace HLE := Lib.hid HLE; replace H01 := Lib.hid H01; replace H02 := Lib.hid H02
  clear HCN HCT HKN hct hkn hb1 hb2
  obtain ⟨im, HIME⟩ : ∃ im : List Lk → Nat → List Lk, Hid (im = imgZ s) := ⟨_, rfl⟩
  rw [← HIME.out] at HSN HIM HSO
  obtain ⟨tx, HTXE⟩ : ∃ tx : List Lk → List UInt8, Hid (tx = textZ) := ⟨_, rfl⟩
  rw [← HTXE.out] at HTT HTLN HSI HSO
  clear HIME HTXE
  have hc2' : ((s : Int) != 2) = true := by rw [hs2]; rfl
  have hc4' : ((s : Int) != 4) = false := by rw [hs2]; rfl
  have hmm := @run_makeMap Tryz.prog
  clear hs2 hs
  go_enter Tryz.func14, Tryz.ntmps14
  go_wp2_with fail
  obtain ⟨V0, hV0, k9, hbV0⟩ := one_alloc w (.map #[] 0)
  have HKV : Hid (Kn V0 w.heap.size 0 []) := by unfold Hid Kn; rw [hV0]; exact Knows.made w
  rw [← hV0]
  have HBV := Lib.hid hbV0
  clear hV0 k9 hbV0 hmm
  refine (HRC.out _).mono ?_
  rintro e w1 ⟨u1, rfl, hr1, hb1⟩
  have HK1 := Lib.hid (HKV.out.below hb1 HKV.out.lt)
  have HB1 := Lib.hid (HBV.out.trans (hb1.mono HBV.out.size))
  have HL := Lib.hid (HLT.out u1 _ w1 hr1 (Nat.le_refl _))
  clear hb1 hr1
  go_wp2_with fail
  refine HL.out.mono ?_
  rintro e w2 ⟨v2, hi2, rfl, hN2⟩
  have HBN : Hid (Below w1.heap.size w1 w2) := hN2.choose_spec.1.2.1
  have HK2 := Lib.hid (HK1.out.below HBN.out HK1.out.lt)
  have HB2 := Lib.hid (HB1.out.trans (HBN.out.mono HB1.out.size))
  have HR0 : Hid (KRel w w2 w2 0 []) := ⟨HB2.out, Nat.le_refl _, fun _ _ => rfl, HK2.out, HK2.out.lt⟩
  obtain ⟨A2, c2, rfl, q1, q2, G⟩ := hN2.rdD.open_
  unfold maxLen at q2
  have HG := Lib.hid G
  clear hN2 HL G HBN HK2 HK1 HB1 HKV HBV
  go_wp2_with fail
  go_loopw [3, 20] (fun n i wr => ∃ k : Nat, k ≤ L.length ∧ i = .int .i64 (k : Int) ∧ n = .int .i64 (ct k : Nat) ∧ Hid (KRel w w2 wr (8 * k) (kn k))) (fun _ i _ => L.length - (intOf i).toNat)
  case atStart => exact ⟨0, Nat.zero_le _, rfl, by rw [H01.out]; rfl, by rw [H02.out]; exact HR0⟩
  case round =>
    obtain ⟨k, hk, rfl, rfl, HR⟩ := hrel
    have hnk := HLE.out k
    by_cases hlt : k < L.length
    · have ht : decide ((k : Int) < (L.length : Int)) = true := by simp only [decide_eq_true_eq]; omega
      obtain ⟨ad, sl, rfl, hbl, hc, hx⟩ := HG.out k hlt
      have hc2 : wr.cell? (ad.add k) = some (slV sl) := (HR.out.2.2.1 _ (by rw [addBlock]; exact hbl)).trans hc
      have HX : Hid (RdF elDomino w2 w2.heap.size (slV sl) L[k]) := hx
      have HGK := Lib.hid (HGL.out k hlt)
      obtain ⟨ha1, ha2⟩ := HAL.out L[k] (List.getElem_mem hlt)
      have HIK := Lib.hid (fun j hj => HIM.out j hj L[k] (List.getElem_mem hlt))
      have HSIK := Lib.hid (HSI.out k)
      have HSOK := Lib.hid (HSO.out k)
      rw [HGK.out] at HSIK HSOK
      generalize L[k] = ls at *
      obtain ⟨g3, n3, c3⟩ := sl
      unfold slV at hc2 HX
      have hk0 : (0 : Int) ≤ (k : Int) := by omega
      have hk1 : (k : Int) < (L.length : Int) := by omega
      clear hc hx hbl HGK
      obtain ⟨A3, c3', hv3, r1, r2, _⟩ := id HX.out
      simp only [Value.slice.injEq] at hv3
      obtain ⟨rfl, rfl, rfl⟩ := hv3
      have HTK := Lib.hid (HTT.out _ ls _ wr (HX.out.krel HR.out) (Nat.le_refl _) ha1 (by omega))
      have htl := HTLN.out ls ha2
      go_wp2_with fail
      refine HTK.out.mono ?_
      rintro e w3 ⟨rfl, hb3⟩
      have HR3 := Lib.hid (HR.out.below hb3)
      have hk8 : 8 * k + 8 ≤ 3000 := by omega
      clear hb3 HTK
      cases hq : decide (tx ls ∈ kn k)
      · obtain ⟨hs1, hs2⟩ := HSOK.out hq
        have HS1 := Lib.hid hs1; have HS2 := Lib.hid hs2
        clear hs1 hs2 HSIK HSOK
        go_wp2_with (at_lookup; refine wpList_look rfl _ _ _ rfl Tryz.underlying9 Tryz.underlying53 Tryz.underlying4 (zeroB _) rfl HR3.out.2.2.2.1 _ rfl (by show (tx ls).length ≤ _; unfold maxLen; omega) false (by exact hq) ?_)
        have HR30 : Hid (KRel w w2 w3 (8 * k + 0) (knTo (fun j => tx (im ls j)) (kn k) 0)) := HR3.out
        have HKN : Hid (∀ S j, knTo (fun j => tx (im ls j)) S (j + 1) = tx (im ls j) :: knTo (fun j => tx (im ls j)) S j) := fun _ _ => rfl
        generalize kn k = S0 at *
        obtain ⟨kt, HKT⟩ : ∃ kt : Nat → List (List UInt8), Hid (kt = knTo (fun j => tx (im ls j)) S0) := ⟨_, rfl⟩
        have HKN2 : Hid (∀ j, kt (j + 1) = tx (im ls j) :: kt j) := fun j => by rw [HKT.out]; exact HKN.out S0 j
        rw [← HKT.out] at HS2 HR30
        clear HKT HKN
        go_loopw [30] (fun i wi => ∃ j : Nat, j ≤ 8 ∧ i = .int .i64 (j : Int) ∧ Hid (KRel w w2 wi (8 * k + j) (kt j))) (fun i _ => 8 - (intOf i).toNat)
        case atStart => exact ⟨0, Nat.zero_le _, rfl, HR30⟩
        case round =>
          obtain ⟨j, hj, rfl, HRJ⟩ := hrel
          by_cases hlj : j < 8
          · have htj : decide ((j : Int) < 8) = true := by simp only [decide_eq_true_eq]; omega
            have hj0 : (0 : Int) ≤ (j : Int) := by omega
            have hj1 : (j : Int) < 8 := by omega
            have HS5 := Lib.hid (fun V => HSN.out j hlj (.slice g3 ls.length c3) ls V.heap.size V)
            obtain ⟨hi1, hi2⟩ := HIK.out j hlj
            have HTJ := Lib.hid (fun V u h => HTT.out u (im ls j) V.heap.size V h (Nat.le_refl _) hi1 (by omega))
            have htl2 := HTLN.out _ hi2
            have HKJ := Lib.hid (HKN2.out j)
            generalize im ls j = il at *
            clear hi1 hi2
            go_wp2_with fail
            refine (HS5.out _ (HX.out.krel HRJ.out) (Nat.le_refl _)).mono ?_
            rintro e w5 ⟨u5, rfl, hr5, hb5⟩
            have HR5 := Lib.hid (HRJ.out.below hb5)
            have HT5 := Lib.hid (HTJ.out w5 u5 hr5)
            obtain ⟨A5, c5, rfl, _, _, _⟩ := id hr5
            clear hr5 hb5
            go_wp2_with fail
            refine HT5.out.mono ?_
            rintro e w6 ⟨rfl, hb6⟩
            have HR6 := Lib.hid (HR5.out.below hb6)
            clear hb6 HT5
            go_wp2_with (at_mapUpdate; refine wpList_putM rfl _ _ _ _ rfl Tryz.underlying9 Tryz.underlying53 Tryz.underlying4 rfl HR6.out.2.2.2.1 (by unfold maxLen; omega) _ rfl rfl (by show (tx il).length ≤ _; unfold maxLen; omega) ?_; intro w7 HK7 HG7)
            go_roundw
            case rel => exact ⟨j + 1, by omega, by go_num, by rw [HKJ.out]; exact HR6.out.put HK7.out HG7.out⟩
            case measure => simp [intOf]; omega
          · obtain rfl : j = 8 := by omega
            go_wp2_with fail
            go_roundw
            case rel => exact ⟨k + 1, by omega, by go_num, by rw [HS1.out]; go_num, by rw [HS2.out, show 8 * (k + 1) = 8 * k + 8 by omega]; exact HRJ⟩
            case measure => simp [intOf]; omega
      · obtain ⟨hs1, hs2⟩ := HSIK.out hq
        have HS1 := Lib.hid hs1; have HS2 := Lib.hid hs2
        clear hs1 hs2 HSIK HSOK
        go_wp2_with (at_lookup; refine wpList_look rfl _ _ _ rfl Tryz.underlying9 Tryz.underlying53 Tryz.underlying4 (zeroB _) rfl HR3.out.2.2.2.1 _ rfl (by show (tx ls).length ≤ _; unfold maxLen; omega) true (by exact hq) ?_)
        go_roundw
        case rel => exact ⟨k + 1, by omega, by go_num, by rw [HS1.out], by rw [HS2.out]; exact HR3.out.more (by omega)⟩
        case measure => simp [intOf]; omega
    · obtain rfl : k = L.length := by omega
      have ht : decide ((L.length : Int) < (L.length : Int)) = false := by simp
      go_wp2_with fail
      go_ret
      exact ⟨rfl, HR.out.1⟩

/-- What CountClasses returns. -/
def clsZ (a : Int) : Int := if a = 2 ∨ a = 4 then (clsN a.toNat : Nat) else -1
set_option maxRecDepth 100000 in
theorem CountClasses_any (a : Int) (w : World) :
    Calls Tryz.prog 14 #[.int .i64 a] w fun e w' => e = .returned (.int .i64 (clsZ a)) ∧ Below w.heap.size w w' := by
  by_cases h : a = 2 ∨ a = 4
  · have e0 : clsZ a = (clsN a.toNat : Nat) := if_pos h
    rw [e0]
    obtain ⟨s, rfl⟩ := Int.eq_ofNat_of_zero_le (show 0 ≤ a by omega)
    rw [Int.toNat_natCast]
    rcases (show s = 2 ∨ s = 4 by omega) with hs | hs
    · exact CountClasses_yes2 s hs w
    · exact CountClasses_yes4 s hs w
  · have e0 : clsZ a = -1 := if_neg h
    rw [e0]
    have f2 : (a != 2) = true := by rw [bne_iff_ne]; exact fun e => h (.inl e)
    have f4 : (a != 4) = true := by rw [bne_iff_ne]; exact fun e => h (.inr e)
    clear h e0
    go_enter Tryz.func14, Tryz.ntmps14
    go_wp2_with fail
    go_ret
    exact ⟨rfl, Below.refl _ _⟩
end Go.Proofs.YtehnbalbpfmijaaGreatDoor

namespace Go.Proofs.YtehnbalbpfmijaaGreatDoor
open Go.RowKit
set_option linter.unusedVariables false

/-- Whether a domino lies over a cell. -/
def ovr (d : Lk) (i : Nat) : Bool := aI d == i || bI d == i
/-- How many dominoes of a list lie over a cell. -/
def cc (ls : List Lk) (i : Nat) : Nat := ls.countP fun d => ovr d i
theorem cc_cons (d : Lk) (ls : List Lk) (i : Nat) : cc (d :: ls) i = cc ls i + (if ovr d i then 1 else 0) := List.countP_cons
theorem cc_app (l m : List Lk) (i : Nat) : cc (l ++ m) i = cc l i + cc m i := List.countP_append
theorem cc_perm {l m : List Lk} (h : l.Perm m) (i : Nat) : cc l i = cc m i := h.countP_eq _
theorem cc_pos {ls : List Lk} {d : Lk} {i : Nat} (h : d ∈ ls) (ho : ovr d i = true) : 0 < cc ls i := List.countP_pos_iff.2 ⟨d, h, ho⟩
theorem cc_get {ls : List Lk} {i : Nat} (h : 0 < cc ls i) : ∃ d, d ∈ ls ∧ ovr d i = true := List.countP_pos_iff.1 h
theorem ordL_eq (l : Lk) : ordL l = 2 * aI l + if l.2.2 then 1 else 0 := rfl
theorem ab_lt {l : Lk} (h : domL l = true) : aI l < bI l ∧ bI l < 64 := by
  obtain ⟨x, y, d⟩ := l
  have h1 := (domB_iff _ _ _).1 h
  unfold aI bI cix
  cases d <;> simp at h1 ⊢ <;> omega
/-- A tiling of the region with these cells. -/
structure Til (R : Nat) (ls : List Lk) : Prop where
  so : Sorted ls
  cv : ∀ i, i < 64 → cc ls i = if R.testBit i then 1 else 0
theorem covT_bit {ls : List Lk} {k : Nat} (hd : domL (dAt ls k) = true) (i : Nat) : (covTo ls (k + 1)).testBit i = ((covTo ls k).testBit i || ovr (dAt ls k) i) := by
  rw [covTo, if_pos hd, dM_ab, Nat.testBit_or, ab_bit]
  unfold ovr
  by_cases h1 : aI (dAt ls k) = i <;> by_cases h2 : bI (dAt ls k) = i <;> simp [h1, h2]
theorem take_get {ls : List Lk} {k : Nat} (h : k < ls.length) : ls.take (k + 1) = ls.take k ++ [dAt ls k] := by
  rw [dAt_get ls k h, List.take_succ_eq_append_getElem h]
theorem cc_one (d : Lk) (i : Nat) : cc [d] i = if ovr d i then 1 else 0 := by simp [cc]
theorem cc_step {ls : List Lk} {k i : Nat} (h : k < ls.length) : cc (ls.take (k + 1)) i = cc (ls.take k) i + if ovr (dAt ls k) i then 1 else 0 := by rw [take_get h, cc_app, cc_one]
theorem cc_take_le (ls : List Lk) (k i : Nat) : cc (ls.take k) i ≤ cc ls i := (List.take_sublist k ls).countP_le
theorem q_parts {R : Nat} {ls : List Lk} {k : Nat} : qAt R ls k = true ↔ domL (dAt ls k) = true ∧ (k = 0 ∨ domLt (dAt ls (k - 1)) (dAt ls k) = true) ∧ (R.testBit (aI (dAt ls k)) = true ∧ R.testBit (bI (dAt ls k)) = true) ∧ (covTo ls k).testBit (aI (dAt ls k)) = false ∧ (covTo ls k).testBit (bI (dAt ls k)) = false := by
  unfold qAt
  simp only [Bool.and_eq_true, Bool.or_eq_true, Bool.not_eq_true', decide_eq_true_eq]
  constructor
  · rintro ⟨⟨a, b⟩, ⟨⟨c, d⟩, e⟩, f⟩; exact ⟨a, b, ⟨c, d⟩, e, f⟩
  · rintro ⟨a, b, ⟨c, d⟩, e, f⟩; exact ⟨⟨a, b⟩, ⟨⟨c, d⟩, e⟩, f⟩
theorem ovr_no {d : Lk} {T : Nat} (h1 : T.testBit (aI d) = false) (h2 : T.testBit (bI d) = false) {i : Nat} (ho : ovr d i = true) : T.testBit i = false := by
  unfold ovr at ho
  simp only [Bool.or_eq_true, beq_iff_eq] at ho
  rcases ho with rfl | rfl
  · exact h1
  · exact h2
theorem part_cc {R : Nat} {ls : List Lk} (h : sPartB R ls = true) (i : Nat) : ∀ k, k ≤ ls.length → cc (ls.take k) i = if (covTo ls k).testBit i then 1 else 0
  | 0, _ => by simp [cc, covTo]
  | k + 1, hk => by
    have ih := part_cc h i k (by omega)
    obtain ⟨hd, _, _, c1, c2⟩ := q_parts.1 ((upFrom_iff _ _ _).1 h k (Nat.zero_le _) (by omega))
    rw [cc_step (by omega), ih, covT_bit hd]
    cases ho : ovr (dAt ls k) i
    · simp
    · rw [ovr_no c1 c2 ho]; simp
theorem part_sorted {R : Nat} {ls : List Lk} (h : sPartB R ls = true) : Sorted ls := by
  have hq : ∀ k, k < ls.length → _ := fun k hk => q_parts.1 ((upFrom_iff _ _ _).1 h k (Nat.zero_le _) hk)
  have hlt : ∀ j i, i < j → j < ls.length → ordL (dAt ls i) < ordL (dAt ls j) := by
    intro j
    induction j with
    | zero => intro i hi; omega
    | succ j ih =>
      intro i hi hj
      rcases (hq (j + 1) hj).2.1 with h0 | h0
      · omega
      · have h1 : ordL (dAt ls j) < ordL (dAt ls (j + 1)) := by
          unfold domLt at h0
          simp only [Bool.and_eq_true, decide_eq_true_eq] at h0
          exact h0.2
        rcases Nat.lt_succ_iff_lt_or_eq.1 hi with hi | rfl
        · exact Nat.lt_trans (ih i hi (by omega)) h1
        · exact h1
  refine ⟨List.pairwise_iff_getElem.2 fun i j hi hj hij => ?_, fun a ha => ?_⟩
  · have := hlt j i hij hj
    rw [dAt_get ls i hi, dAt_get ls j hj] at this
    exact this
  · obtain ⟨k, hk, rfl⟩ := List.mem_iff_getElem.1 ha
    have := (hq k hk).1
    rwa [dAt_get ls k hk] at this
theorem cnt_ext {A B : Nat} : ∀ n, (∀ i, i < n → A.testBit i = B.testBit i) → cntB A n = cntB B n
  | 0, _ => rfl
  | n + 1, h => by rw [cntB, cntB, cnt_ext n fun i hi => h i (by omega), h n (by omega)]
theorem til_of {R : Nat} {ls : List Lk} (h : Til R ls) : sTileB R ls = true := by
  have hcov : ∀ k, k ≤ ls.length → (∀ i, i < 64 → cc (ls.take k) i = if (covTo ls k).testBit i then 1 else 0) ∧ ∀ j, j < k → qAt R ls j = true := by
    intro k
    induction k with
    | zero => exact fun _ => ⟨fun i _ => by simp [cc, covTo], fun j hj => by omega⟩
    | succ k ih =>
      intro hk
      obtain ⟨i1, i2⟩ := ih (by omega)
      have hd : domL (dAt ls k) = true := h.so.ok (by omega)
      have hab := ab_lt hd
      have hcell : ∀ i, i < 64 → ovr (dAt ls k) i = true → R.testBit i = true ∧ (covTo ls k).testBit i = false := by
        intro i hi ho
        have h1 := cc_step (ls := ls) (k := k) (i := i) (by omega)
        have h2 := cc_take_le ls (k + 1) i
        have h3 := h.cv i hi
        have h4 := i1 i hi
        rw [ho, if_pos rfl] at h1
        cases hr : R.testBit i
        · rw [hr] at h3; simp at h3; omega
        · rw [hr] at h3
          refine ⟨rfl, ?_⟩
          cases hc : (covTo ls k).testBit i
          · rfl
          · rw [hc] at h4; simp at h3 h4; omega
      have ha := hcell (aI (dAt ls k)) (by omega) (by simp [ovr])
      have hb := hcell (bI (dAt ls k)) (by omega) (by simp [ovr])
      have hqk : qAt R ls k = true := by
        refine q_parts.2 ⟨hd, ?_, ⟨ha.1, hb.1⟩, ha.2, hb.2⟩
        by_cases h0 : k = 0
        · exact .inl h0
        · refine .inr ?_
          have h1 := h.so.at (i := k - 1) (j := k) (by omega) (by omega)
          have h2 : domL (dAt ls (k - 1)) = true := h.so.ok (by omega)
          unfold domLt
          simp only [Bool.and_eq_true, decide_eq_true_eq]
          exact ⟨⟨h2, hd⟩, h1⟩
      refine ⟨fun i hi => ?_, fun j hj => ?_⟩
      · rw [cc_step (by omega), i1 i hi, covT_bit hd]
        cases ho : ovr (dAt ls k) i
        · simp
        · rw [(hcell i hi ho).2]; simp
      · rcases Nat.lt_succ_iff_lt_or_eq.1 hj with hj | rfl
        · exact i2 j hj
        · exact hqk
  obtain ⟨h1, h2⟩ := hcov ls.length (Nat.le_refl _)
  have hp : sPartB R ls = true := (upFrom_iff _ _ _).2 fun k _ hk => h2 k hk
  have h3 := (cov_facts hp ls.length (Nat.le_refl _)).1
  have h4 : cntB (covTo ls ls.length) 64 = cntB R 64 := by
    refine cnt_ext 64 fun i hi => ?_
    have g1 := h1 i hi
    rw [List.take_length, h.cv i hi] at g1
    cases hr : R.testBit i <;> cases hc : (covTo ls ls.length).testBit i <;> rw [hr, hc] at g1 <;> simp at g1 ⊢
  unfold sTileB
  rw [hp, Bool.true_and, decide_eq_true_eq]
  omega
theorem til_to {R : Nat} (hR : R < 18446744073709551616) {ls : List Lk} (h : sTileB R ls = true) : Til R ls := by
  have h2 := h
  rw [← tile_eq hR] at h2
  unfold tileB at h2
  unfold sTileB at h
  simp only [Bool.and_eq_true, beq_iff_eq] at h h2
  refine ⟨part_sorted h.1, fun i _ => ?_⟩
  have h3 := part_cc h.1 i ls.length (Nat.le_refl _)
  rw [List.take_length, h2.2] at h3
  exact h3
theorem Sorted.nodup {ls : List Lk} (h : Sorted ls) : ls.Nodup := h.1.imp fun hab e => by subst e; omega
theorem Sorted.eq {l m : List Lk} (hl : Sorted l) (hm : Sorted m) (h : l.Perm m) : l = m :=
  h.eq_of_pairwise (fun a b _ _ h1 h2 => absurd h1 (by omega)) hl.1 hm.1

/-! ### Sorting -/
theorem insI_perm {d : Lk} {ys : List Lk} (h : d ∉ ys) : (insI d ys).Perm (d :: ys) := by
  unfold insI
  obtain ⟨h1, _, _⟩ := downK_spec ys (ordL d) ys.length
  generalize downK ys (ordL d) ys.length = k at *
  dsimp only
  split
  · rename_i hk
    simp only [Bool.and_eq_true, decide_eq_true_eq, beq_iff_eq] at hk
    refine absurd ?_ h
    rw [← hk.2, dAt_get ys (k - 1) (by omega)]
    exact List.getElem_mem _
  · refine List.perm_middle.trans ?_
    rw [List.take_append_drop]
theorem sortI_perm {ls : List Lk} (hn : ls.Nodup) (hd : ∀ d ∈ ls, domL d = true) : ∀ k, k ≤ ls.length → (sortI ls k).Perm (ls.take k)
  | 0, _ => by simp [sortI]
  | k + 1, hk => by
    have ih := sortI_perm hn hd k (by omega)
    have hg := dAt_get ls k (by omega)
    have h1 : domL (dAt ls k) = true := by rw [hg]; exact hd _ (List.getElem_mem _)
    have h2 : dAt ls k ∉ sortI ls k := by
      intro hm
      have hm2 := ih.mem_iff.1 hm
      rw [hg] at hm2
      obtain ⟨j, hj, he⟩ := List.mem_iff_getElem.1 hm2
      rw [List.getElem_take] at he
      rw [List.length_take] at hj
      exact (List.pairwise_iff_getElem.1 hn) j k (by omega) (by omega) (by omega) he
    rw [sortI, if_pos h1, take_get (by omega)]
    refine (insI_perm h2).trans ((ih.cons _).trans ?_)
    exact (List.perm_append_singleton _ _).symm
theorem sort_til {R : Nat} {ls : List Lk} (hn : ls.Nodup) (hd : ∀ d ∈ ls, domL d = true) (hc : ∀ i, i < 64 → cc ls i = if R.testBit i then 1 else 0) : Til R (sortI ls ls.length) := by
  have hp := sortI_perm hn hd ls.length (Nat.le_refl _)
  rw [List.take_length] at hp
  exact ⟨(sort_same ls ls.length).2, fun i hi => by rw [cc_perm hp]; exact hc i hi⟩
theorem nodup_of_cc {R : Nat} {ls : List Lk} (hd : ∀ d ∈ ls, domL d = true) (hc : ∀ i, i < 64 → cc ls i = if R.testBit i then 1 else 0) : ls.Nodup := by
  have key : ∀ l : List Lk, (∀ d ∈ l, domL d = true) → (∀ i, i < 64 → cc l i ≤ 1) → l.Nodup := by
    intro l
    induction l with
    | nil => intro _ _; exact List.nodup_nil
    | cons d l ih =>
      intro h1 h2
      have hdd := h1 d (by simp)
      refine List.nodup_cons.2 ⟨fun hm => ?_, ih (fun x hx => h1 x (by simp [hx])) fun i hi => by have := h2 i hi; rw [cc_cons] at this; omega⟩
      have h3 := h2 (aI d) (by have := ab_lt hdd; omega)
      have h4 : ovr d (aI d) = true := by simp [ovr]
      have h5 := cc_pos hm h4
      rw [cc_cons, if_pos h4] at h3
      omega
  exact key ls hd fun i hi => by rw [hc i hi]; split <;> omega

/-! ### Flips -/
/-- The other domino over the four cells at a cell. -/
def prt (l : Lk) : Lk := if l.2.2 then (l.1 + 1, l.2.1, true) else (l.1, l.2.1 + 1, false)
def quadL (x y : Int) (d : Bool) : Lk × Lk := ((x, y, d), prt (x, y, d))
theorem quad_dom {x y : Int} (hx : 0 ≤ x ∧ x ≤ 6) (hy : 0 ≤ y ∧ y ≤ 6) (d : Bool) : domL (quadL x y d).1 = true ∧ domL (quadL x y d).2 = true := by
  unfold domL
  rw [domB_iff, domB_iff]
  cases d <;> simp [quadL, prt] <;> omega
theorem quad_cc {x y : Int} (hx : 0 ≤ x ∧ x ≤ 6) (hy : 0 ≤ y ∧ y ≤ 6) (d : Bool) (i : Nat) : (if ovr (quadL x y d).1 i then 1 else 0) + (if ovr (quadL x y d).2 i then 1 else 0) = (if ovr (quadL x y (!d)).1 i then 1 else 0) + (if ovr (quadL x y (!d)).2 i then 1 else 0) := by
  obtain ⟨n, rfl⟩ := Int.eq_ofNat_of_zero_le hx.1
  obtain ⟨m, rfl⟩ := Int.eq_ofNat_of_zero_le hy.1
  have e1 : ((n : Int) + 1).toNat = n + 1 := by omega
  have e2 : ((m : Int) + 1).toNat = m + 1 := by omega
  unfold ovr quadL prt aI bI cix
  cases d <;> simp [e1, e2] <;> (repeat' split) <;> omega
/-- The dominoes at a cell are turned. -/
def flipL (ls : List Lk) (x y : Int) (d : Bool) : List Lk := (quadL x y (!d)).1 :: (quadL x y (!d)).2 :: ls.filter fun l => l != (quadL x y d).1 && l != (quadL x y d).2
theorem perm_two {ls : List Lk} (hn : ls.Nodup) {a b : Lk} (ha : a ∈ ls) (hb : b ∈ ls) (hab : a ≠ b) : ls.Perm (a :: b :: ls.filter fun l => l != a && l != b) := by
  have h1 := List.perm_cons_erase ha
  have hb' : b ∈ ls.erase a := (List.mem_erase_of_ne (Ne.symm hab)).2 hb
  have h2 := List.perm_cons_erase hb'
  refine h1.trans ((h2.cons a).trans ?_)
  rw [(hn.erase a).erase_eq_filter, hn.erase_eq_filter, List.filter_filter]
  have : (fun l : Lk => l != b && l != a) = fun l => l != a && l != b := by funext l; exact Bool.and_comm _ _
  rw [this]
theorem flip_til {R : Nat} {ls : List Lk} (h : Til R ls) {x y : Int} (hx : 0 ≤ x ∧ x ≤ 6) (hy : 0 ≤ y ∧ y ≤ 6) {d : Bool} (h1 : (quadL x y d).1 ∈ ls) (h2 : (quadL x y d).2 ∈ ls) : Til R (sortI (flipL ls x y d) (flipL ls x y d).length) := by
  have hne : (quadL x y d).1 ≠ (quadL x y d).2 := by cases d <;> simp [quadL, prt] <;> omega
  have hp := perm_two h.so.nodup h1 h2 hne
  have hdom : ∀ l ∈ flipL ls x y d, domL l = true := by
    intro l hl
    unfold flipL at hl
    rcases List.mem_cons.1 hl with rfl | hl
    · exact (quad_dom hx hy (!d)).1
    rcases List.mem_cons.1 hl with rfl | hl
    · exact (quad_dom hx hy (!d)).2
    · exact h.so.2 _ (List.mem_filter.1 hl).1
  have hcc : ∀ i, i < 64 → cc (flipL ls x y d) i = if R.testBit i then 1 else 0 := by
    intro i hi
    have g1 := h.cv i hi
    rw [cc_perm hp, cc_cons, cc_cons] at g1
    have g2 := quad_cc hx hy d i
    unfold flipL
    rw [cc_cons, cc_cons]
    omega
  exact sort_til (nodup_of_cc hdom hcc) hdom hcc

/-! ### Every tiling of a small region has a flip -/
def anyF (hd : List Lk) : Bool := hd.any fun l => hd.contains (prt l)
theorem anyF_get {hd : List Lk} (h : anyF hd = true) : ∃ l, l ∈ hd ∧ prt l ∈ hd := by
  unfold anyF at h
  obtain ⟨l, h1, h2⟩ := List.any_eq_true.1 h
  exact ⟨l, h1, by simpa using h2⟩
/-- The first cell of a set. -/
def loB (s : Nat) : Nat → Nat → Nat
  | 0, i => i
  | f + 1, i => if s.testBit i then i else loB s f (i + 1)
theorem loB_spec (s : Nat) : ∀ f i, (∀ j, i ≤ j → j < loB s f i → s.testBit j = false) ∧ (loB s f i < i + f → s.testBit (loB s f i) = true) ∧ i ≤ loB s f i ∧ loB s f i ≤ i + f
  | 0, i => ⟨fun j h1 h2 => by simp [loB] at h2; omega, fun h => by simp [loB] at h, Nat.le_refl _, Nat.le_refl _⟩
  | f + 1, i => by
    rw [loB]
    cases h : s.testBit i
    · obtain ⟨h1, h2, h3, h4⟩ := loB_spec s f (i + 1)
      simp only [Bool.false_eq_true, if_false]
      refine ⟨fun j g1 g2 => ?_, fun g => h2 (by omega), by omega, by omega⟩
      rcases Nat.eq_or_lt_of_le g1 with rfl | g1
      · exact h
      · exact h1 j g1 g2
    · simp only [if_true]
      exact ⟨fun j g1 g2 => by omega, fun _ => h, Nat.le_refl _, by omega⟩
def dK (k : Nat) (dn : Bool) : Lk := (((k % 8 : Nat) : Int), ((k / 8 : Nat) : Int), dn)
theorem dK_of {t : Lk} (h : domL t = true) : t = dK (aI t) t.2.2 := by
  obtain ⟨x, y, d⟩ := t
  have h1 := (domB_iff x y d).1 h
  have h2 : x ≤ 7 := by have := h1.2; cases d <;> simp at this <;> omega
  have hx := h1.1.1
  have hy := h1.1.2
  have e1 : x = (((y.toNat * 8 + x.toNat) % 8 : Nat) : Int) := by omega
  have e2 : y = (((y.toNat * 8 + x.toNat) / 8 : Nat) : Int) := by omega
  exact Prod.ext e1 (Prod.ext e2 rfl)
def chkF : Nat → Nat → List Lk → Bool
  | 0, _, hd => anyF hd
  | f + 1, s, hd => anyF hd || (decide (loB s 64 0 < 64) && [false, true].all fun dn =>
      let t := dK (loB s 64 0) dn
      !(domL t && s.testBit (bI t)) || chkF f (s ^^^ dM t) (hd ++ [t]))
theorem chkF_all : ∀ (f s : Nat) (hd : List Lk), chkF f s hd = true → ∀ tl, Sorted tl → (∀ i, i < 64 → cc tl i = if s.testBit i then 1 else 0) → ∃ l, l ∈ hd ++ tl ∧ prt l ∈ hd ++ tl
  | 0, s, hd, h, tl, _, _ => by
    obtain ⟨l, h1, h2⟩ := anyF_get h
    exact ⟨l, by simp [h1], by simp [h2]⟩
  | f + 1, s, hd, h, tl, hs, hc => by
    rw [chkF, Bool.or_eq_true] at h
    rcases h with h | h
    · obtain ⟨l, h1, h2⟩ := anyF_get h
      exact ⟨l, by simp [h1], by simp [h2]⟩
    · rw [Bool.and_eq_true, decide_eq_true_eq] at h
      obtain ⟨hk, hall⟩ := h
      obtain ⟨p1, p2, _, _⟩ := loB_spec s 64 0
      have hbit := p2 (by omega)
      generalize loB s 64 0 = k at *
      have hck := hc k hk
      rw [hbit, if_pos rfl] at hck
      cases tl with
      | nil => simp [cc] at hck
      | cons t tl =>
        have htd : domL t = true := hs.2 t (by simp)
        have htl := ab_lt htd
        have hin : ∀ m ∈ t :: tl, ∀ i, i < 64 → ovr m i = true → s.testBit i = true := by
          intro m hm i hi ho
          have g1 := cc_pos hm ho
          rw [hc i hi] at g1
          cases hb : s.testBit i
          · rw [hb] at g1; simp at g1
          · rfl
        have hta : k ≤ aI t := by
          have g := hin t (by simp) (aI t) (by omega) (by simp [ovr])
          rcases Nat.lt_or_ge (aI t) k with g2 | g2
          · rw [p1 _ (Nat.zero_le _) g2] at g; simp at g
          · exact g2
        have htk : aI t = k := by
          obtain ⟨m, hm, ho⟩ := cc_get (ls := t :: tl) (i := k) (by omega)
          have hmd := hs.2 m hm
          have hml := ab_lt hmd
          have hma : k ≤ aI m := by
            have g := hin m hm (aI m) (by omega) (by simp [ovr])
            rcases Nat.lt_or_ge (aI m) k with g2 | g2
            · rw [p1 _ (Nat.zero_le _) g2] at g; simp at g
            · exact g2
          have hmk : aI m = k := by
            unfold ovr at ho
            simp only [Bool.or_eq_true, beq_iff_eq] at ho
            rcases ho with ho | ho
            · exact ho
            · omega
          rcases List.mem_cons.1 hm with rfl | hm
          · exact hmk
          · have h1 := (List.pairwise_cons.1 hs.1).1 m hm
            rw [ordL_eq, ordL_eq] at h1
            split at h1 <;> split at h1 <;> omega
        have hte := dK_of htd
        rw [htk] at hte
        have hbt : s.testBit (bI t) = true := hin t (by simp) (bI t) (by omega) (by simp [ovr])
        have hch : chkF f (s ^^^ dM t) (hd ++ [t]) = true := by
          have g := List.all_eq_true.1 hall t.2.2 (by cases t.2.2 <;> simp)
          simp only [← hte, htd, hbt, Bool.and_self, Bool.not_true, Bool.false_or] at g
          exact g
        obtain ⟨l, q1, q2⟩ := chkF_all f _ _ hch tl ⟨(List.pairwise_cons.1 hs.1).2, fun a ha => hs.2 a (by simp [ha])⟩ (fun i hi => by
          have g1 := hc i hi
          rw [cc_cons] at g1
          rw [Nat.testBit_xor, dM_ab, ab_bit]
          have g2 : (decide (aI t = i) || decide (bI t = i)) = ovr t i := by
            unfold ovr
            by_cases e1 : aI t = i <;> by_cases e2 : bI t = i <;> simp [e1, e2]
          rw [g2]
          cases ho : ovr t i
          · rw [ho] at g1; simp at g1 ⊢; exact g1
          · have g3 := hin t (by simp) i hi ho
            rw [ho, g3] at g1
            rw [g3]; simp at g1 ⊢; omega)
        exact ⟨l, by simpa using q1, by simpa using q2⟩
theorem flip_some {R : Nat} {ls : List Lk} (hk : chkF 40 R [] = true) (h : Til R ls) : ∃ l, l ∈ ls ∧ prt l ∈ ls := by
  obtain ⟨l, h1, h2⟩ := chkF_all 40 R [] hk ls h.so h.cv
  exact ⟨l, by simpa using h1, by simpa using h2⟩
theorem prt_quad {l : Lk} (h : domL l = true) (hp : domL (prt l) = true) : (0 ≤ l.1 ∧ l.1 ≤ 6) ∧ (0 ≤ l.2.1 ∧ l.2.1 ≤ 6) ∧ (quadL l.1 l.2.1 l.2.2).1 = l ∧ (quadL l.1 l.2.1 l.2.2).2 = prt l := by
  obtain ⟨x, y, d⟩ := l
  have h1 := (domB_iff _ _ _).1 h
  cases d
  · have h2 := (domB_iff _ _ _).1 (show domB x (y + 1) false = true from hp)
    simp at h1 h2
    exact ⟨by simp; omega, by simp; omega, rfl, rfl⟩
  · have h2 := (domB_iff _ _ _).1 (show domB (x + 1) y true = true from hp)
    simp at h1 h2
    exact ⟨by simp; omega, by simp; omega, rfl, rfl⟩
end Go.Proofs.YtehnbalbpfmijaaGreatDoor

namespace Go.Proofs.YtehnbalbpfmijaaGreatDoor
open Go.RowKit
set_option linter.unusedVariables false

/-- The cells of a square. -/
def sqR (s : Nat) : Nat := setZ (rectZ s s)
theorem sq_lt {s : Nat} (hs : s = 2 ∨ s = 4 ∨ s = 6) : sqR s < 18446744073709551616 := by rcases hs with rfl | rfl | rfl <;> decide +kernel
theorem sqR_bit {s : Nat} (hs : s = 2 ∨ s = 4 ∨ s = 6) {i : Nat} (hi : i < 64) : (sqR s).testBit i = (decide (i % 8 < s) && decide (i / 8 < s)) := by
  have h := rect_bit s (i % 8) (i / 8) (by omega) (by omega) (by omega)
  have e : cix (i % 8) (i / 8) = i := by unfold cix; omega
  rw [e] at h
  exact h
def sizes : List Nat := [2, 4, 6]
theorem mem_sizes {s : Nat} (hs : s = 2 ∨ s = 4 ∨ s = 6) : s ∈ sizes := by rcases hs with rfl | rfl | rfl <;> simp [sizes]
/-- Where a cell goes. -/
def sgm (t : Bool) (s i : Nat) : Nat := cix (mapC t s ((i % 8 : Nat) : Int) ((i / 8 : Nat) : Int)).1.toNat (mapC t s ((i % 8 : Nat) : Int) ((i / 8 : Nat) : Int)).2.toNat
def inSq (s : Nat) (l : Lk) : Bool := domL l && (sqR s).testBit (aI l) && (sqR s).testBit (bI l)
theorem sgm_tab : (sizes.all fun s => [false, true].all fun t => (List.range 64).all fun i => !(sqR s).testBit i || (decide (sgm t s i < 64) && (sqR s).testBit (sgm t s i) && ((List.range 64).all fun j => !(sqR s).testBit j || sgm t s i != sgm t s j || i == j) && ((List.range 64).any fun j => (sqR s).testBit j && sgm t s j == i))) = true := by decide +kernel
theorem sgm_at {s : Nat} (hs : s = 2 ∨ s = 4 ∨ s = 6) (t : Bool) {i : Nat} (hi : i < 64) (h : (sqR s).testBit i = true) :
    (sgm t s i < 64 ∧ (sqR s).testBit (sgm t s i) = true) ∧ (∀ j, j < 64 → (sqR s).testBit j = true → sgm t s i = sgm t s j → i = j) ∧ ∃ j, j < 64 ∧ (sqR s).testBit j = true ∧ sgm t s j = i := by
  have h0 := List.all_eq_true.1 (List.all_eq_true.1 (List.all_eq_true.1 sgm_tab s (mem_sizes hs)) t (by cases t <;> simp)) i (by simpa using hi)
  rw [h, Bool.not_true, Bool.false_or, Bool.and_eq_true, Bool.and_eq_true, Bool.and_eq_true, decide_eq_true_eq] at h0
  obtain ⟨⟨⟨h1, h2⟩, h3⟩, h4⟩ := h0
  refine ⟨⟨h1, h2⟩, fun j hj hb he => ?_, ?_⟩
  · have g := List.all_eq_true.1 h3 j (by simpa using hj)
    rw [hb, he] at g
    simpa using g
  · obtain ⟨j, g1, g2⟩ := List.any_eq_true.1 h4
    rw [Bool.and_eq_true, beq_iff_eq] at g2
    exact ⟨j, by simpa using g1, g2⟩
def dTab : List Lk := (List.range 64).flatMap fun k => [dK k false, dK k true]
theorem mem_dTab {l : Lk} (h : domL l = true) : l ∈ dTab := by
  rw [dK_of h]
  refine List.mem_flatMap.2 ⟨aI l, by have := ab_lt h; simp; omega, ?_⟩
  cases l.2.2 <;> simp
theorem mov_tab : (sizes.all fun s => [false, true].all fun t => dTab.all fun l => !inSq s l || (inSq s (movL t s l) && ((aI (movL t s l) == sgm t s (aI l) && bI (movL t s l) == sgm t s (bI l)) || (aI (movL t s l) == sgm t s (bI l) && bI (movL t s l) == sgm t s (aI l))))) = true := by decide +kernel
theorem mov_at {s : Nat} (hs : s = 2 ∨ s = 4 ∨ s = 6) (t : Bool) {l : Lk} (h : inSq s l = true) :
    inSq s (movL t s l) = true ∧ ((aI (movL t s l) = sgm t s (aI l) ∧ bI (movL t s l) = sgm t s (bI l)) ∨ (aI (movL t s l) = sgm t s (bI l) ∧ bI (movL t s l) = sgm t s (aI l))) := by
  have hd : domL l = true := by unfold inSq at h; simp only [Bool.and_eq_true] at h; exact h.1.1
  have h0 := List.all_eq_true.1 (List.all_eq_true.1 (List.all_eq_true.1 mov_tab s (mem_sizes hs)) t (by cases t <;> simp)) l (mem_dTab hd)
  rw [h] at h0
  simpa using h0
theorem inSq_parts {s : Nat} {l : Lk} (h : inSq s l = true) : domL l = true ∧ (sqR s).testBit (aI l) = true ∧ (sqR s).testBit (bI l) = true := by
  unfold inSq at h; simp only [Bool.and_eq_true] at h; exact ⟨h.1.1, h.1.2, h.2⟩
theorem ovr_mov {s : Nat} (hs : s = 2 ∨ s = 4 ∨ s = 6) (t : Bool) {l : Lk} (h : inSq s l = true) {i : Nat} (hi : i < 64) (hb : (sqR s).testBit i = true) : ovr (movL t s l) (sgm t s i) = ovr l i := by
  obtain ⟨h1, h2, h3⟩ := inSq_parts h
  have hab := ab_lt h1
  obtain ⟨_, hm⟩ := mov_at hs t h
  have ia := (sgm_at hs t (show aI l < 64 by omega) h2).2.1 i hi hb
  have ib := (sgm_at hs t (show bI l < 64 by omega) h3).2.1 i hi hb
  unfold ovr
  rw [Bool.eq_iff_iff, Bool.or_eq_true, Bool.or_eq_true, beq_iff_eq, beq_iff_eq, beq_iff_eq, beq_iff_eq]
  rcases hm with ⟨e1, e2⟩ | ⟨e1, e2⟩
  · rw [e1, e2]
    exact ⟨fun h => h.elim (fun h => .inl (ia h)) fun h => .inr (ib h), fun h => h.elim (fun h => .inl (by rw [h])) fun h => .inr (by rw [h])⟩
  · rw [e1, e2]
    exact ⟨fun h => h.elim (fun h => .inr (ib h)) fun h => .inl (ia h), fun h => h.elim (fun h => .inr (by rw [h])) fun h => .inl (by rw [h])⟩
theorem movTo_map (t : Bool) (s : Int) (ls : List Lk) : ∀ k, k ≤ ls.length → movTo t s ls k = (ls.take k).map (movL t s)
  | 0, _ => by simp [movTo]
  | k + 1, hk => by rw [movTo, movTo_map t s ls k (by omega), take_get (by omega), List.map_append]; rfl
theorem til_in {R : Nat} {ls : List Lk} (h : Til R ls) {l : Lk} (hl : l ∈ ls) : domL l = true ∧ R.testBit (aI l) = true ∧ R.testBit (bI l) = true := by
  have hd := h.so.2 l hl
  have hab := ab_lt hd
  have key : ∀ i, i < 64 → ovr l i = true → R.testBit i = true := by
    intro i hi ho
    have g1 := cc_pos hl ho
    rw [h.cv i hi] at g1
    cases hb : R.testBit i
    · rw [hb] at g1; simp at g1
    · rfl
  exact ⟨hd, key _ (by omega) (by simp [ovr]), key _ (by omega) (by simp [ovr])⟩
theorem til_inSq {s : Nat} {ls : List Lk} (h : Til (sqR s) ls) {l : Lk} (hl : l ∈ ls) : inSq s l = true := by
  obtain ⟨h1, h2, h3⟩ := til_in h hl
  unfold inSq
  rw [h1, h2, h3]; rfl
theorem map_til {s : Nat} (hs : s = 2 ∨ s = 4 ∨ s = 6) (t : Bool) {ls : List Lk} (h : Til (sqR s) ls) :
    (∀ d ∈ ls.map (movL t s), domL d = true) ∧ ∀ i, i < 64 → cc (ls.map (movL t s)) i = if (sqR s).testBit i then 1 else 0 := by
  refine ⟨fun d hd => ?_, fun j hj => ?_⟩
  · obtain ⟨l, hl, rfl⟩ := List.mem_map.1 hd
    exact (inSq_parts (mov_at hs t (til_inSq h hl)).1).1
  · cases hb : (sqR s).testBit j
    · rw [if_neg (by simp)]
      unfold cc
      rw [List.countP_eq_zero]
      intro d hd ho
      obtain ⟨l, hl, rfl⟩ := List.mem_map.1 hd
      obtain ⟨_, g2, g3⟩ := inSq_parts (mov_at hs t (til_inSq h hl)).1
      unfold ovr at ho
      simp only [Bool.or_eq_true, beq_iff_eq] at ho
      rcases ho with rfl | rfl
      · rw [hb] at g2; simp at g2
      · rw [hb] at g3; simp at g3
    · obtain ⟨i, hi, hbi, rfl⟩ := (sgm_at hs t hj hb).2.2
      rw [if_pos rfl]
      have g := h.cv i hi
      rw [hbi, if_pos rfl] at g
      rw [← g]
      unfold cc
      rw [List.countP_map]
      refine List.countP_congr fun l hl => ?_
      rw [Function.comp, ovr_mov hs t (til_inSq h hl) hi hbi]
theorem flt_sq {s : Nat} (hs : s = 2 ∨ s = 4 ∨ s = 6) (ls : List Lk) : fltB s s ls = sTileB (sqR s) ls := by
  unfold fltB sqR
  have : inB (s : Int) 1 8 = true := by rw [inB_iff]; omega
  rw [this, Bool.true_and, Bool.true_and, Int.toNat_natCast]
/-- What is turned or mirrored is a tiling, and a list of the same dominoes, moved. -/
theorem mov_til {s : Nat} (hs : s = 2 ∨ s = 4 ∨ s = 6) (t : Bool) {ls : List Lk} (h : Til (sqR s) ls) : Til (sqR s) (movZ t s ls) ∧ (movZ t s ls).Perm (ls.map (movL t s)) := by
  have h1 := movTo_map t s ls ls.length (Nat.le_refl _)
  rw [List.take_length] at h1
  have e : movZ t s ls = sortI (ls.map (movL t s)) (ls.map (movL t s)).length := by
    unfold movZ
    rw [flt_sq hs, til_of h, if_pos rfl, h1, List.length_map]
  obtain ⟨m1, m2⟩ := map_til hs t h
  rw [e]
  have hn := nodup_of_cc m1 m2
  refine ⟨sort_til hn m1 m2, ?_⟩
  have := sortI_perm hn m1 _ (Nat.le_refl _)
  rwa [List.take_length] at this

/-! ### Fault lines -/
theorem free_all (down : Bool) (k : Nat) (ls : List Lk) : ∀ n, n ≤ ls.length → freeTo down k ls n = (ls.take n).all (okD down k)
  | 0, _ => by simp [freeTo]
  | n + 1, h => by rw [freeTo, free_all down k ls n (by omega), take_get (by omega), List.all_append]; simp
theorem free_len (down : Bool) (k : Nat) (ls : List Lk) : freeTo down k ls ls.length = ls.all (okD down k) := by rw [free_all _ _ _ _ (Nat.le_refl _), List.take_length]
theorem all_perm {l m : List Lk} (h : l.Perm m) (p : Lk → Bool) : l.all p = m.all p := by
  rw [Bool.eq_iff_iff, List.all_eq_true, List.all_eq_true]
  exact ⟨fun g x hx => g x (h.mem_iff.2 hx), fun g x hx => g x (h.mem_iff.1 hx)⟩
theorem okD_tab : (sizes.all fun s => dTab.all fun l => !inSq s l || (List.range s).all fun k => k == 0 || okD true k (movL true s l) == okD false (s - k) l) = true := by decide +kernel
theorem okD_mov {s : Nat} (hs : s = 2 ∨ s = 4 ∨ s = 6) {l : Lk} (h : inSq s l = true) {k : Nat} (h1 : 1 ≤ k) (h2 : k < s) : okD true k (movL true s l) = okD false (s - k) l := by
  have h0 := List.all_eq_true.1 (List.all_eq_true.1 okD_tab s (mem_sizes hs)) l (mem_dTab (inSq_parts h).1)
  rw [h, Bool.not_true, Bool.false_or] at h0
  have h3 := List.all_eq_true.1 h0 k (by simpa using h2)
  rw [Bool.or_eq_true, beq_iff_eq, beq_iff_eq] at h3
  rcases h3 with h3 | h3
  · omega
  · exact h3
theorem free_mov {s : Nat} (hs : s = 2 ∨ s = 4 ∨ s = 6) {ls : List Lk} (h : Til (sqR s) ls) {k : Nat} (h1 : 1 ≤ k) (h2 : k < s) :
    freeTo true k (movZ true s ls) (movZ true s ls).length = freeTo false (s - k) ls ls.length := by
  rw [free_len, free_len, all_perm (mov_til hs true h).2, List.all_map]
  rw [Bool.eq_iff_iff, List.all_eq_true, List.all_eq_true]
  constructor
  · intro g l hl
    rw [← okD_mov hs (til_inSq h hl) h1 h2]; exact g l hl
  · intro g l hl
    have := g l hl
    rw [← okD_mov hs (til_inSq h hl) h1 h2] at this
    exact this
theorem fltTo_len1 (down : Bool) (ls : List Lk) (k : Nat) : (fltTo down ls (k + 1)).length = (fltTo down ls k).length + (if freeTo down (k + 1) ls ls.length then 1 else 0) := by
  rw [fltTo, List.length_append]
  split <;> rfl
theorem flt_lens (down : Bool) (ls : List Lk) (b : Nat → Nat) (hb : ∀ k, b k = if freeTo down k ls ls.length then 1 else 0) :
    (fltTo down ls 1).length = b 1 ∧ (fltTo down ls 3).length = b 1 + b 2 + b 3 ∧ (fltTo down ls 5).length = b 1 + b 2 + b 3 + b 4 + b 5 := by
  have h0 : (fltTo down ls 0).length = 0 := rfl
  have h1 := fltTo_len1 down ls 0
  have h2 := fltTo_len1 down ls 1
  have h3 := fltTo_len1 down ls 2
  have h4 := fltTo_len1 down ls 3
  have h5 := fltTo_len1 down ls 4
  simp only [← hb, Nat.zero_add, Nat.reduceAdd] at h1 h2 h3 h4 h5
  refine ⟨?_, ?_, ?_⟩ <;> omega
/-- A turned tiling's lines down are the lines across. -/
theorem flt_turn {s : Nat} (hs : s = 2 ∨ s = 4 ∨ s = 6) {ls : List Lk} (h : Til (sqR s) ls) : (fltZ s s s true (movZ true s ls)).length = (fltZ s s s false ls).length := by
  have e1 : fltZ s s s true (movZ true s ls) = fltTo true (movZ true s ls) (s - 1) := by
    unfold fltZ; rw [flt_sq hs, til_of (mov_til hs true h).1, if_pos rfl, Int.toNat_natCast]
  have e2 : fltZ s s s false ls = fltTo false ls (s - 1) := by
    unfold fltZ; rw [flt_sq hs, til_of h, if_pos rfl, Int.toNat_natCast]
  rw [e1, e2]
  have hf := fun k h1 h2 => free_mov hs h (k := k) h1 h2
  obtain ⟨p1, p3, p5⟩ := flt_lens true (movZ true s ls) (fun k => if freeTo true k (movZ true s ls) (movZ true s ls).length then 1 else 0) fun _ => rfl
  obtain ⟨q1, q3, q5⟩ := flt_lens false ls (fun k => if freeTo false k ls ls.length then 1 else 0) fun _ => rfl
  rcases hs with rfl | rfl | rfl
  · have f1 := hf 1 (by omega) (by omega)
    simp only [Nat.reduceSub] at f1 ⊢
    rw [p1, q1, f1]
  · have f1 := hf 1 (by omega) (by omega)
    have f2 := hf 2 (by omega) (by omega)
    have f3 := hf 3 (by omega) (by omega)
    simp only [Nat.reduceSub] at f1 f2 f3 ⊢
    rw [p3, q3, f1, f2, f3]
    omega
  · have f1 := hf 1 (by omega) (by omega)
    have f2 := hf 2 (by omega) (by omega)
    have f3 := hf 3 (by omega) (by omega)
    have f4 := hf 4 (by omega) (by omega)
    have f5 := hf 5 (by omega) (by omega)
    simp only [Nat.reduceSub] at f1 f2 f3 f4 f5 ⊢
    rw [p5, q5, f1, f2, f3, f4, f5]
    omega

/-! ### Every tiling of a small square has a fault line -/
def sm (f : Nat → Nat) : Nat → Nat
  | 0 => 0
  | n + 1 => sm f n + f n
theorem sm_add (f g : Nat → Nat) : ∀ n, sm (fun i => f i + g i) n = sm f n + sm g n
  | 0 => rfl
  | n + 1 => by simp only [sm, sm_add f g n]; omega
theorem sm_ext {f g : Nat → Nat} : ∀ n, (∀ i, i < n → f i = g i) → sm f n = sm g n
  | 0, _ => rfl
  | n + 1, h => by simp only [sm, sm_ext n fun i hi => h i (by omega), h n (by omega)]
theorem sm_ind (a c : Nat) : ∀ n, sm (fun i => if i = a then c else 0) n = if a < n then c else 0
  | 0 => by simp [sm]
  | n + 1 => by
    simp only [sm, sm_ind a c n]
    by_cases e : n = a
    · subst e; simp
    · have : (a < n + 1) = (a < n) := by rw [eq_iff_iff]; omega
      simp [e, this]
def gP (p : Nat → Bool) (l : Lk) : Nat := (if p (aI l) then 1 else 0) + if p (bI l) then 1 else 0
def wP (p : Nat → Bool) : List Lk → Nat
  | [] => 0
  | l :: ls => wP p ls + gP p l
theorem sm_ovr (p : Nat → Bool) {l : Lk} (h : domL l = true) : sm (fun i => if p i then (if ovr l i then 1 else 0) else 0) 64 = gP p l := by
  have hab := ab_lt h
  have e : sm (fun i => if p i then (if ovr l i then 1 else 0) else 0) 64 = sm (fun i => (if i = aI l then (if p (aI l) then 1 else 0) else 0) + (if i = bI l then (if p (bI l) then 1 else 0) else 0)) 64 := by
    refine sm_ext 64 fun i _ => ?_
    unfold ovr
    by_cases h1 : aI l = i
    · have h2 : bI l ≠ i := by omega
      subst h1
      simp [Ne.symm h2]
    · by_cases h2 : bI l = i
      · subst h2
        simp [Ne.symm h1]
      · simp [h1, h2, Ne.symm h1, Ne.symm h2]
  rw [e, sm_add, sm_ind, sm_ind]
  simp only [show aI l < 64 from by omega, hab.2, if_true]
  rfl
theorem wP_eq (p : Nat → Bool) : ∀ ls : List Lk, (∀ d ∈ ls, domL d = true) → sm (fun i => if p i then cc ls i else 0) 64 = wP p ls
  | [], _ => by
    have : sm (fun i => if p i then cc ([] : List Lk) i else 0) 64 = sm (fun i => if i = 0 then 0 else 0) 64 := sm_ext 64 fun i _ => by simp [cc]
    rw [this, sm_ind]; simp [wP]
  | l :: ls, h => by
    rw [wP, ← wP_eq p ls (fun d hd => h d (by simp [hd])), ← sm_ovr p (h l (by simp)), ← sm_add]
    refine sm_ext 64 fun i _ => ?_
    rw [cc_cons]
    cases p i <;> simp
/-- How many dominoes cross a line. -/
def crs (down : Bool) (k : Nat) (ls : List Lk) : Nat := ls.countP fun l => !okD down k l
def lineP (down : Bool) (k : Nat) (i : Nat) : Bool := if down then decide (i % 8 < k) else decide (i / 8 < k)
theorem gP_crs {l : Lk} (h : domL l = true) (down : Bool) {k : Nat} (hk : 1 ≤ k) : gP (lineP down k) l % 2 = if !okD down k l then 1 else 0 := by
  obtain ⟨x, y, d⟩ := l
  have h1 := (domB_iff _ _ _).1 h
  obtain ⟨n, rfl⟩ := Int.eq_ofNat_of_zero_le h1.1.1
  obtain ⟨m, rfl⟩ := Int.eq_ofNat_of_zero_le h1.1.2
  have hx : n ≤ 7 := by have := h1.2; cases d <;> simp at this <;> omega
  unfold gP lineP okD aI bI cix
  have e1 : ((m : Int) + 1).toNat = m + 1 := by omega
  have e2 : ((n : Int) + 1).toNat = n + 1 := by omega
  cases d <;> cases down <;> simp at h1 ⊢ <;> (repeat' split) <;> omega
theorem wP_crs (down : Bool) {k : Nat} (hk : 1 ≤ k) : ∀ ls : List Lk, (∀ d ∈ ls, domL d = true) → wP (lineP down k) ls % 2 = crs down k ls % 2
  | [], _ => by simp [wP, crs]
  | l :: ls, h => by
    have h1 := gP_crs (h l (by simp)) down hk
    have h2 := wP_crs down hk ls fun d hd => h d (by simp [hd])
    have h3 : crs down k (l :: ls) = crs down k ls + if !okD down k l then 1 else 0 := List.countP_cons
    rw [wP, h3]
    omega
theorem even_tab : (sizes.all fun s => [false, true].all fun down => (List.range s).all fun k => sm (fun i => if lineP down k i then (if (sqR s).testBit i then 1 else 0) else 0) 64 % 2 == 0) = true := by decide +kernel
theorem crs_even {s : Nat} (hs : s = 2 ∨ s = 4 ∨ s = 6) {ls : List Lk} (h : Til (sqR s) ls) (down : Bool) {k : Nat} (h1 : 1 ≤ k) (h2 : k < s) : crs down k ls % 2 = 0 := by
  rw [← wP_crs down h1 ls h.so.2, ← wP_eq _ ls h.so.2]
  have e : sm (fun i => if lineP down k i then cc ls i else 0) 64 = sm (fun i => if lineP down k i then (if (sqR s).testBit i then 1 else 0) else 0) 64 := sm_ext 64 fun i hi => by rw [h.cv i hi]
  rw [e]
  have := List.all_eq_true.1 (List.all_eq_true.1 (List.all_eq_true.1 even_tab s (mem_sizes hs)) down (by cases down <;> simp)) k (by simpa using h2)
  simpa using this
theorem crs_two {s : Nat} (hs : s = 2 ∨ s = 4 ∨ s = 6) {ls : List Lk} (h : Til (sqR s) ls) (down : Bool) {k : Nat} (h1 : 1 ≤ k) (h2 : k < s) (hf : freeTo down k ls ls.length = false) : 2 ≤ crs down k ls := by
  have g := crs_even hs h down h1 h2
  rw [free_len] at hf
  have : 0 < crs down k ls := by
    unfold crs
    rw [List.countP_pos_iff]
    rw [← Bool.not_eq_true, List.all_eq_true] at hf
    refine Classical.byContradiction fun hn => hf fun l hl => ?_
    cases ho : okD down k l
    · exact absurd ⟨l, hl, by simp [ho]⟩ hn
    · rfl
  omega
theorem crs_cons (down : Bool) (k : Nat) (l : Lk) (ls : List Lk) : crs down k (l :: ls) = crs down k ls + if !okD down k l then 1 else 0 := List.countP_cons
theorem crs_sum : ∀ ls : List Lk, crs true 1 ls + crs true 2 ls + crs true 3 ls + crs true 4 ls + crs true 5 ls + (crs false 1 ls + crs false 2 ls + crs false 3 ls + crs false 4 ls + crs false 5 ls) ≤ ls.length
  | [] => by simp [crs]
  | l :: ls => by
    have ih := crs_sum ls
    obtain ⟨x, y, d⟩ := l
    simp only [crs_cons, List.length_cons]
    have key : (if !okD true 1 (x, y, d) then 1 else 0) + (if !okD true 2 (x, y, d) then 1 else 0) + (if !okD true 3 (x, y, d) then 1 else 0) + (if !okD true 4 (x, y, d) then 1 else 0) + (if !okD true 5 (x, y, d) then 1 else 0) + ((if !okD false 1 (x, y, d) then 1 else 0) + (if !okD false 2 (x, y, d) then 1 else 0) + (if !okD false 3 (x, y, d) then 1 else 0) + (if !okD false 4 (x, y, d) then 1 else 0) + (if !okD false 5 (x, y, d) then 1 else 0)) ≤ 1 := by
      unfold okD
      cases d
      · simp
        (repeat' split) <;> omega
      · simp
        (repeat' split) <;> omega
    omega
theorem til_len {s : Nat} (hs : s = 2 ∨ s = 4 ∨ s = 6) {ls : List Lk} (h : Til (sqR s) ls) : 2 * ls.length = s * s := by
  have h1 := til_of h
  unfold sTileB at h1
  rw [Bool.and_eq_true, decide_eq_true_eq] at h1
  rw [h1.2]
  rcases hs with rfl | rfl | rfl <;> decide +kernel
/-- A fault line. -/
theorem flt_some {s : Nat} (hs : s = 2 ∨ s = 4 ∨ s = 6) {ls : List Lk} (h : Til (sqR s) ls) : 0 < (fltZ s s s true ls).length + (fltZ s s s false ls).length := by
  have e2 : ∀ down, fltZ s s s down ls = fltTo down ls (s - 1) := by
    intro down; unfold fltZ; rw [flt_sq hs, til_of h, if_pos rfl, Int.toNat_natCast]
  rw [e2, e2]
  refine Classical.byContradiction fun hn => ?_
  have hsum := crs_sum ls
  have hlen := til_len hs h
  have two := fun down k h1 h2 => crs_two hs h down (k := k) h1 h2
  have fr : ∀ b : Bool, (if b = true then 1 else 0) = 0 → b = false := by intro b; cases b <;> simp
  obtain ⟨p1, p3, p5⟩ := flt_lens true ls (fun k => if freeTo true k ls ls.length then 1 else 0) fun _ => rfl
  obtain ⟨q1, q3, q5⟩ := flt_lens false ls (fun k => if freeTo false k ls ls.length then 1 else 0) fun _ => rfl
  rcases hs with rfl | rfl | rfl
  · simp only [Nat.reduceSub] at hn
    rw [p1, q1] at hn
    have a1 := two true 1 (by omega) (by omega) (fr _ (by omega))
    have b1 := two false 1 (by omega) (by omega) (fr _ (by omega))
    omega
  · simp only [Nat.reduceSub] at hn
    rw [p3, q3] at hn
    have a1 := two true 1 (by omega) (by omega) (fr _ (by omega))
    have a2 := two true 2 (by omega) (by omega) (fr _ (by omega))
    have a3 := two true 3 (by omega) (by omega) (fr _ (by omega))
    have b1 := two false 1 (by omega) (by omega) (fr _ (by omega))
    have b2 := two false 2 (by omega) (by omega) (fr _ (by omega))
    have b3 := two false 3 (by omega) (by omega) (fr _ (by omega))
    omega
  · simp only [Nat.reduceSub] at hn
    rw [p5, q5] at hn
    have a1 := two true 1 (by omega) (by omega) (fr _ (by omega))
    have a2 := two true 2 (by omega) (by omega) (fr _ (by omega))
    have a3 := two true 3 (by omega) (by omega) (fr _ (by omega))
    have a4 := two true 4 (by omega) (by omega) (fr _ (by omega))
    have a5 := two true 5 (by omega) (by omega) (fr _ (by omega))
    have b1 := two false 1 (by omega) (by omega) (fr _ (by omega))
    have b2 := two false 2 (by omega) (by omega) (fr _ (by omega))
    have b3 := two false 3 (by omega) (by omega) (fr _ (by omega))
    have b4 := two false 4 (by omega) (by omega) (fr _ (by omega))
    have b5 := two false 5 (by omega) (by omega) (fr _ (by omega))
    omega
theorem flips_tab : (sizes.all fun s => chkF 40 (sqR s) []) = true := by decide +kernel
theorem sq_flip {s : Nat} (hs : s = 2 ∨ s = 4 ∨ s = 6) {ls : List Lk} (h : Til (sqR s) ls) : ∃ l, l ∈ ls ∧ prt l ∈ ls := flip_some (List.all_eq_true.1 flips_tab s (mem_sizes hs)) h
end Go.Proofs.YtehnbalbpfmijaaGreatDoor

namespace Go.Proofs.YtehnbalbpfmijaaGreatDoor
open Go.RowKit
set_option linter.unusedVariables false

theorem mv_tab : (sizes.all fun s => dTab.all fun l => !inSq s l || (movL true s (movL true s (movL true s (movL true s l))) == l && movL false s (movL false s l) == l)) = true := by decide +kernel
theorem mv_at {s : Nat} (hs : s = 2 ∨ s = 4 ∨ s = 6) {l : Lk} (h : inSq s l = true) : movL true s (movL true s (movL true s (movL true s l))) = l ∧ movL false s (movL false s l) = l := by
  have h0 := List.all_eq_true.1 (List.all_eq_true.1 mv_tab s (mem_sizes hs)) l (mem_dTab (inSq_parts h).1)
  rw [h] at h0
  simpa using h0
theorem map_self {f : Lk → Lk} : ∀ {ls : List Lk}, (∀ l ∈ ls, f l = l) → ls.map f = ls
  | [], _ => rfl
  | a :: r, h => by rw [List.map_cons, h a (by simp), map_self fun l hl => h l (by simp [hl])]
theorem turn_four {s : Nat} (hs : s = 2 ∨ s = 4 ∨ s = 6) {ls : List Lk} (h : Til (sqR s) ls) : movZ true s (movZ true s (movZ true s (movZ true s ls))) = ls := by
  obtain ⟨t1, p1⟩ := mov_til hs true h
  obtain ⟨t2, p2⟩ := mov_til hs true t1
  obtain ⟨t3, p3⟩ := mov_til hs true t2
  obtain ⟨t4, p4⟩ := mov_til hs true t3
  refine Sorted.eq t4.so h.so ?_
  have q := p4.trans ((p3.trans ((p2.trans (p1.map _)).map _)).map _)
  simp only [List.map_map] at q
  have e : ls.map (movL true (s : Int) ∘ movL true (s : Int) ∘ movL true (s : Int) ∘ movL true (s : Int)) = ls := map_self fun l hl => (mv_at hs (til_inSq h hl)).1
  rwa [e] at q
theorem mirror_two {s : Nat} (hs : s = 2 ∨ s = 4 ∨ s = 6) {ls : List Lk} (h : Til (sqR s) ls) : movZ false s (movZ false s ls) = ls := by
  obtain ⟨t1, p1⟩ := mov_til hs false h
  obtain ⟨t2, p2⟩ := mov_til hs false t1
  refine Sorted.eq t2.so h.so ?_
  have q := p2.trans (p1.map _)
  simp only [List.map_map] at q
  have e : ls.map (movL false (s : Int) ∘ movL false (s : Int)) = ls := map_self fun l hl => (mv_at hs (til_inSq h hl)).2
  rwa [e] at q

theorem fix2 : fixN 2 0 false = 2 ∧ fixN 2 0 true = 2 ∧ fixN 2 1 false = 0 ∧ fixN 2 1 true = 0 ∧ fixN 2 2 false = 2 ∧ fixN 2 2 true = 2 ∧ fixN 2 3 false = 0 ∧ fixN 2 3 true = 0 ∧ profZ (setZ (rectZ 2 2)) = 2 := by decide +kernel
theorem fix4 : ∃ a b c d e f g : Nat, fixN 4 0 false = 36 ∧ fixN 4 0 true = a ∧ fixN 4 1 false = b ∧ fixN 4 1 true = c ∧ fixN 4 2 false = d ∧ fixN 4 2 true = e ∧ fixN 4 3 false = f ∧ fixN 4 3 true = g ∧ a + b + c + d + e + f + g = 36 ∧ profZ (setZ (rectZ 4 4)) = 36 :=
  ⟨_, _, _, _, _, _, _, by decide +kernel, rfl, rfl, rfl, rfl, rfl, rfl, rfl, by decide +kernel, by decide +kernel⟩
/-- The numbers behind the law's last line. -/
theorem sym_nums {s : Nat} (hs : s = 2 ∨ s = 4) : (fixN s 0 false : Nat) = profZ (setZ (rectZ s s)) ∧ (∀ t m, fixN s t m ≤ 300) ∧
    fixN s 0 false + fixN s 0 true + fixN s 1 false + fixN s 1 true + fixN s 2 false + fixN s 2 true + fixN s 3 false + fixN s 3 true = 8 * clsN s ∧ clsN s ≤ 9 := by
  have hle : ∀ t m, fixN s t m ≤ 300 := fun t m => Nat.le_trans (numTo_le _ _ _) (fix_at hs).2.2
  rcases hs with rfl | rfl
  · obtain ⟨a, b, c, d, e, f, g, h, i⟩ := fix2
    refine ⟨by omega, hle, ?_, by rw [cls_tab2]; omega⟩
    rw [cls_tab2]; omega
  · obtain ⟨a, b, c, d, e, f, g, p0, p1, p2, p3, p4, p5, p6, p7, hs, hp⟩ := fix4
    refine ⟨by omega, hle, ?_, by rw [cls_tab4]; omega⟩
    rw [cls_tab4, p0, p1, p2, p3, p4, p5, p6, p7]; omega
end Go.Proofs.YtehnbalbpfmijaaGreatDoor
