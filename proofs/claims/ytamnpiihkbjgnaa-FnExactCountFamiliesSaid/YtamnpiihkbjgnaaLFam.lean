/- Families of paths as the reference counts them: l20Walk. -/
import Derived.Test.YtamnpiihkbjgnaaFam2
namespace Go.Proofs.Ytamnpiihkbjgnaa
open Go.RowKit
set_option linter.unusedVariables false

/-- The reference's marks: entry 6 y + x. -/
def usedArr (T : Nat) : Array Value := ((List.range 49).map fun k => Value.bool (T.testBit (cix (k % 6) (k / 6)))).toArray
def Used (w : World) (g T : Nat) : Prop := w.heap[g]? = some (.cells (usedArr T) 4 (0, 0))
theorem usedArr_get (T x y : Nat) (hx : x ≤ 5) (hy : y ≤ 5) : (usedArr T)[y * 6 + x]? = some (.bool (hasB T x y)) := by
  have h1 : (y * 6 + x) % 6 = x := by omega
  have h2 : (y * 6 + x) / 6 = y := by omega
  have h3 : y * 6 + x < 49 := by omega
  simp [usedArr, hasB, h1, h2, h3]
theorem used_set (T x y : Nat) (hx : x ≤ 5) (hy : y ≤ 5) : (usedArr T).setIfInBounds (y * 6 + x) (.bool true) = usedArr (T ||| 2 ^ cix x y) := by
  apply Array.ext
  · simp [usedArr]
  · intro k h1 h2
    have hk : k < 49 := by simpa [usedArr] using h2
    have hk' : k < (usedArr T).size := by simpa [usedArr] using hk
    rw [Array.getElem_setIfInBounds hk']
    simp only [usedArr, List.getElem_toArray, List.getElem_map, List.getElem_range, Nat.testBit_or, Nat.testBit_two_pow]
    by_cases e : y * 6 + x = k
    · have : cix x y = cix (k % 6) (k / 6) := by unfold cix; omega
      simp [e, this]
    · have : ¬ cix x y = cix (k % 6) (k / 6) := by unfold cix; omega
      simp [e, this]
theorem used_reset (T x y : Nat) (hx : x ≤ 5) (hy : y ≤ 5) (h : hasB T x y = false) : (usedArr (T ||| 2 ^ cix x y)).setIfInBounds (y * 6 + x) (.bool false) = usedArr T := by
  rw [← used_set T x y hx hy]
  apply Array.ext
  · simp [usedArr]
  · intro k h1 h2
    have hk : k < 49 := by simpa [usedArr] using h2
    have hk' : k < (usedArr T).size := by simpa [usedArr] using hk
    rw [Array.getElem_setIfInBounds (by simpa using hk'), Array.getElem_setIfInBounds hk']
    by_cases e : y * 6 + x = k
    · have h3 : (k % 6) = x := by omega
      have h4 : (k / 6) = y := by omega
      unfold hasB at h
      simp [e, usedArr, h3, h4, h]
    · simp [e]

def LPost (w : World) (n : Int) (e : Ending) (w' : World) : Prop := e = .returned (.int .i64 (wrap64 n)) ∧ Below w.heap.size w w'
def usedV (g : Nat) : Value := .slice (some ⟨g, 0, none⟩) 49 49
def LWalk (ps qs : List (Int × Int)) (rest : Nat → Int) (i d x y T : Nat) : Prop := ∀ (vS vE : Value) (B g : Nat) (w : World), RdP w B vS ps → RdP w B vE qs → B ≤ g → Used w g T →
  Calls Try.prog 63 #[vS, vE, .int .i64 (i : Int), spotV x y, .slice (some ⟨g, 0, none⟩) 49 49] w (LPost w (walkZ (px qs i).toNat (py qs i).toNat rest d x y T))

/-- The cells that one call reads. -/
abbrev LS (w' : World) (b : Nat) (P : Addr) (g k : Nat) (x y ex ey : Int) (t : Bool) : Prop :=
  w'.cell? ⟨b, 0, none⟩ = some (.int .i64 x) ∧ w'.cell? ⟨b, 1, none⟩ = some (.int .i64 y) ∧ w'.cell? P = some (.int .i64 ex) ∧ w'.cell? ⟨P.block, P.off + 1, none⟩ = some (.int .i64 ey) ∧ w'.cell? ⟨g, k, none⟩ = some (.bool t)
theorem LS.start {w : World} {B b g k : Nat} {P : Addr} {x y ex ey : Int} {t : Bool} (hP : P.block < w.heap.size) (hg : g < w.heap.size) (h2 : w.cell? P = some (.int .i64 ex)) (h3 : w.cell? ⟨P.block, P.off + 1, none⟩ = some (.int .i64 ey)) (h4 : w.cell? ⟨g, k, none⟩ = some (.bool t)) (_ : B = b) :
    LS (w.alloc (.cells #[.int .i64 x, .int .i64 y] 69)) w.heap.size P g k x y ex ey t := by
  have hb : Below w.heap.size w (w.alloc (.cells #[.int .i64 x, .int .i64 y] 69)) := (Below.refl _ _).alloc (Nat.le_refl _) _
  have hn := heap_alloc_new w (.cells #[.int .i64 x, .int .i64 y] 69)
  exact ⟨by rw [blk_cell hn]; rfl, by rw [blk_cell hn]; rfl, (hb.cell (by omega)).trans h2, (hb.cell (by simp; omega)).trans h3, (hb.cell (by simp; omega)).trans h4⟩

set_option maxRecDepth 100000 in
set_option maxHeartbeats 4000000 in
theorem lwalk_no (ps qs : List (Int × Int)) (rest : Nat → Int) (i d x y T ex ey : Nat) (hi : i < qs.length) (hl : qs.length ≤ 3) (hex : px qs i = (ex : Int)) (hey : py qs i = (ey : Int)) (hex5 : ex ≤ 5) (hey5 : ey ≤ 5)
    (hx : x ≤ 6) (hy : y ≤ 6) (hno : ex < x ∨ ey < y ∨ hasB T x y = true) : LWalk ps qs rest i (d + 1) x y T := by
  intro vS vE B g w hS hE hBg hU
  have hz : walkZ (px qs i).toNat (py qs i).toNat rest (d + 1) x y T = 0 := by
    rw [hex, hey, Int.toNat_natCast, Int.toNat_natCast]
    by_cases c1 : ex < x
    · exact walkZ_x c1
    · by_cases c2 : ey < y
      · exact walkZ_y c1 c2
      · exact walkZ_t c1 c2 (by rcases hno with h | h | h; omega; omega; exact h)
  rw [hz]
  clear hz
  have hg := lt_of_block hU
  obtain ⟨A0, c, rfl, g1, g2, hq⟩ := hE
  obtain ⟨A, rfl, hAb, hA0, hA1⟩ := hq i hi
  rw [hex] at hA0
  rw [hey] at hA1
  unfold maxLen at g2
  have hi0 : (0 : Int) ≤ (i : Int) := by omega
  have hi1 : (i : Int) < (qs.length : Int) := by omega
  have HB0 : Hid (Below w.heap.size w (w.alloc (.cells #[.int .i64 x, .int .i64 y] 69))) := (Below.refl _ _).alloc (Nat.le_refl _) _
  have HX := Lib.hid hex; have HY := Lib.hid hey
  clear hq hex hey hS
  have HB : ∀ nq, Hid (Below w.heap.size w ((w.alloc (.cells #[.int .i64 x, .int .i64 y] 69)).drewN nq)) := fun nq => HB0.out.trans (Drawn.below ⟨nq, rfl⟩ _)
  by_cases c1 : ex < x
  · have b1 : decide (ex < x) = true := by simp; omega
    clear hno
    have hS := LS.start (B := 0) (b := 0) (g := g) (k := 0) (x := x) (y := y) (t := T.testBit (cix 0 0)) (show (A.add (i * 2)).block < w.heap.size by rw [addBlock]; omega) hg hA0 hA1 (by rw [blk_cell hU]; exact usedArr_get T 0 0 (by omega) (by omega)) rfl
    go_enter Try.func63, Try.ntmps63
    go_wp2_with fail
    obtain ⟨f1, f2, f3, f4, f5⟩ := hS
    go_wp2_with fail
    generalize w.alloc (.cells #[.int .i64 x, .int .i64 y] 69) = W0 at *
    go_quiet (fail)
    go_wp2_with fail
    go_ret
    exact ⟨ret_int (by simp [wrap64]), (HB _).out⟩
  by_cases c2 : ey < y
  · have b1 : decide (ex < x) = false := by simp; omega
    have b2 : decide (ey < y) = true := by simp; omega
    clear hno
    have hS := LS.start (B := 0) (b := 0) (g := g) (k := 0) (x := x) (y := y) (t := T.testBit (cix 0 0)) (show (A.add (i * 2)).block < w.heap.size by rw [addBlock]; omega) hg hA0 hA1 (by rw [blk_cell hU]; exact usedArr_get T 0 0 (by omega) (by omega)) rfl
    go_enter Try.func63, Try.ntmps63
    go_wp2_with fail
    obtain ⟨f1, f2, f3, f4, f5⟩ := hS
    go_wp2_with fail
    generalize w.alloc (.cells #[.int .i64 x, .int .i64 y] 69) = W0 at *
    go_quiet (fail)
    go_wp2_with fail
    go_ret
    exact ⟨ret_int (by simp [wrap64]), (HB _).out⟩
  · have b1 : decide (ex < x) = false := by simp; omega
    have b2 : decide (ey < y) = false := by simp; omega
    have hb : hasB T x y = true := by rcases hno with h | h | h; omega; omega; exact h
    have k0 : (0 : Int) ≤ (y : Int) * 6 + (x : Int) := by omega
    have k1 : (y : Int) * 6 + (x : Int) < 49 := by omega
    clear hno
    have hS := LS.start (B := 0) (b := 0) (g := g) (k := y * 6 + x) (x := x) (y := y) (t := true) (show (A.add (i * 2)).block < w.heap.size by rw [addBlock]; omega) hg hA0 hA1 (by rw [blk_cell hU]; rw [usedArr_get T x y (by omega) (by omega), hb]) rfl
    go_enter Try.func63, Try.ntmps63
    go_wp2_with fail
    obtain ⟨f1, f2, f3, f4, f5⟩ := hS
    go_wp2_with fail
    generalize w.alloc (.cells #[.int .i64 x, .int .i64 y] 69) = W0 at *
    go_quiet (fail)
    go_wp2_with fail
    go_ret
    exact ⟨ret_int (by simp [wrap64]), (HB _).out⟩

theorem restored {w w' : World} {g T : Nat} (hB : w.grownBy w' (some g)) (hU : Used w g T) (hU' : Used w' g T) : Below w.heap.size w w' :=
  ⟨hB.os, hB.tape, hB.output, hB.size, fun k hk => by
    by_cases e : k = g
    · subst e; exact hU'.trans hU.symm
    · exact hB.block k hk (by simpa using e)⟩
theorem Used.keep {w w' : World} {g T : Nat} (h : Used w g T) (hb : Below w.heap.size w w') : Used w' g T := (hb.block g (lt_of_block h)).trans h

set_option maxRecDepth 100000 in
set_option maxHeartbeats 4000000 in
theorem lwalk_end (ps qs : List (Int × Int)) (rest : Nat → Int) (i d T ex ey : Nat) (hi : i < qs.length) (hlen : ps.length = qs.length) (hl : qs.length ≤ 3) (hex : px qs i = (ex : Int)) (hey : py qs i = (ey : Int)) (hex5 : ex ≤ 5) (hey5 : ey ≤ 5)
    (hb : hasB T ex ey = false) (hlast : ¬ i + 1 < ps.length → rest (T ||| 2 ^ cix ex ey) = 1)
    (IH : i + 1 < ps.length → ∃ sx sy : Nat, px ps (i + 1) = (sx : Int) ∧ py ps (i + 1) = (sy : Int) ∧ ∀ (vS vE : Value) (B g : Nat) (w : World), RdP w B vS ps → RdP w B vE qs → B ≤ g → Used w g (T ||| 2 ^ cix ex ey) →
      Calls Try.prog 63 #[vS, vE, .int .i64 ((i + 1 : Nat) : Int), spotV sx sy, .slice (some ⟨g, 0, none⟩) 49 49] w (LPost w (rest (T ||| 2 ^ cix ex ey)))) : LWalk ps qs rest i (d + 1) ex ey T := by
  intro vS vE B g w hS hE hBg hU
  have hz : walkZ (px qs i).toNat (py qs i).toNat rest (d + 1) ex ey T = rest (T ||| 2 ^ cix ex ey) := by
    rw [hex, hey, Int.toNat_natCast, Int.toNat_natCast]
    exact walkZ_e rfl rfl hb
  rw [hz]
  clear hz
  have hg := lt_of_block hU
  have HS := Lib.hid hS
  have HE := Lib.hid hE
  obtain ⟨A0', c', rfl, g1', g2', hq'⟩ := hS
  obtain ⟨A0, c, rfl, g1, g2, hq⟩ := hE
  obtain ⟨A, rfl, hAb, hA0, hA1⟩ := hq i hi
  rw [hex] at hA0
  rw [hey] at hA1
  unfold maxLen at g2 g2'
  have hi0 : (0 : Int) ≤ (i : Int) := by omega
  have hi1 : (i : Int) < (qs.length : Int) := by omega
  have b1 : decide (ex < ex) = false := by simp
  have b2 : decide (ey < ey) = false := by simp
  have k0 : (0 : Int) ≤ (ey : Int) * 6 + (ex : Int) := by omega
  have k1 : (ey : Int) * 6 + (ex : Int) < 49 := by omega
  have HX := Lib.hid hex; have HY := Lib.hid hey; have HLL := Lib.hid hlen; have HLA := Lib.hid hlast; have HIH := Lib.hid IH; have HHB := Lib.hid hb
  clear hq hex hey hlen hlast IH hb
  have hS0 := LS.start (B := 0) (b := 0) (g := g) (k := ey * 6 + ex) (x := ex) (y := ey) (t := false) (show (A.add (i * 2)).block < w.heap.size by rw [addBlock]; omega) hg hA0 hA1 (by rw [blk_cell hU, usedArr_get T ex ey (by omega) (by omega), HHB.out]) rfl
  have hf : (w.alloc (.cells #[.int .i64 ex, .int .i64 ey] 69)).frozen? ⟨g, ey * 6 + ex, none⟩ = false := by
    rw [((Below.refl _ _).alloc (Nat.le_refl _) _ : Below w.heap.size w _).frozen (by simpa using hg)]; exact blk_free hU
  have HB0 : Hid (Below w.heap.size w (w.alloc (.cells #[.int .i64 ex, .int .i64 ey] 69))) := (Below.refl _ _).alloc (Nat.le_refl _) _
  have HZ0 : Hid (w.heap.size < (w.alloc (.cells #[.int .i64 ex, .int .i64 ey] 69)).heap.size) := by unfold Hid; simp
  have HU := Lib.hid hU
  clear hU hA0 hA1
  obtain ⟨f1, f2, f3, f4, f5⟩ := hS0
  have hA2 : (A.add (i * 2)).block < w.heap.size := by rw [addBlock]; omega
  have hne : (A.add (i * 2)).block ≠ g := by rw [addBlock]; omega
  go_enter Try.func63, Try.ntmps63
  go_wp2_with fail
  generalize w.alloc (.cells #[.int .i64 ex, .int .i64 ey] 69) = W0 at *
  go_quiet (fail)
  have f1 : (W0.drewN nq).cell? ⟨w.heap.size, 0, none⟩ = some (.int .i64 (ex : Int)) := f1
  have f2 : (W0.drewN nq).cell? ⟨w.heap.size, 1, none⟩ = some (.int .i64 (ey : Int)) := f2
  have f3 : (W0.drewN nq).cell? (A.add (i * 2)) = some (.int .i64 (ex : Int)) := f3
  have f4 : (W0.drewN nq).cell? ⟨(A.add (i * 2)).block, (A.add (i * 2)).off + 1, none⟩ = some (.int .i64 (ey : Int)) := f4
  have f5 : (W0.drewN nq).cell? ⟨g, ey * 6 + ex, none⟩ = some (.bool false) := f5
  have hf : (W0.drewN nq).frozen? ⟨g, ey * 6 + ex, none⟩ = false := hf
  have hB1 : Below w.heap.size w (W0.drewN nq) := HB0.out.trans (Drawn.below ⟨nq, rfl⟩ _)
  have HZ1 : Hid (w.heap.size < (W0.drewN nq).heap.size) := HZ0.out
  generalize W0.drewN nq = W1 at *
  have HU1 := Lib.hid (HU.out.keep hB1)
  have HB1 := Lib.hid hB1
  clear hB1
  go_wp2_with fail
  have hN1 : (W1.setCell ⟨g, ey * 6 + ex, none⟩ (.bool true)).heap[g]? = some (.cells (usedArr (T ||| 2 ^ cix ex ey)) 4 (0, 0)) := by
    rw [blk_setCell HU1.out, used_set T ex ey (by omega) (by omega)]
  have hG1 := grownBy_set W1 g (ey * 6 + ex) (.bool true)
  have hGW := Lib.hid ((⟨HB1.out.os, HB1.out.tape, HB1.out.output, HB1.out.size, fun k hk _ => HB1.out.block k hk⟩ : w.grownBy W1 (some g)).trans hG1)
  have e1 : (W1.setCell ⟨g, ey * 6 + ex, none⟩ (.bool true)).cell? ⟨w.heap.size, 0, none⟩ = some (.int .i64 (ex : Int)) := (World.cell?_of_block (hG1.block _ HZ1.out (by simp; omega))).trans f1
  have e2 : (W1.setCell ⟨g, ey * 6 + ex, none⟩ (.bool true)).cell? ⟨w.heap.size, 1, none⟩ = some (.int .i64 (ey : Int)) := (World.cell?_of_block (hG1.block _ HZ1.out (by simp; omega))).trans f2
  have e3 : (W1.setCell ⟨g, ey * 6 + ex, none⟩ (.bool true)).cell? (A.add (i * 2)) = some (.int .i64 (ex : Int)) := (World.cell?_of_block (hG1.block _ (Nat.lt_trans hA2 HZ1.out) (by simpa using hne))).trans f3
  have e4 : (W1.setCell ⟨g, ey * 6 + ex, none⟩ (.bool true)).cell? ⟨(A.add (i * 2)).block, (A.add (i * 2)).off + 1, none⟩ = some (.int .i64 (ey : Int)) := (World.cell?_of_block (a := ⟨(A.add (i * 2)).block, (A.add (i * 2)).off + 1, none⟩) (hG1.block _ (Nat.lt_trans hA2 HZ1.out) (by simpa using hne))).trans f4
  generalize W1.setCell ⟨g, ey * 6 + ex, none⟩ (.bool true) = W2 at *
  clear f1 f2 f3 f4 f5 hf hG1
  go_quiet (fail)
  have HU3 : Hid (Used (W2.drewN nq) g (T ||| 2 ^ cix ex ey)) := hN1
  have HGX : Hid (w.grownBy (W2.drewN nq) (some g)) := hGW.out.trans (grownBy_drewN _ _ _)
  generalize W2.drewN nq = W3 at *
  clear e1 e2 e3 e4 hN1 hGW
  by_cases hn : i + 1 < ps.length
  · obtain ⟨sx, sy, hsx, hsy, hcall⟩ := HIH.out hn
    obtain ⟨A2, rfl, hA2b, hs0, hs1⟩ := hq' (i + 1) hn
    have hs0' : W3.cell? (A2.add ((i + 1) * 2)) = some (.int .i64 (sx : Int)) := by
      rw [World.cell?_of_block (HGX.out.block _ (by rw [addBlock]; omega) (by rw [addBlock]; simp; omega)), hs0, hsx]
    have hs1' : W3.cell? ⟨(A2.add ((i + 1) * 2)).block, (A2.add ((i + 1) * 2)).off + 1, none⟩ = some (.int .i64 (sy : Int)) := by
      rw [World.cell?_of_block (a := ⟨(A2.add ((i + 1) * 2)).block, (A2.add ((i + 1) * 2)).off + 1, none⟩) (HGX.out.block _ (by rw [addBlock]; omega) (by rw [addBlock]; simp; omega)), hs1, hsy]
    have HI : Hid ((i : Int) + 1 = ((i + 1 : Nat) : Int)) := by unfold Hid; omega
    have j0 : (0 : Int) ≤ (i : Int) + 1 := by omega
    have j1 : (i : Int) + 1 < (ps.length : Int) := by omega
    clear hs0 hs1 hq' hsx hsy
    go_wp2_with fail
    rw [HI.out]
    refine (hcall _ _ B g W3 (HS.out.keep fun k hk => HGX.out.block k (by omega) (by simp; omega)) (HE.out.keep fun k hk => HGX.out.block k (by omega) (by simp; omega)) hBg HU3.out).mono ?_
    rintro e w4 ⟨rfl, hb4⟩
    have HU4 := Lib.hid (HU3.out.keep hb4)
    have HG4 := Lib.hid (grownBy_below HGX.out hb4)
    have f5 : w4.cell? ⟨g, ey * 6 + ex, none⟩ = some (.bool true) := by
      rw [blk_cell HU4.out, usedArr_get _ ex ey (by omega) (by omega)]; simp [hasB, Nat.testBit_or]
    have hf : w4.frozen? ⟨g, ey * 6 + ex, none⟩ = false := blk_free HU4.out
    go_wp2_with fail
    go_ret
    exact ⟨rfl, restored (HG4.out.trans (grownBy_set _ _ _ _)) HU.out (by unfold Used; rw [blk_setCell HU4.out, used_reset T ex ey (by omega) (by omega) HHB.out])⟩
  · have HR := Lib.hid (HLA.out hn)
    have f5 : W3.cell? ⟨g, ey * 6 + ex, none⟩ = some (.bool true) := by
      rw [blk_cell HU3.out, usedArr_get _ ex ey (by omega) (by omega)]; simp [hasB, Nat.testBit_or]
    have hf : W3.frozen? ⟨g, ey * 6 + ex, none⟩ = false := blk_free HU3.out
    have j1 : ¬ (i : Int) + 1 < (ps.length : Int) := by omega
    go_wp2_with fail
    go_ret
    exact ⟨ret_int (by rw [HR.out]; simp [wrap64]), restored (HGX.out.trans (grownBy_set _ _ _ _)) HU.out (by unfold Used; rw [blk_setCell HU3.out, used_reset T ex ey (by omega) (by omega) HHB.out])⟩
end Go.Proofs.Ytamnpiihkbjgnaa
