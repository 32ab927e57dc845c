/- The determinant by division without rests is the one by cofactors, for up to three rows of small numbers. Plain. -/
import Derived.Test.YtpejphholomenaaDetLaw
import Derived.Test.YtpejphholomenaaCof
import Derived.IntWalk
namespace Go.Proofs.Ytpejphholomenaa
open Go.RowKit

theorem w64 {x : Int} (h : -9223372036854775808 ≤ x ∧ x ≤ 9223372036854775807) : wrap64 x = x := by
  rw [← IntWalk.i64_left]; exact IntWalk.i64_in _ (by omega)
/-- |x| ≤ B -/
def Bd (B : Int) (x : Int) : Prop := -B ≤ x ∧ x ≤ B
theorem Bd.mul {A B x y : Int} (hx : Bd A x) (hy : Bd B y) (hA : 0 ≤ A) (hB : 0 ≤ B) : Bd (A * B) (x * y) := by
  have h : x.natAbs ≤ A.natAbs ∧ y.natAbs ≤ B.natAbs := ⟨by unfold Bd at hx; omega, by unfold Bd at hy; omega⟩
  have h2 := Nat.mul_le_mul h.1 h.2
  rw [← Int.natAbs_mul, ← Int.natAbs_mul] at h2
  have h3 : 0 ≤ A * B := Int.mul_nonneg hA hB
  unfold Bd
  generalize A * B = C at *
  generalize x * y = z at *
  omega
theorem Bd.sub {A B x y : Int} (hx : Bd A x) (hy : Bd B y) : Bd (A + B) (x - y) := by unfold Bd at *; omega
theorem Bd.neg {A x : Int} (hx : Bd A x) : Bd A (-x) := by unfold Bd at *; omega
theorem Bd.w {A x : Int} (hx : Bd A x) (hA : A ≤ 9223372036854775807) : wrap64 x = x := w64 (by unfold Bd at hx; omega)

def M3 (a b c d e f g h i : Int) : List (List Int) := [[a, b, c], [d, e, f], [g, h, i]]
theorem L0 (a b c d e f g h i s p : Int) (ha : a ≠ 0) : detGo 3 3 0 (M3 a b c d e f g h i) s p =
    detGo 3 2 1 (allE 3 (M3 a b c d e f g h i) p 0 3) s a := by
  simp [detGo, pivG, M3, elZ, rw', el, ha]
theorem L0b (a b c d e f g h i s p : Int) (ha : a = 0) (hd : d ≠ 0) : detGo 3 3 0 (M3 a b c d e f g h i) s p =
    detGo 3 2 1 (allE 3 (M3 d e f a b c g h i) p 0 3) (wrap64 (-s)) d := by
  simp [detGo, pivG, M3, elZ, rw', el, ha, hd, swp]
theorem L0c (a b c d e f g h i s p : Int) (ha : a = 0) (hd : d = 0) (hg : g ≠ 0) : detGo 3 3 0 (M3 a b c d e f g h i) s p =
    detGo 3 2 1 (allE 3 (M3 g h i d e f a b c) p 0 3) (wrap64 (-s)) g := by
  simp [detGo, pivG, M3, elZ, rw', el, ha, hd, hg, swp]
theorem L0d (b c e f h i s p : Int) : detGo 3 3 0 (M3 0 b c 0 e f 0 h i) s p = 0 := by
  simp [detGo, pivG, M3, elZ, rw', el]
def mn (a b c d : Int) (p : Int) : Int := wrap64 ((wrap64 (wrap64 (a * d) - wrap64 (b * c))).tdiv p)
theorem LE (a b c d e f g h i p : Int) : allE 3 (M3 a b c d e f g h i) p 0 3 = M3 a b c d (mn e d b a p) (mn f d c a p) g (mn h g b a p) (mn i g c a p) := by
  simp [allE, rowE, stepE, M3, elZ, rw', el, mn]
theorem L1 (a b c d e f g h i s p : Int) (he : e ≠ 0) : detGo 3 2 1 (M3 a b c d e f g h i) s p = wrap64 (s * mn i h f e p) := by
  simp [detGo, pivG, M3, elZ, rw', el, he, allE, rowE, stepE, mn, detFin]
theorem L1b (a b c d e f g h i s p : Int) (he : e = 0) (hh : h ≠ 0) : detGo 3 2 1 (M3 a b c d e f g h i) s p = wrap64 (wrap64 (-s) * mn f e i h p) := by
  simp [detGo, pivG, M3, elZ, rw', el, he, hh, allE, rowE, stepE, mn, detFin, swp]
theorem L1c (a b c d f g i s p : Int) : detGo 3 2 1 (M3 a b c d 0 f g 0 i) s p = 0 := by
  simp [detGo, pivG, M3, elZ, rw', el]

theorem mn1 {x y z t A : Int} (h1 : Bd A x) (h2 : Bd A y) (h3 : Bd A z) (h4 : Bd A t) (hA : 0 ≤ A) (hX : A * A + A * A ≤ 9223372036854775807) : mn x y z t 1 = x * t - y * z := by
  have e1 := Bd.mul h1 h4 hA hA
  have e2 := Bd.mul h2 h3 hA hA
  have h0 : 0 ≤ A * A := Int.mul_nonneg hA hA
  unfold mn
  rw [e1.w (by omega), e2.w (by omega), (e1.sub e2).w hX, Int.tdiv_one, (e1.sub e2).w hX]
theorem mnD {x y z t A a d D : Int} (h1 : Bd A x) (h2 : Bd A y) (h3 : Bd A z) (h4 : Bd A t) (hA : 0 ≤ A) (hX : A * A + A * A ≤ 9223372036854775807) (ha : a ≠ 0) (he : x * t - y * z = a * d) (hd : Bd D d) (hD : D ≤ 9223372036854775807) : mn x y z t a = d := by
  have e1 := Bd.mul h1 h4 hA hA
  have e2 := Bd.mul h2 h3 hA hA
  have h0 : 0 ≤ A * A := Int.mul_nonneg hA hA
  unfold mn
  rw [e1.w (by omega), e2.w (by omega), (e1.sub e2).w hX, he, Int.mul_tdiv_cancel_left _ ha, hd.w hD]
def D3 (a b c d e f g h i : Int) : Int := a * (e * i - f * h) - b * (d * i - f * g) + c * (d * h - e * g)
theorem Bd.add {A B x y : Int} (hx : Bd A x) (hy : Bd B y) : Bd (A + B) (x + y) := by unfold Bd at *; omega
theorem D3_bd {a b c d e f g h i : Int} (ha : Bd 12870 a) (hb : Bd 12870 b) (hc : Bd 12870 c) (hd : Bd 12870 d) (he : Bd 12870 e) (hf : Bd 12870 f) (hg : Bd 12870 g) (hh : Bd 12870 h) (hi : Bd 12870 i) : Bd 20000000000000 (D3 a b c d e f g h i) := by
  have h1 := ha.mul ((he.mul hi (by decide) (by decide)).sub (hf.mul hh (by decide) (by decide))) (by decide) (by decide)
  have h2 := hb.mul ((hd.mul hi (by decide) (by decide)).sub (hf.mul hg (by decide) (by decide))) (by decide) (by decide)
  have h3 := hc.mul ((hd.mul hh (by decide) (by decide)).sub (he.mul hg (by decide) (by decide))) (by decide) (by decide)
  have h4 := (h1.sub h2).add h3
  unfold D3
  generalize a * (e * i - f * h) - b * (d * i - f * g) + c * (d * h - e * g) = z at *
  unfold Bd at *
  omega
theorem Bd.more {A B x : Int} (h : Bd A x) (hB : A ≤ B) : Bd B x := by unfold Bd at *; omega
theorem core3 {a b c d e f g h i s : Int} (hs : s = 1 ∨ s = -1) (ha : Bd 12870 a) (hb : Bd 12870 b) (hc : Bd 12870 c) (hd : Bd 12870 d) (he : Bd 12870 e) (hf : Bd 12870 f) (hg : Bd 12870 g) (hh : Bd 12870 h) (hi : Bd 12870 i) (h0 : a ≠ 0) :
    detGo 3 2 1 (allE 3 (M3 a b c d e f g h i) 1 0 3) s a = s * D3 a b c d e f g h i := by
  have hD := D3_bd ha hb hc hd he hf hg hh hi
  have hX : (12870 : Int) * 12870 + 12870 * 12870 ≤ 9223372036854775807 := by decide
  have pE := ((he.mul ha (by decide) (by decide)).sub (hd.mul hb (by decide) (by decide))).more (B := 400000000) (by decide)
  have pF := ((hf.mul ha (by decide) (by decide)).sub (hd.mul hc (by decide) (by decide))).more (B := 400000000) (by decide)
  have pH := ((hh.mul ha (by decide) (by decide)).sub (hg.mul hb (by decide) (by decide))).more (B := 400000000) (by decide)
  have pI := ((hi.mul ha (by decide) (by decide)).sub (hg.mul hc (by decide) (by decide))).more (B := 400000000) (by decide)
  rw [LE, mn1 he hd hb ha (by decide) hX, mn1 hf hd hc ha (by decide) hX, mn1 hh hg hb ha (by decide) hX, mn1 hi hg hc ha (by decide) hX]
  have k1 : (i * a - g * c) * (e * a - d * b) - (h * a - g * b) * (f * a - d * c) = a * D3 a b c d e f g h i := by unfold D3; grind
  generalize D3 a b c d e f g h i = D at *
  generalize e * a - d * b = E at *
  generalize f * a - d * c = F at *
  generalize h * a - g * b = H at *
  generalize i * a - g * c = I at *
  have hY : (400000000 : Int) * 400000000 + 400000000 * 400000000 ≤ 9223372036854775807 := by decide
  by_cases hE : E = 0
  · subst hE
    by_cases hH : H = 0
    · subst hH
      rw [L1c]
      have : a * D = 0 := by rw [← k1]; simp
      rcases Int.mul_eq_zero.1 this with h | h
      · exact absurd h h0
      · rw [h]; simp
    · rw [L1b _ _ _ _ _ _ _ _ _ _ _ rfl hH]
      have k2 : F * H - 0 * I = a * (-D) := by rw [Int.mul_neg, ← k1]; grind
      have hDn : Bd 20000000000000 (-D) := hD.neg
      rw [mnD pF pE pI pH (by decide) hY h0 k2 hDn (by decide)]
      rcases hs with rfl | rfl
      · rw [w64 (x := -1) (by decide), w64 (by unfold Bd at hD; omega)]; omega
      · rw [w64 (x := - -1) (by decide), w64 (by unfold Bd at hD; omega)]; omega
  · rw [L1 _ _ _ _ _ _ _ _ _ _ _ hE, mnD pI pH pF pE (by decide) hY h0 k1 hD (by decide)]
    rcases hs with rfl | rfl
    · rw [w64 (by unfold Bd at hD; omega)]
    · rw [w64 (by unfold Bd at hD; omega)]
theorem det3 {a b c d e f g h i : Int} (ha : Bd 12870 a) (hb : Bd 12870 b) (hc : Bd 12870 c) (hd : Bd 12870 d) (he : Bd 12870 e) (hf : Bd 12870 f) (hg : Bd 12870 g) (hh : Bd 12870 h) (hi : Bd 12870 i) :
    detZ (M3 a b c d e f g h i) = D3 a b c d e f g h i := by
  show detGo 3 3 0 (M3 a b c d e f g h i) 1 1 = _
  have hn : wrap64 (-1) = -1 := w64 (by decide)
  by_cases h1 : a = 0
  · by_cases h2 : d = 0
    · by_cases h3 : g = 0
      · subst h1 h2 h3
        rw [L0d]; unfold D3; grind
      · rw [L0c _ _ _ _ _ _ _ _ _ _ _ h1 h2 h3, hn, core3 (.inr rfl) hg hh hi hd he hf ha hb hc h3]
        unfold D3; grind
    · rw [L0b _ _ _ _ _ _ _ _ _ _ _ h1 h2, hn, core3 (.inr rfl) hd he hf ha hb hc hg hh hi h2]
      unfold D3; grind
  · rw [L0 _ _ _ _ _ _ _ _ _ _ _ h1, core3 (.inl rfl) ha hb hc hd he hf hg hh hi h1]; simp
theorem det2 {a b c d : Int} (ha : Bd 12870 a) (hb : Bd 12870 b) (hc : Bd 12870 c) (hd : Bd 12870 d) : detZ [[a, b], [c, d]] = a * d - b * c := by
  show detGo 2 2 0 [[a, b], [c, d]] 1 1 = _
  have hX : (12870 : Int) * 12870 + 12870 * 12870 ≤ 9223372036854775807 := by decide
  have q1 := ((ha.mul hd (by decide) (by decide)).sub (hb.mul hc (by decide) (by decide))).more (B := 400000000) (by decide)
  have hn : wrap64 (-1) = -1 := w64 (by decide)
  by_cases h1 : a = 0
  · by_cases h2 : c = 0
    · subst h1 h2; simp [detGo, pivG, elZ, rw', el]
    · have e : detGo 2 2 0 [[a, b], [c, d]] 1 1 = wrap64 (wrap64 (-1) * mn b a d c 1) := by
        simp [detGo, pivG, elZ, rw', el, h1, h2, allE, rowE, stepE, mn, detFin, swp]
      rw [e, mn1 hb ha hd hc (by decide) hX, hn]
      have : b * c - a * d = -(a * d - b * c) := by omega
      rw [this]
      generalize a * d - b * c = D at *
      rw [w64 (by unfold Bd at q1; omega)]; omega
  · have e : detGo 2 2 0 [[a, b], [c, d]] 1 1 = wrap64 (1 * mn d c b a 1) := by
      simp [detGo, pivG, elZ, rw', el, h1, allE, rowE, stepE, mn, detFin]
    rw [e, mn1 hd hc hb ha (by decide) hX]
    have : d * a - c * b = a * d - b * c := by grind
    rw [this]
    generalize a * d - b * c = D at *
    rw [w64 (by unfold Bd at q1; omega)]; omega
theorem det1 {a : Int} (ha : Bd 12870 a) : detZ [[a]] = a := by
  show detGo 1 1 0 [[a]] 1 1 = _
  have e : detGo 1 1 0 [[a]] 1 1 = wrap64 (1 * a) := by simp [detGo, elZ, rw', el, detFin]
  rw [e, w64 (by unfold Bd at ha; omega)]; omega

theorem cof_three {a b c d e f g h i : Int} (ha : Bd 12870 a) (hb : Bd 12870 b) (hc : Bd 12870 c) (hd : Bd 12870 d) (he : Bd 12870 e) (hf : Bd 12870 f) (hg : Bd 12870 g) (hh : Bd 12870 h) (hi : Bd 12870 i) :
    cofZ (M3 a b c d e f g h i) = D3 a b c d e f g h i := by
  have m1 := he.mul hi (by decide) (by decide)
  have m2 := hf.mul hh (by decide) (by decide)
  have m3 := hd.mul hi (by decide) (by decide)
  have m4 := hf.mul hg (by decide) (by decide)
  have m5 := hd.mul hh (by decide) (by decide)
  have m6 := he.mul hg (by decide) (by decide)
  have n1 := ha.mul (m1.sub m2) (by decide) (by decide)
  have n2 := hb.mul (m3.sub m4) (by decide) (by decide)
  have n3 := hc.mul (m5.sub m6) (by decide) (by decide)
  have e0 : cofZ (M3 a b c d e f g h i) = wrap64 (wrap64 (wrap64 (a * wrap64 (wrap64 (e * i) - wrap64 (f * h))) - wrap64 (b * wrap64 (wrap64 (d * i) - wrap64 (f * g)))) + wrap64 (c * wrap64 (wrap64 (d * h) - wrap64 (e * g)))) := by
    simp [cofZ, cof3, minor, M3, elZ, rw', el]
  rw [e0, m1.w (by decide), m2.w (by decide), m3.w (by decide), m4.w (by decide), m5.w (by decide), m6.w (by decide), (m1.sub m2).w (by decide), (m3.sub m4).w (by decide), (m5.sub m6).w (by decide),
    n1.w (by decide), n2.w (by decide), n3.w (by decide), (n1.sub n2).w (by decide), ((n1.sub n2).add n3).w (by decide)]
  rfl
theorem cof_two {a b c d : Int} (ha : Bd 12870 a) (hb : Bd 12870 b) (hc : Bd 12870 c) (hd : Bd 12870 d) : cofZ [[a, b], [c, d]] = a * d - b * c := by
  have m1 := ha.mul hd (by decide) (by decide)
  have m2 := hb.mul hc (by decide) (by decide)
  have e0 : cofZ [[a, b], [c, d]] = wrap64 (wrap64 (a * d) - wrap64 (b * c)) := by simp [cofZ, cof2, elZ, rw', el]
  rw [e0, m1.w (by decide), m2.w (by decide), (m1.sub m2).w (by decide)]
theorem list1 {α : Type} {l : List α} (h : l.length = 1) : ∃ x, l = [x] := by
  match l, h with | [x], _ => exact ⟨x, rfl⟩
theorem list2 {α : Type} {l : List α} (h : l.length = 2) : ∃ x y, l = [x, y] := by
  match l, h with | [x, y], _ => exact ⟨x, y, rfl⟩
theorem list3 {α : Type} {l : List α} (h : l.length = 3) : ∃ x y z, l = [x, y, z] := by
  match l, h with | [x, y, z], _ => exact ⟨x, y, z, rfl⟩
theorem det_cof (m : List (List Int)) (h0 : 0 < m.length) (h3 : m.length ≤ 3) (hs : ∀ i, i < m.length → (rw' m i).length = m.length) (hb : ∀ i j, i < m.length → j < m.length → Bd 12870 (elZ m i j)) : detZ m = cofZ m := by
  rcases (show m.length = 1 ∨ m.length = 2 ∨ m.length = 3 by omega) with hn | hn | hn
  · obtain ⟨r, rfl⟩ := list1 hn
    obtain ⟨x, rfl⟩ := list1 (show r.length = 1 from hs 0 (by simp))
    have := hb 0 0 (by simp) (by simp)
    rw [det1 (show Bd 12870 x from this)]; simp [cofZ, elZ, rw', el]
  · obtain ⟨r0, r1, rfl⟩ := list2 hn
    obtain ⟨a, b, rfl⟩ := list2 (show r0.length = 2 from hs 0 (by simp))
    obtain ⟨c, d, rfl⟩ := list2 (show r1.length = 2 from hs 1 (by simp))
    have k1 : Bd 12870 a := hb 0 0 (by simp) (by simp)
    have k2 : Bd 12870 b := hb 0 1 (by simp) (by simp)
    have k3 : Bd 12870 c := hb 1 0 (by simp) (by simp)
    have k4 : Bd 12870 d := hb 1 1 (by simp) (by simp)
    rw [det2 k1 k2 k3 k4, cof_two k1 k2 k3 k4]
  · obtain ⟨r0, r1, r2, rfl⟩ := list3 hn
    obtain ⟨a, b, c, rfl⟩ := list3 (show r0.length = 3 from hs 0 (by simp))
    obtain ⟨d, e, f, rfl⟩ := list3 (show r1.length = 3 from hs 1 (by simp))
    obtain ⟨g, h, i, rfl⟩ := list3 (show r2.length = 3 from hs 2 (by simp))
    have k1 : Bd 12870 a := hb 0 0 (by simp) (by simp)
    have k2 : Bd 12870 b := hb 0 1 (by simp) (by simp)
    have k3 : Bd 12870 c := hb 0 2 (by simp) (by simp)
    have k4 : Bd 12870 d := hb 1 0 (by simp) (by simp)
    have k5 : Bd 12870 e := hb 1 1 (by simp) (by simp)
    have k6 : Bd 12870 f := hb 1 2 (by simp) (by simp)
    have k7 : Bd 12870 g := hb 2 0 (by simp) (by simp)
    have k8 : Bd 12870 h := hb 2 1 (by simp) (by simp)
    have k9 : Bd 12870 i := hb 2 2 (by simp) (by simp)
    exact (det3 k1 k2 k3 k4 k5 k6 k7 k8 k9).trans (cof_three k1 k2 k3 k4 k5 k6 k7 k8 k9).symm
end Go.Proofs.Ytpejphholomenaa
