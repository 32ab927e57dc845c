/- Plain facts for the law FnRows. No program in sight. -/
import Derived.Test.YtpockbbfbnaioaaPathRow
import Derived.Test.YtpockbbfbnaioaaBoxCount
import Derived.Test.YtpockbbfbnaioaaBoxByPaths
namespace Go.Proofs.Ytpockbbfbnaioaa

def lowZ (zs : List Int) : List Int := zs.map fun z => max 0 (z - 1)
/-- All that the law asks of one row. -/
def rowGood (b c : Int) (zs : List Int) : Bool :=
  !rowB b c zs || (prB b c (pathL c zs) && ((prow c (pathL c zs) (pathL c zs).length).1 == zs) && decide ((pathL c zs).sum = b) && apartB b c zs (lowZ zs) && apartB b c zs zs)
theorem rows_tab1 : ((List.range 4).all fun c => (List.range 4).all fun x => rowGood 1 c [(x : Int)]) = true := by decide +kernel
theorem rows_tab2 : ((List.range 4).all fun c => (List.range 4).all fun x => (List.range 4).all fun y => rowGood 2 c [(x : Int), (y : Int)]) = true := by decide +kernel
theorem rows_tab3 : ((List.range 4).all fun c => (List.range 4).all fun x => (List.range 4).all fun y => (List.range 4).all fun z => rowGood 3 c [(x : Int), (y : Int), (z : Int)]) = true := by decide +kernel
theorem all1 {a : Nat} {p : Nat → Bool} (h : ((List.range a).all p) = true) (x : Nat) (hx : x < a) : p x = true := by
  rw [List.all_eq_true] at h; exact h x (by simpa using hx)
theorem rowGood_all (b c : Int) (zs : List Int) (h : rowB b c zs = true) : rowGood b c zs = true := by
  obtain ⟨hz, hb, hc, hl⟩ := (rowB_iff _ _ _).1 h
  obtain ⟨n, rfl⟩ := Int.eq_ofNat_of_zero_le (show 0 ≤ c by omega)
  have hn : ∀ j, j < zs.length → ∃ x : Nat, x < 4 ∧ el zs j = (x : Int) := fun j hj => by
    obtain ⟨⟨a1, a2⟩, _⟩ := hz j hj
    exact ⟨(el zs j).toNat, by omega, by omega⟩
  match zs, hl, hn with
  | [x], hl, hn =>
    obtain ⟨a, ha, ea⟩ := hn 0 (by simp)
    obtain rfl : x = (a : Int) := by simpa [el] using ea
    obtain rfl : b = 1 := by simpa using hl.symm
    exact all1 (all1 rows_tab1 n (by omega)) a ha
  | [x, y], hl, hn =>
    obtain ⟨a, ha, ea⟩ := hn 0 (by simp)
    obtain rfl : x = (a : Int) := by simpa [el] using ea
    obtain ⟨a', ha', ea'⟩ := hn 1 (by simp)
    obtain rfl : y = (a' : Int) := by simpa [el] using ea'
    obtain rfl : b = 2 := by simpa using hl.symm
    exact all1 (all1 (all1 rows_tab2 n (by omega)) a ha) a' ha'
  | [x, y, z], hl, hn =>
    obtain ⟨a, ha, ea⟩ := hn 0 (by simp)
    obtain rfl : x = (a : Int) := by simpa [el] using ea
    obtain ⟨a', ha', ea'⟩ := hn 1 (by simp)
    obtain rfl : y = (a' : Int) := by simpa [el] using ea'
    obtain ⟨a2, ha2, ea2⟩ := hn 2 (by simp)
    obtain rfl : z = (a2 : Int) := by simpa [el] using ea2
    obtain rfl : b = 3 := by simpa using hl.symm
    exact all1 (all1 (all1 (all1 rows_tab3 n (by omega)) a ha) a' ha') a2 ha2
  | [], hl, _ => simp at hl; omega
  | _ :: _ :: _ :: _ :: _, hl, _ => simp at hl; omega
theorem row_facts {b c : Int} {zs : List Int} (h : rowB b c zs = true) : prB b c (pathL c zs) = true ∧ (prow c (pathL c zs) (pathL c zs).length).1 = zs ∧ (pathL c zs).sum = b ∧ apartB b c zs (lowZ zs) = true ∧ apartB b c zs zs = true := by
  have hg := rowGood_all b c zs h
  unfold rowGood at hg
  rw [h] at hg
  simp only [Bool.not_true, Bool.false_or, Bool.and_eq_true, beq_iff_eq, decide_eq_true_eq] at hg
  obtain ⟨⟨⟨⟨h1, h2⟩, h3⟩, h4⟩, h5⟩ := hg
  exact ⟨h1, h2, h3, h4, h5⟩
theorem box_tab : ((List.range 4).all fun x => (List.range 4).all fun y => (List.range 4).all fun z => !boxB x y z || (decide (cofZ (bmatZ x y z) = boxZ x y z) && decide (((bmatZ x y z).length : Int) = x) && decide (chooseZ (y + z) y = chooseZ (y + z) z))) = true := by decide +kernel
theorem box_facts {a b c : Int} (hbox : boxB a b c = true) : cofZ (bmatZ a b c) = boxZ a b c ∧ ((bmatZ a b c).length : Int) = a ∧ chooseZ (b + c) b = chooseZ (b + c) c := by
  obtain ⟨⟨a1, a2⟩, ⟨b1, b2⟩, c1, c2⟩ := (boxB_iff _ _ _).1 hbox
  obtain ⟨x, rfl⟩ := Int.eq_ofNat_of_zero_le (show 0 ≤ a by omega)
  obtain ⟨y, rfl⟩ := Int.eq_ofNat_of_zero_le (show 0 ≤ b by omega)
  obtain ⟨z, rfl⟩ := Int.eq_ofNat_of_zero_le (show 0 ≤ c by omega)
  have h := all3 box_tab x y z (by omega) (by omega) (by omega)
  rw [hbox] at h
  simp only [Bool.not_true, Bool.false_or, Bool.and_eq_true, decide_eq_true_eq] at h
  exact ⟨h.1.1, h.1.2, h.2⟩
theorem sum_take_succ (zs : List Int) (k : Nat) (h : k < zs.length) : (zs.take (k + 1)).sum = (zs.take k).sum + el zs k := by
  rw [List.take_succ_eq_append_getElem h, List.sum_append, el_get zs k h]; simp
theorem lowZ_take (zs : List Int) (k : Nat) (h : k < zs.length) : lowZ (zs.take (k + 1)) = lowZ (zs.take k) ++ [max 0 (el zs k - 1)] := by
  rw [List.take_succ_eq_append_getElem h, lowZ, List.map_append, el_get zs k h]; rfl
end Go.Proofs.Ytpockbbfbnaioaa
