/- Contracts of the laws' helpers over []int: szIntS, eqIntS, heldIntS (they read), toIntS (a copy in a new block), markIntS (it writes). -/
import Derived.Test.YtpejphholomenaaInts
import Derived.Laws.MakeOwn
namespace Go.Proofs.Ytpejphholomenaa
open Go.RowKit

def szZ (n left : Int) : Int := if left - n < 0 then -1 else left - n

theorem beq_drop (xs ys : List Int) (k : Nat) (h1 : k < xs.length) (h2 : k < ys.length) : (xs.drop k == ys.drop k) = (xs[k] == ys[k] && xs.drop (k + 1) == ys.drop (k + 1)) := by
  rw [List.drop_eq_getElem_cons h1, List.drop_eq_getElem_cons h2]; rfl
theorem beq_len (xs ys : List Int) (h : xs.length ≠ ys.length) : (xs == ys) = false := by
  rw [beq_eq_false_iff_ne]; rintro rfl; exact h rfl

set_option maxHeartbeats 400000 in
theorem eqIntS_any (u v : Value) (xs ys : List Int) (B C : Nat) (w : World) (hu : RdI w B u xs) (hv : RdI w C v ys) :
    Calls Try.prog 28 #[u, v] w fun e w' => e = .returned (.bool (xs == ys)) ∧ Drawn w w' := by
  obtain ⟨A, c, rfl, h1, h2, h3⟩ := hu
  obtain ⟨A', c', rfl, h1', h2', h3'⟩ := hv
  unfold maxLen at h2 h2'
  generalize hr : (xs == ys) = r
  have HR := Lib.hid hr
  clear hr
  by_cases hl : xs.length = ys.length
  · have HR0 : Hid ((xs.drop 0 == ys.drop 0) = r) := HR
    clear HR
    have hlb : ((xs.length : Int) != (ys.length : Int)) = false := by rw [hl]; simp
    go_enter Try.func28, Try.ntmps28
    go_wp2
    go_loopw [5] (fun i wr => ∃ k : Nat, k ≤ xs.length ∧ i = .int .i64 k ∧ Hid ((xs.drop k == ys.drop k) = r) ∧ Drawn w wr) (fun i _ => xs.length - (intOf i).toNat)
    case atStart => exact ⟨0, Nat.zero_le _, rfl, HR0, Drawn.refl _⟩
    case round =>
      obtain ⟨k, hk, rfl, HE, hd⟩ := hrel
      by_cases hlt : k < xs.length
      · obtain ⟨ad, rfl, hb, hc⟩ := h3.int hlt
        obtain ⟨ad', rfl, hb', hc'⟩ := h3'.int (show k < ys.length by omega)
        have hs := beq_drop xs ys k hlt (by omega)
        obtain ⟨nd, rfl⟩ := hd
        have hk0 : (0 : Int) ≤ (k : Int) := by omega
        have hk1 : (k : Int) < (xs.length : Int) := by omega
        have hk2 : (k : Int) < (ys.length : Int) := by omega
        cases hi : xs[k] == ys[k]
        · have HF : Hid (r = false) := by unfold Hid; rw [← HE.out, hs, hi]; rfl
          have hne : (xs[k] != ys[k]) = true := by simp [bne, hi]
          clear hs hi
          go_wp2
          go_quiet (fail)
          go_wp2
          go_ret
          exact ⟨ret_bool HF.out.symm, Drawn.more ⟨_, rfl⟩ _⟩
        · have HF : Hid ((xs.drop (k + 1) == ys.drop (k + 1)) = r) := by unfold Hid; rw [← HE.out, hs, hi]; rfl
          have hne : (xs[k] != ys[k]) = false := by simp [bne, hi]
          clear hs hi
          go_wp2
          go_quiet (fail)
          go_wp2
          go_roundw
          case rel => exact ⟨k + 1, by omega, by go_num, HF, ⟨_, rfl⟩⟩
          case measure => simp [intOf]; omega
      · have HF : Hid (r = true) := by unfold Hid; rw [← HE.out, List.drop_of_length_le (by omega), List.drop_of_length_le (by omega)]; rfl
        go_wp2
        go_ret
        exact ⟨ret_bool HF.out.symm, hd⟩
  · have HF : Hid (r = false) := by unfold Hid; rw [← HR.out]; exact beq_len _ _ hl
    have hlb : ((xs.length : Int) != (ys.length : Int)) = true := by simp; omega
    go_enter Try.func28, Try.ntmps28
    go_wp2
    go_ret
    exact ⟨ret_bool HF.out.symm, Drawn.refl _⟩
end Go.Proofs.Ytpejphholomenaa
