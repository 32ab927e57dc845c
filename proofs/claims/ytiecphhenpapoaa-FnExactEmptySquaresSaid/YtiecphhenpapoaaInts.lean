/- Contracts of the helpers over slices of integers that only read: allWithin, szIntS, eqIntS, heldIntS. -/
import Derived.Test.YtiecphhenpapoaaMem
import Derived.Test.YtiecphhenpapoaaDrawn
namespace Go.Proofs.Ytiecphhenpapoaa
open Go.RowKit

/-- A new block reads as what it holds. -/
theorem rd_new (w : World) (cs : Array Value) (t : TypeId) : Rd (w.alloc (.cells cs t)) (w.heap.size + 1) (some ⟨w.heap.size, 0, none⟩) cs.toList :=
  fun _ => ⟨_, rfl, Nat.lt_succ_self _, World.news_of_block (heap_alloc_new w _)⟩

/-- All numbers from the k-th on lie in a range. -/
def allB (zs : List Int) (a b : Int) : Bool := zs.all fun z => inB z a b
theorem allB_drop (zs : List Int) (a b : Int) (k : Nat) (hk : k < zs.length) : allB (zs.drop k) a b = (inB zs[k] a b && allB (zs.drop (k + 1)) a b) := by
  unfold allB
  rw [List.drop_eq_getElem_cons hk, List.all_cons]

set_option maxHeartbeats 400000 in
theorem allWithin_any (v : Value) (zs : List Int) (a b : Int) (B : Nat) (w : World) (h : RdI w B v zs) :
    Calls Try.prog 189 #[v, .int .i64 a, .int .i64 b] w fun e w' => e = .returned (.bool (allB zs a b)) ∧ w = w' := by
  obtain ⟨A, c, rfl, h1, h2, h3⟩ := h
  unfold maxLen at h2
  generalize hr : allB zs a b = r
  have HR : Hid (allB (zs.drop 0) a b = r) := hr
  clear hr
  go_enter Try.func189, Try.ntmps189
  go_wp2
  go_loop [11] (fun i => ∃ k : Nat, k ≤ zs.length ∧ i = .int .i64 k ∧ Hid (allB (zs.drop k) a b = r)) (fun i => zs.length - (intOf i).toNat)
  case atStart => exact ⟨0, Nat.zero_le _, rfl, HR⟩
  case round =>
    obtain ⟨k, hk, rfl, HE⟩ := hrel
    by_cases hlt : k < zs.length
    · have hs := allB_drop zs a b k hlt
      obtain ⟨ad, rfl, hb, hc⟩ := h3.int hlt
      cases hi : inB zs[k] a b
      · have HF : Hid (r = false) := by unfold Hid; rw [← HE.out, hs, hi]; rfl
        clear hs
        go_wp2_with (go_at_call 78; refine (within_any _ _ _ _).mono ?_; rintro e w' ⟨rfl, rfl⟩)
        go_ret
        exact ⟨ret_bool HF.out.symm, rfl⟩
      · have HF : Hid (allB (zs.drop (k + 1)) a b = r) := by unfold Hid; rw [← HE.out, hs, hi]; rfl
        clear hs
        go_wp2_with (go_at_call 78; refine (within_any _ _ _ _).mono ?_; rintro e w' ⟨rfl, rfl⟩)
        go_round
        case rel => exact ⟨k + 1, by omega, by go_num, HF⟩
        case measure => simp [intOf]; omega
    · have HF : Hid (r = true) := by unfold Hid; rw [← HE.out, List.drop_of_length_le (by omega)]; rfl
      go_wp2
      go_ret
      exact ⟨ret_bool HF.out.symm, rfl⟩
end Go.Proofs.Ytiecphhenpapoaa

namespace Go.Proofs.Ytiecphhenpapoaa

/-- p holds from k up to n. -/
def upFrom (p : Nat → Bool) (k n : Nat) : Bool := (List.range' k (n - k)).all p
theorem upFrom_step (p : Nat → Bool) (k n : Nat) (h : k < n) : upFrom p k n = (p k && upFrom p (k + 1) n) := by
  unfold upFrom
  rw [show n - k = (n - (k + 1)) + 1 from by omega, List.range'_succ, List.all_cons]
theorem upFrom_end (p : Nat → Bool) (k n : Nat) (h : n ≤ k) : upFrom p k n = true := by
  unfold upFrom
  rw [show n - k = 0 from by omega]; rfl
theorem upFrom_iff (p : Nat → Bool) (k n : Nat) : upFrom p k n = true ↔ ∀ j, k ≤ j → j < n → p j = true := by
  unfold upFrom
  rw [List.all_eq_true]
  constructor
  · intro h j h1 h2; exact h j (by rw [List.mem_range'_1]; omega)
  · intro h j hj; rw [List.mem_range'_1] at hj; exact h j hj.1 (by omega)

/-- An element, a row. (Closed to simp.) -/
def el (zs : List Int) (k : Nat) : Int := zs.getD k 0
def rw' (zss : List (List Int)) (i : Nat) : List Int := zss.getD i []
theorem el_get (zs : List Int) (k : Nat) (h : k < zs.length) : el zs k = zs[k] := by simp [el, h]
theorem rw_get (zss : List (List Int)) (k : Nat) (h : k < zss.length) : rw' zss k = zss[k] := by simp [rw', h]

end Go.Proofs.Ytiecphhenpapoaa
