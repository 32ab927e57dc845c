/- Contracts of the helpers over slices of integers that only read: allWithin, szIntS, eqIntS, heldIntS. -/
import Derived.Test.YtpejphholomenaaMem
import Derived.Test.YtpejphholomenaaDrawn
namespace Go.Proofs.Ytpejphholomenaa
open Go.RowKit

/-- A new block reads as what it holds. -/
theorem rd_new (w : World) (cs : Array Value) (t : TypeId) : Rd (w.alloc (.cells cs t)) (w.heap.size + 1) (some ⟨w.heap.size, 0, none⟩) cs.toList :=
  fun _ => ⟨_, rfl, Nat.lt_succ_self _, World.news_of_block (heap_alloc_new w _)⟩

/-- All numbers from the k-th on lie in a range. -/
def allB (zs : List Int) (a b : Int) : Bool := zs.all fun z => inB z a b
theorem allB_drop (zs : List Int) (a b : Int) (k : Nat) (hk : k < zs.length) : allB (zs.drop k) a b = (inB zs[k] a b && allB (zs.drop (k + 1)) a b) := by
  unfold allB
  rw [List.drop_eq_getElem_cons hk, List.all_cons]

set_option maxHeartbeats 400000 in
theorem allWithin_any (v : Value) (zs : List Int) (a b : Int) (B : Nat) (w : World) (h : RdI w B v zs) :
    Calls Try.prog 168 #[v, .int .i64 a, .int .i64 b] w fun e w' => e = .returned (.bool (allB zs a b)) ∧ w = w' := by
  obtain ⟨A, c, rfl, h1, h2, h3⟩ := h
  unfold maxLen at h2
  generalize hr : allB zs a b = r
  have HR : Hid (allB (zs.drop 0) a b = r) := hr
  clear hr
  go_enter Try.func168, Try.ntmps168
  go_wp2
  go_loop [11] (fun i => ∃ k : Nat, k ≤ zs.length ∧ i = .int .i64 k ∧ Hid (allB (zs.drop k) a b = r)) (fun i => zs.length - (intOf i).toNat)
  case atStart => exact ⟨0, Nat.zero_le _, rfl, HR⟩
  case round =>
    obtain ⟨k, hk, rfl, HE⟩ := hrel
    by_cases hlt : k < zs.length
    · have hs := allB_drop zs a b k hlt
      obtain ⟨ad, rfl, hb, hc⟩ := h3.int hlt
      cases hi : inB zs[k] a b
      · have HF : Hid (r = false) := by unfold Hid; rw [← HE.out, hs, hi]; rfl
        clear hs
        go_wp2_with (go_at_call 70; refine (within_any _ _ _ _).mono ?_; rintro e w' ⟨rfl, rfl⟩)
        go_ret
        exact ⟨ret_bool HF.out.symm, rfl⟩
      · have HF : Hid (allB (zs.drop (k + 1)) a b = r) := by unfold Hid; rw [← HE.out, hs, hi]; rfl
        clear hs
        go_wp2_with (go_at_call 70; refine (within_any _ _ _ _).mono ?_; rintro e w' ⟨rfl, rfl⟩)
        go_round
        case rel => exact ⟨k + 1, by omega, by go_num, HF⟩
        case measure => simp [intOf]; omega
    · have HF : Hid (r = true) := by unfold Hid; rw [← HE.out, List.drop_of_length_le (by omega)]; rfl
      go_wp2
      go_ret
      exact ⟨ret_bool HF.out.symm, rfl⟩
end Go.Proofs.Ytpejphholomenaa
