/- The cursor of the reference's draws: a block of three cells (the bytes, an index, a number). Each draw hands back some number in its range and writes that block alone. -/
import Derived.Test.YtehnbalbpfmijaaBlk
import Derived.Test.YtehnbalbpfmijaaDrawn
import Derived.OneCell
import Derived.Laws.Bits128
namespace Go.Proofs.Ytehnbalbpfmijaa
open Go.RowKit

/-- v is a slice of n bytes. -/
def RdU (w : World) (B : Nat) (v : Value) (n : Nat) : Prop := ∃ A c, v = .slice A n c ∧ n ≤ c ∧ c ≤ maxLen ∧ ∀ j, j < n → ∃ ad z, A = some ad ∧ ad.block < B ∧ 0 ≤ z ∧ z ≤ 255 ∧ w.cell? (ad.add j) = some (.int .u8 z)
theorem RdU.keep {w w' : World} {B : Nat} {v : Value} {n : Nat} (h : RdU w B v n) (hk : ∀ p : Addr, p.block < B → w'.cell? p = w.cell? p) : RdU w' B v n := by
  obtain ⟨A, c, e, h1, h2, h3⟩ := h
  refine ⟨A, c, e, h1, h2, fun j hj => ?_⟩
  obtain ⟨ad, z, e2, hb, z0, z1, hc⟩ := h3 j hj
  exact ⟨ad, z, e2, hb, z0, z1, (hk _ (by rw [addBlock]; exact hb)).trans hc⟩
theorem RdU.below {w w' : World} {B : Nat} {v : Value} {n : Nat} (h : RdU w B v n) (hb : Below B w w') : RdU w' B v n := h.keep fun _ hp => hb.cell hp
theorem RdU.more {w : World} {B B' : Nat} {v : Value} {n : Nat} (h : RdU w B v n) (hB : B ≤ B') : RdU w B' v n := by
  obtain ⟨A, c, e, h1, h2, h3⟩ := h
  refine ⟨A, c, e, h1, h2, fun j hj => ?_⟩
  obtain ⟨ad, z, e2, hb, r⟩ := h3 j hj
  exact ⟨ad, z, e2, by omega, r⟩

/-- Block q is a cursor over the n bytes of v. -/
def Cur (w : World) (q : Nat) (v : Value) (n : Nat) : Prop := ∃ (i : Nat) (h : Int), i ≤ n ∧ w.heap[q]? = some (.cells #[v, .int .i64 i, .int .i64 h] 143 (0, 0)) ∧ RdU w q v n
theorem Cur.lt {w : World} {q : Nat} {v : Value} {n : Nat} (h : Cur w q v n) : q < w.heap.size := by obtain ⟨_, _, _, h, _⟩ := h; exact lt_of_block h
/-- The cursor stays where neither it nor its bytes are written. -/
theorem Cur.grown {w w' : World} {q : Nat} {v : Value} {n : Nat} {row : Option Nat} (h : Cur w q v n) (hg : w.grownBy w' row) (hr : ∀ k, row = some k → q < k) : Cur w' q v n := by
  have hq := h.lt
  obtain ⟨i, x, hi, hb, hr2⟩ := h
  have hk : ∀ k, k ≤ q → w'.heap[k]? = w.heap[k]? := fun k hk => hg.block k (by omega) (fun e => by have := hr k e.symm; omega)
  exact ⟨i, x, hi, by rw [hk q (Nat.le_refl _)]; exact hb, hr2.keep fun p hp => World.cell?_of_block (hk _ (by omega))⟩
theorem Cur.below {w w' : World} {q : Nat} {v : Value} {n : Nat} (h : Cur w q v n) (hb : Below w.heap.size w w') : Cur w' q v n :=
  h.grown (row := none) ⟨hb.os, hb.tape, hb.output, hb.size, fun k hk _ => hb.block k hk⟩ fun k e => by simp at e

/-- A draw: some number r with P r comes back; the cursor's block alone is written. -/
def Draw (P : Int → Prop) (w : World) (q : Nat) (v : Value) (n : Nat) (e : Ending) (w' : World) : Prop := ∃ r, P r ∧ e = .returned (.int .i64 r) ∧ Cur w' q v n ∧ w.grownBy w' (some q)

theorem and255 (n : Int) : bits .and .i64 n 255 = n % 256 := by
  have h127 : (BitVec.ofInt 64 255).toNat = 2 ^ 8 - 1 := by decide
  have key : (BitVec.ofInt 64 n &&& BitVec.ofInt 64 255).toNat = (n % ((2 ^ 64 : Nat) : Int)).toNat % 2 ^ 8 := by
    rw [BitVec.toNat_and, BitVec.toNat_ofInt, h127, Nat.and_two_pow_sub_one_eq_mod]
  show IntKind.i64.wrap ((BitVec.ofInt 64 n &&& BitVec.ofInt 64 255).toNat : Nat) = n % 256
  rw [key, IntKind.wrap_i64]
  omega
def and255Z (n : Int) : Int := bits .and .i64 n 255
theorem and255Z_bd (n : Int) : 0 ≤ and255Z n ∧ and255Z n ≤ 255 := by unfold and255Z; rw [and255]; omega

set_option maxHeartbeats 1000000 in
theorem byte_any (q n : Nat) (v : Value) (w : World) (hc : Cur w q v n) :
    Calls Try.prog 162 #[.pointer (some ⟨q, 0, none⟩)] w (Draw (fun r => 0 ≤ r ∧ r ≤ 255) w q v n) := by
  obtain ⟨i, h, hi, hb, A, c, rfl, h1, h2, h3⟩ := hc
  unfold maxLen at h2
  have hsh1 : ∀ (W : World) (x : Int), Sem.run Try.prog (Op.shift BinOp.shr IntKind.i64 x IntKind.u64 33) W = .ok (.int .i64 (x / 8589934592)) W := fun W x => by rw [shift_shr _ _ _ _ (by omega) (by decide)]; rfl
  have hsh2 : ∀ (W : World) (x : Int), Sem.run Try.prog (Op.shift BinOp.shr IntKind.i64 x IntKind.u64 45) W = .ok (.int .i64 (x / 35184372088832)) W := fun W x => by rw [shift_shr _ _ _ _ (by omega) (by decide)]; rfl
  have c0 : w.cell? ⟨q, 0, none⟩ = some (.slice A n c) := by rw [blk_cell hb]; rfl
  have c1 : w.cell? ⟨q, 1, none⟩ = some (.int .i64 i) := by rw [blk_cell hb]; rfl
  have c2 : w.cell? ⟨q, 2, none⟩ = some (.int .i64 h) := by rw [blk_cell hb]; rfl
  have f1 : w.frozen? ⟨q, 1, none⟩ = false := blk_free hb
  have f2 : w.frozen? ⟨q, 2, none⟩ = false := blk_free hb
  by_cases hlt : i < n
  · obtain ⟨ad, z, rfl, hbl, z0, z1, hz⟩ := h3 i hlt
    have hi0 : (0 : Int) ≤ (i : Int) := by omega
    have hi1 : (i : Int) < (n : Int) := by omega
    go_enter Try.func162, Try.ntmps162
    go_wp2_with fail
    have hb1 := blk_setCell (k := 2) hb (.int .i64 (wrap64 (wrap64 (h * 6364136223846793005) + 1442695040888963407)))
    have hg1 := grownBy_set w q 2 (.int .i64 (wrap64 (wrap64 (h * 6364136223846793005) + 1442695040888963407)))
    have hz1 : (w.setCell ⟨q, 2, none⟩ (.int .i64 (wrap64 (wrap64 (h * 6364136223846793005) + 1442695040888963407)))).cell? (ad.add i) = some (.int .u8 z) :=
      (World.cell?_of_block (Below.heap_setCell _ _ _ _ (by rw [addBlock]; simp; omega))).trans hz
    generalize wrap64 (wrap64 (h * 6364136223846793005) + 1442695040888963407) = h' at *
    generalize w.setCell ⟨q, 2, none⟩ (.int .i64 h') = W at *
    have c0' : W.cell? ⟨q, 0, none⟩ = some (.slice (some ad) n c) := by rw [blk_cell hb1]; rfl
    have c1' : W.cell? ⟨q, 1, none⟩ = some (.int .i64 i) := by rw [blk_cell hb1]; rfl
    have c2' : W.cell? ⟨q, 2, none⟩ = some (.int .i64 h') := by rw [blk_cell hb1]; rfl
    have f1' : W.frozen? ⟨q, 1, none⟩ = false := blk_free hb1
    clear c0 c1 c2 f1 f2
    go_quiet (fail)
    go_wp2_with fail
    go_quiet (fail)
    go_wp2_with fail
    go_quiet (fail)
    go_wp2_with fail
    go_ret
    have hR : RdU w q (.slice (some ad) n c) n := ⟨some ad, c, rfl, h1, by unfold maxLen; omega, h3⟩
    refine ⟨_, and255Z_bd _, rfl, ⟨i + 1, h', by omega, ?_, ?_⟩, ?_⟩
    · exact (blk_setCell (w := W) hb1 (.int .i64 ((i : Int) + 1))).trans (by simp)
    · exact hR.keep fun p hp => (World.cell?_of_block (Below.heap_setCell _ _ _ _ (by simp; omega))).trans (World.cell?_of_block (hg1.block _ (by have := lt_of_block hb; omega) (fun e => by simp at e; omega)))
    · exact hg1.trans ((grownBy_drewN W _ _).trans (grownBy_set _ q 1 (.int .i64 ((i : Int) + 1))))
  · have hi1 : ¬ (i : Int) < (n : Int) := by omega
    go_enter Try.func162, Try.ntmps162
    go_wp2_with fail
    have hb1 := blk_setCell (k := 2) hb (.int .i64 (wrap64 (wrap64 (h * 6364136223846793005) + 1442695040888963407)))
    have hg1 := grownBy_set w q 2 (.int .i64 (wrap64 (wrap64 (h * 6364136223846793005) + 1442695040888963407)))
    generalize wrap64 (wrap64 (h * 6364136223846793005) + 1442695040888963407) = h' at *
    generalize w.setCell ⟨q, 2, none⟩ (.int .i64 h') = W at *
    have c0' : W.cell? ⟨q, 0, none⟩ = some (.slice A n c) := by rw [blk_cell hb1]; rfl
    have c1' : W.cell? ⟨q, 1, none⟩ = some (.int .i64 i) := by rw [blk_cell hb1]; rfl
    have c2' : W.cell? ⟨q, 2, none⟩ = some (.int .i64 h') := by rw [blk_cell hb1]; rfl
    clear c0 c1 c2 f1 f2
    go_quiet (fail)
    go_wp2_with fail
    go_quiet (fail)
    go_wp2_with fail
    go_ret
    have hR : RdU w q (.slice A n c) n := ⟨A, c, rfl, h1, by unfold maxLen; omega, h3⟩
    refine ⟨_, and255Z_bd _, rfl, ⟨i, h', by omega, ?_, ?_⟩, ?_⟩
    · exact hb1
    · exact hR.keep fun p hp => World.cell?_of_block (hg1.block _ (by have := lt_of_block hb; omega) (fun e => by simp at e; omega))
    · exact hg1.trans ((grownBy_drewN W _ _).trans (grownBy_drewN _ _ _))

set_option maxHeartbeats 1000000 in
theorem below_any (q n : Nat) (v : Value) (m : Int) (w : World) (hc : Cur w q v n) (h1 : 1 ≤ m) (h2 : m ≤ 256) :
    Calls Try.prog 131 #[.pointer (some ⟨q, 0, none⟩), .int .i64 m] w (Draw (fun r => 0 ≤ r ∧ r < m) w q v n) := by
  go_enter Try.func131, Try.ntmps131
  go_wp2_with fail
  refine (byte_any q n v w hc).mono ?_
  rintro e w1 ⟨r, ⟨h3, h4⟩, rfl, hc1, hg1⟩
  go_wp2_with fail
  go_ret
  exact ⟨r % m, ⟨Int.emod_nonneg _ (by omega), Int.emod_lt_of_pos _ (by omega)⟩, ret_int (by first | rfl | omega), hc1, hg1⟩

/-- A new cursor. -/
def NewCur (w : World) (v : Value) (n : Nat) (e : Ending) (w' : World) : Prop := e = .returned (.pointer (some ⟨w.heap.size, 0, none⟩)) ∧ Cur w' w.heap.size v n ∧ Below w.heap.size w w'
set_option maxHeartbeats 1000000 in
theorem new_any (v : Value) (n B : Nat) (w : World) (hv : RdU w B v n) (hB : B ≤ w.heap.size) :
    Calls Try.prog 64 #[v] w (NewCur w v n) := by
  have HV := Lib.hid (hv.more hB)
  obtain ⟨A, c, rfl, h1, h2, h3⟩ := hv
  unfold maxLen at h2
  go_enter Try.func64, Try.ntmps64
  go_wp2_with fail
  go_loop [3, 4] (fun h i => ∃ (k : Nat) (x : Int), k ≤ n ∧ k ≤ 4000 ∧ i = .int .i64 k ∧ h = .int .i64 x) (fun _ i => n - (intOf i).toNat)
  case atStart => exact ⟨0, _, by omega, by omega, rfl, rfl⟩
  case round =>
    obtain ⟨k, x, hk, hk2, rfl, rfl⟩ := hrel
    by_cases hlt : k < n
    · by_cases hlt2 : k < 4000
      · obtain ⟨ad, z, rfl, hbl, z0, z1, hz⟩ := h3 k hlt
        have b1 : decide ((k : Int) < (n : Int)) = true := by simp; omega
        have b2 : decide ((k : Int) < 4000) = true := by simp; omega
        go_wp2_with fail
        go_round
        case rel => exact ⟨k + 1, _, by omega, by omega, by go_num, rfl⟩
        case measure => simp [intOf]; omega
      · have b1 : decide ((k : Int) < (n : Int)) = true := by simp; omega
        have b2 : decide ((k : Int) < 4000) = false := by simp; omega
        go_wp2_with fail
        go_ret
        refine ⟨rfl, ⟨0, x, by omega, ?_, (HV.out.below ((Below.refl _ _).alloc (Nat.le_refl _) _))⟩, (Below.refl _ _).alloc (Nat.le_refl _) _⟩
        exact heap_alloc_new w _
    · have b1 : decide ((k : Int) < (n : Int)) = false := by simp; omega
      go_wp2_with fail
      go_ret
      refine ⟨rfl, ⟨0, x, by omega, ?_, (HV.out.below ((Below.refl _ _).alloc (Nat.le_refl _) _))⟩, (Below.refl _ _).alloc (Nat.le_refl _) _⟩
      exact heap_alloc_new w _
end Go.Proofs.Ytehnbalbpfmijaa
