/- What the claim's walk rests on: parts IntSS, Aft. -/
import Derived.Test.YtehnbalbpfmijaaKCFx3
import Derived.Test.YtehnbalbpfmijaaKCFx1
import Derived.Test.YtehnbalbpfmijaaBasic
import Derived.Below
import Derived.Laws.AppendOwn
namespace Go.Proofs.Ytehnbalbpfmijaa
open Go.RowKit

theorem infoRow : (Try.prog.info? 31).map (fun i => (i.zero, i.size, i.bytes)) = some (some (.slice none 0 0), 1, 24) := by kernel_rfl

/-! ### Sizes -/
def szRows : List (List Int) → Int → Int
  | [], l => l
  | z :: t, l => if l - (z.length : Int) < 0 then -1 else szRows t (l - z.length)
def szSS (zss : List (List Int)) (left : Int) : Int := if left - (zss.length : Int) < 0 then -1 else szRows zss (left - zss.length)
theorem szRows_bd : ∀ (zss : List (List Int)) (l : Int), 0 ≤ l → 0 ≤ szRows zss l → ∀ z, z ∈ zss → (z.length : Int) ≤ l
  | [], _, _, _, _, hz => by cases hz
  | z :: t, l, _, h, y, hy => by
    unfold szRows at h
    split at h
    · omega
    · rcases List.mem_cons.1 hy with rfl | hy
      · omega
      · have := szRows_bd t _ (by omega) h y hy; omega
theorem szSS_bd (zss : List (List Int)) (left : Int) (_hl : 0 ≤ left) (h : 0 ≤ szSS zss left) : (zss.length : Int) ≤ left ∧ ∀ i, i < zss.length → ((rw' zss i).length : Int) ≤ left := by
  unfold szSS at h
  split at h
  · omega
  · refine ⟨by omega, fun i hi => ?_⟩
    have := szRows_bd zss _ (by omega) h (rw' zss i) (by rw [rw_get zss i hi]; exact List.getElem_mem hi)
    omega
theorem szRows_drop (zss : List (List Int)) (k : Nat) (l : Int) (hk : k < zss.length) : szRows (zss.drop k) l = if l - ((rw' zss k).length : Int) < 0 then -1 else szRows (zss.drop (k + 1)) (l - (rw' zss k).length) := by
  rw [List.drop_eq_getElem_cons hk, szRows, rw_get zss k hk]

/-! ### A slice of slices of the call's own -/
def OwnII (w : World) (lo : Nat) (v : Value) (zss : List (List Int)) : Prop :=
  ∃ vs, w.ownsRow lo 31 1 v zss.length vs ∧ (∀ i u, vs[i]? = some u → OwnI w lo u (rw' zss i)) ∧
    (∀ (i j : Nat) (u u' : Value) (a b : Nat), i < j → vs[i]? = some u → vs[j]? = some u' → u.ownBlock = some a → u'.ownBlock = some b → a < b)
theorem OwnII.rd {w : World} {lo : Nat} {v : Value} {zss : List (List Int)} (h : OwnII w lo v zss) : RdII w w.heap.size v zss := by
  obtain ⟨vs, h1, h2, _⟩ := h
  have hl : vs.length = zss.length := by have := h1.1; omega
  rcases h1.2 with ⟨rfl, h0⟩ | ⟨g, cap, cur, rfl, hb, hh, hn, hm, hs, ht⟩
  · have e : zss = [] := List.eq_nil_of_length_eq_zero h0
    subst e
    have e2 : vs = [] := List.eq_nil_of_length_eq_zero hl
    subst e2
    exact ⟨none, 0, [], rfl, Nat.le_refl _, Nat.zero_le _, rfl, Rd.nil, fun i u hu => by simp at hu⟩
  · exact ⟨some ⟨g, 0, none⟩, cap, vs, rfl, hn, hm, hl, fun _ => ⟨_, rfl, (World.ownsRow.lt h1 g rfl).2, World.ownsRow.cells h1 rfl⟩, fun i u hu => (h2 i u hu).rd⟩
theorem ownsRow_below {w w' : World} {lo : Nat} {e : TypeId} {size n : Nat} {v : Value} {xs : List Value} (h : w.ownsRow lo e size v n xs) (hb : Below w.heap.size w w') : w'.ownsRow lo e size v n xs := by
  refine World.ownsRow.kept h (row := none) ⟨hb.os, hb.tape, hb.output, hb.size, fun k hk _ => hb.block k hk⟩ ?_
  cases v.ownBlock
  · exact .inl rfl
  · exact .inr (by simp)
theorem OwnII.below {w w' : World} {lo : Nat} {v : Value} {zss : List (List Int)} (h : OwnII w lo v zss) (hb : Below w.heap.size w w') : OwnII w' lo v zss := by
  obtain ⟨vs, h1, h2, h3⟩ := h
  exact ⟨vs, ownsRow_below h1 hb, fun i u hu => (h2 i u hu).below hb, h3⟩
def RetOwnII (w : World) (zss : List (List Int)) (e : Ending) (w' : World) : Prop := ∃ v, e = .returned v ∧ OwnII w' w.heap.size v zss ∧ Below w.heap.size w w'

/-- Behind k rounds of toIntSS. -/
def SSrel (w wr : World) (zss : List (List Int)) (k : Nat) : Prop :=
  ∃ f : Nat → Value, wr.rowIs w.heap.size 31 zss.length (fun j => if j < k then f j else .slice none 0 0) ∧ (∀ j, j < k → OwnI wr (w.heap.size + 1) (f j) (rw' zss j)) ∧
    (∀ i j a b, i < j → j < k → (f i).ownBlock = some a → (f j).ownBlock = some b → a < b) ∧ Below w.heap.size w wr ∧ w.heap.size + 1 ≤ wr.heap.size
theorem SS_start (w : World) (zss : List (List Int)) : SSrel w (w.alloc (.cells (madeCells #[.slice none 0 0] zss.length) 31)) zss 0 :=
  ⟨fun _ => .slice none 0 0, (World.rowIs_made w _ _ _).congr fun i _ => by simp, fun j hj => absurd hj (by omega), fun i j a b _ hj => absurd hj (by omega), (Below.refl _ _).alloc (Nat.le_refl _) _, by simp⟩
theorem OwnI.setCell {w : World} {lo : Nat} {v : Value} {zs : List Int} (h : OwnI w lo v zs) {p : Addr} (hp : p.block < lo) (u : Value) : OwnI (w.setCell p u) lo v zs := ownsRow_setCell_below h hp u
theorem OwnI.mono {w : World} {lo lo' : Nat} {v : Value} {zs : List Int} (h : OwnI w lo v zs) (hl : lo' ≤ lo) : OwnI w lo' v zs := by
  refine ⟨h.1, ?_⟩
  rcases h.2 with h2 | ⟨g, cap, cur, e, hb, r⟩
  · exact .inl h2
  · exact .inr ⟨g, cap, cur, e, by omega, r⟩
theorem SS_step {w wr w1 : World} {zss : List (List Int)} {k : Nat} {v : Value} (h : SSrel w wr zss k) (hk : k < zss.length) (hv : OwnI w1 wr.heap.size v (rw' zss k)) (hb : Below wr.heap.size wr w1) :
    SSrel w (w1.setCell ⟨w.heap.size, k, none⟩ v) zss (k + 1) := by
  obtain ⟨f, h1, h2, h3, h4, h5⟩ := h
  have hsz := hb.size
  refine ⟨fun j => if j = k then v else f j, ((h1.of_block (hb.block _ (by omega))).set k v).congr fun j hj => ?_, fun j hj => ?_, fun i j a b hij hj ha hb' => ?_, (h4.trans (hb.mono (by omega))).setCell (Nat.le_refl _) _, by simp; omega⟩
  · by_cases e : j = k
    · subst e; simp
    · by_cases e2 : j < k
      · simp [e, e2, show j < k + 1 by omega]
      · simp [e, e2, show ¬ j < k + 1 by omega]
  · by_cases e : j = k
    · subst e; simp only [if_true]; exact (hv.mono (by omega)).setCell (Nat.lt_succ_self _) _
    · simp only [if_neg e]; exact ((h2 j (by omega)).below hb).setCell (Nat.lt_succ_self _) _
  · have hi : i ≠ k := by omega
    simp only [if_neg hi] at ha
    by_cases e : j = k
    · simp only [if_pos e] at hb'
      have l1 := ((h2 i (by omega)).lt a ha).2
      have l2 := (hv.lt b hb').1
      omega
    · simp only [if_neg e] at hb'
      exact h3 i j a b hij (by omega) ha hb'
theorem SS_end {w wr : World} {zss : List (List Int)} (hl : zss.length ≤ 9223372036854775807) (h : SSrel w wr zss zss.length) : OwnII wr w.heap.size (.slice (some ⟨w.heap.size, 0, none⟩) zss.length zss.length) zss := by
  obtain ⟨f, h1, h2, h3, h4, h5⟩ := h
  obtain ⟨c, hb, hs, hc⟩ := h1
  have hget : ∀ j, j < zss.length → c[j]? = some (f j) := fun j hj => by rw [hc j hj]; simp [hj]
  refine ⟨c.toList, ⟨by simp [hs], .inr ⟨w.heap.size, zss.length, c, rfl, Nat.le_refl _, hb, Nat.le_refl _, by unfold maxLen; omega, by omega, List.take_of_length_le (by simp; omega)⟩⟩, fun i u hu => ?_, fun i j u u' a b hij hu hu' ha hb' => ?_⟩
  · have hi : i < zss.length := by
      have := (List.getElem?_eq_some_iff.1 hu).1; simpa [hs] using this
    rw [Array.getElem?_toList, hget i hi] at hu
    obtain rfl := Option.some.inj hu
    exact (h2 i hi).mono (by omega)
  · have hj : j < zss.length := by
      have := (List.getElem?_eq_some_iff.1 hu').1; simpa [hs] using this
    rw [Array.getElem?_toList, hget i (by omega)] at hu
    rw [Array.getElem?_toList, hget j hj] at hu'
    obtain rfl := Option.some.inj hu
    obtain rfl := Option.some.inj hu'
    exact h3 i j a b hij hj ha hb'

end Go.Proofs.Ytehnbalbpfmijaa

namespace Go.Proofs.Ytehnbalbpfmijaa
open Go.RowKit

structure Aft (lo hi : Nat) (w w' : World) : Prop where
  os : w'.os = w.os
  tape : w'.tape = w.tape
  output : w'.output = w.output
  size : w.heap.size ≤ w'.heap.size
  block : ∀ k, k < w.heap.size → (k < lo ∨ hi ≤ k) → w'.heap[k]? = w.heap[k]?
theorem Aft.refl (lo hi : Nat) (w : World) : Aft lo hi w w := ⟨rfl, rfl, rfl, Nat.le_refl _, fun _ _ _ => rfl⟩
theorem Aft.trans {lo hi : Nat} {a b c : World} (h : Aft lo hi a b) (k : Aft lo hi b c) : Aft lo hi a c :=
  ⟨k.os.trans h.os, k.tape.trans h.tape, k.output.trans h.output, Nat.le_trans h.size k.size, fun i hi hh => (k.block i (Nat.lt_of_lt_of_le hi h.size) hh).trans (h.block i hi hh)⟩
theorem Aft.below {lo hi : Nat} {w w' : World} (h : Aft lo hi w w') (hl : lo ≤ w.heap.size) : Below lo w w' :=
  ⟨h.os, h.tape, h.output, h.size, fun k hk => h.block k (Nat.lt_of_lt_of_le hk hl) (.inl hk)⟩
theorem Aft.ofBelow {lo hi : Nat} {w w' : World} (h : Below w.heap.size w w') : Aft lo hi w w' := ⟨h.os, h.tape, h.output, h.size, fun k hk _ => h.block k hk⟩
theorem Aft.ofGrown {lo hi : Nat} {w w' : World} {row : Option Nat} (h : w.grownBy w' row) (hr : ∀ k, row = some k → lo ≤ k ∧ k < hi) : Aft lo hi w w' :=
  ⟨h.os, h.tape, h.output, h.size, fun k hk hh => h.block k hk fun e => by have := hr k e.symm; omega⟩
theorem Aft.more {lo hi lo' hi' : Nat} {w w' : World} (h : Aft lo hi w w') (h1 : lo' ≤ lo) (h2 : hi ≤ hi') : Aft lo' hi' w w' := ⟨h.os, h.tape, h.output, h.size, fun k hk hh => h.block k hk (by omega)⟩
/-- What lies apart from the interval: the same blocks, as a growth of no row. -/
theorem Aft.row {lo hi : Nat} {w w' : World} {base : Nat} {e : TypeId} {size n : Nat} {v : Value} {xs : List Value} (h : Aft lo hi w w') (ho : w.ownsRow base e size v n xs) (ha : ∀ k, v.ownBlock = some k → k < lo ∨ hi ≤ k) : w'.ownsRow base e size v n xs := by
  refine ⟨ho.1, ?_⟩
  rcases ho.2 with hn | ⟨g, cap, cur, rfl, hb, hgg, rest⟩
  · exact .inl hn
  · refine .inr ⟨g, cap, cur, rfl, hb, ?_, rest⟩
    rw [h.block g (Array.getElem?_eq_some_iff.1 hgg).1 (ha g rfl)]
    exact hgg
end Go.Proofs.Ytehnbalbpfmijaa
