/- What the claim's walk rests on: parts IntSS, Aft, OwnM, RectI. -/
import Derived.Test.YtehnbalbpfmijaaKt3
import Derived.Test.YtehnbalbpfmijaaKt2
import Derived.Test.YtehnbalbpfmijaaKt1
import Derived.Test.YtehnbalbpfmijaaBasic
import Derived.Below
import Derived.Laws.AppendOwn
import Derived.Deep.RegionLaw
namespace Go.Proofs.Ytehnbalbpfmijaa
open Go.RowKit

theorem infoRow : (Try.prog.info? 31).map (fun i => (i.zero, i.size, i.bytes)) = some (some (.slice none 0 0), 1, 24) := by kernel_rfl

/-! ### Sizes -/
def szRows : List (List Int) → Int → Int
  | [], l => l
  | z :: t, l => if l - (z.length : Int) < 0 then -1 else szRows t (l - z.length)
def szSS (zss : List (List Int)) (left : Int) : Int := if left - (zss.length : Int) < 0 then -1 else szRows zss (left - zss.length)
theorem szRows_bd : ∀ (zss : List (List Int)) (l : Int), 0 ≤ l → 0 ≤ szRows zss l → ∀ z, z ∈ zss → (z.length : Int) ≤ l
  | [], _, _, _, _, hz => by cases hz
  | z :: t, l, _, h, y, hy => by
    unfold szRows at h
    split at h
    · omega
    · rcases List.mem_cons.1 hy with rfl | hy
      · omega
      · have := szRows_bd t _ (by omega) h y hy; omega
theorem szSS_bd (zss : List (List Int)) (left : Int) (_hl : 0 ≤ left) (h : 0 ≤ szSS zss left) : (zss.length : Int) ≤ left ∧ ∀ i, i < zss.length → ((rw' zss i).length : Int) ≤ left := by
  unfold szSS at h
  split at h
  · omega
  · refine ⟨by omega, fun i hi => ?_⟩
    have := szRows_bd zss _ (by omega) h (rw' zss i) (by rw [rw_get zss i hi]; exact List.getElem_mem hi)
    omega
theorem szRows_drop (zss : List (List Int)) (k : Nat) (l : Int) (hk : k < zss.length) : szRows (zss.drop k) l = if l - ((rw' zss k).length : Int) < 0 then -1 else szRows (zss.drop (k + 1)) (l - (rw' zss k).length) := by
  rw [List.drop_eq_getElem_cons hk, szRows, rw_get zss k hk]

/-! ### A slice of slices of the call's own -/
def OwnII (w : World) (lo : Nat) (v : Value) (zss : List (List Int)) : Prop :=
  ∃ vs, w.ownsRow lo 31 1 v zss.length vs ∧ (∀ i u, vs[i]? = some u → OwnI w lo u (rw' zss i)) ∧
    (∀ (i j : Nat) (u u' : Value) (a b : Nat), i < j → vs[i]? = some u → vs[j]? = some u' → u.ownBlock = some a → u'.ownBlock = some b → a < b)
theorem OwnII.rd {w : World} {lo : Nat} {v : Value} {zss : List (List Int)} (h : OwnII w lo v zss) : RdII w w.heap.size v zss := by
  obtain ⟨vs, h1, h2, _⟩ := h
  have hl : vs.length = zss.length := by have := h1.1; omega
  rcases h1.2 with ⟨rfl, h0⟩ | ⟨g, cap, cur, rfl, hb, hh, hn, hm, hs, ht⟩
  · have e : zss = [] := List.eq_nil_of_length_eq_zero h0
    subst e
    have e2 : vs = [] := List.eq_nil_of_length_eq_zero hl
    subst e2
    exact ⟨none, 0, [], rfl, Nat.le_refl _, Nat.zero_le _, rfl, Rd.nil, fun i u hu => by simp at hu⟩
  · exact ⟨some ⟨g, 0, none⟩, cap, vs, rfl, hn, hm, hl, fun _ => ⟨_, rfl, (World.ownsRow.lt h1 g rfl).2, World.ownsRow.cells h1 rfl⟩, fun i u hu => (h2 i u hu).rd⟩
theorem ownsRow_below {w w' : World} {lo : Nat} {e : TypeId} {size n : Nat} {v : Value} {xs : List Value} (h : w.ownsRow lo e size v n xs) (hb : Below w.heap.size w w') : w'.ownsRow lo e size v n xs := by
  refine World.ownsRow.kept h (row := none) ⟨hb.os, hb.tape, hb.output, hb.size, fun k hk _ => hb.block k hk⟩ ?_
  cases v.ownBlock
  · exact .inl rfl
  · exact .inr (by simp)
theorem OwnII.below {w w' : World} {lo : Nat} {v : Value} {zss : List (List Int)} (h : OwnII w lo v zss) (hb : Below w.heap.size w w') : OwnII w' lo v zss := by
  obtain ⟨vs, h1, h2, h3⟩ := h
  exact ⟨vs, ownsRow_below h1 hb, fun i u hu => (h2 i u hu).below hb, h3⟩
def RetOwnII (w : World) (zss : List (List Int)) (e : Ending) (w' : World) : Prop := ∃ v, e = .returned v ∧ OwnII w' w.heap.size v zss ∧ Below w.heap.size w w'

/-- Behind k rounds of toIntSS. -/
def SSrel (w wr : World) (zss : List (List Int)) (k : Nat) : Prop :=
  ∃ f : Nat → Value, wr.rowIs w.heap.size 31 zss.length (fun j => if j < k then f j else .slice none 0 0) ∧ (∀ j, j < k → OwnI wr (w.heap.size + 1) (f j) (rw' zss j)) ∧
    (∀ i j a b, i < j → j < k → (f i).ownBlock = some a → (f j).ownBlock = some b → a < b) ∧ Below w.heap.size w wr ∧ w.heap.size + 1 ≤ wr.heap.size
theorem SS_start (w : World) (zss : List (List Int)) : SSrel w (w.alloc (.cells (madeCells #[.slice none 0 0] zss.length) 31)) zss 0 :=
  ⟨fun _ => .slice none 0 0, (World.rowIs_made w _ _ _).congr fun i _ => by simp, fun j hj => absurd hj (by omega), fun i j a b _ hj => absurd hj (by omega), (Below.refl _ _).alloc (Nat.le_refl _) _, by simp⟩
theorem OwnI.setCell {w : World} {lo : Nat} {v : Value} {zs : List Int} (h : OwnI w lo v zs) {p : Addr} (hp : p.block < lo) (u : Value) : OwnI (w.setCell p u) lo v zs := ownsRow_setCell_below h hp u
theorem OwnI.mono {w : World} {lo lo' : Nat} {v : Value} {zs : List Int} (h : OwnI w lo v zs) (hl : lo' ≤ lo) : OwnI w lo' v zs := by
  refine ⟨h.1, ?_⟩
  rcases h.2 with h2 | ⟨g, cap, cur, e, hb, r⟩
  · exact .inl h2
  · exact .inr ⟨g, cap, cur, e, by omega, r⟩
theorem SS_step {w wr w1 : World} {zss : List (List Int)} {k : Nat} {v : Value} (h : SSrel w wr zss k) (hk : k < zss.length) (hv : OwnI w1 wr.heap.size v (rw' zss k)) (hb : Below wr.heap.size wr w1) :
    SSrel w (w1.setCell ⟨w.heap.size, k, none⟩ v) zss (k + 1) := by
  obtain ⟨f, h1, h2, h3, h4, h5⟩ := h
  have hsz := hb.size
  refine ⟨fun j => if j = k then v else f j, ((h1.of_block (hb.block _ (by omega))).set k v).congr fun j hj => ?_, fun j hj => ?_, fun i j a b hij hj ha hb' => ?_, (h4.trans (hb.mono (by omega))).setCell (Nat.le_refl _) _, by simp; omega⟩
  · by_cases e : j = k
    · subst e; simp
    · by_cases e2 : j < k
      · simp [e, e2, show j < k + 1 by omega]
      · simp [e, e2, show ¬ j < k + 1 by omega]
  · by_cases e : j = k
    · subst e; simp only [if_true]; exact (hv.mono (by omega)).setCell (Nat.lt_succ_self _) _
    · simp only [if_neg e]; exact ((h2 j (by omega)).below hb).setCell (Nat.lt_succ_self _) _
  · have hi : i ≠ k := by omega
    simp only [if_neg hi] at ha
    by_cases e : j = k
    · simp only [if_pos e] at hb'
      have l1 := ((h2 i (by omega)).lt a ha).2
      have l2 := (hv.lt b hb').1
      omega
    · simp only [if_neg e] at hb'
      exact h3 i j a b hij (by omega) ha hb'
theorem SS_end {w wr : World} {zss : List (List Int)} (hl : zss.length ≤ 9223372036854775807) (h : SSrel w wr zss zss.length) : OwnII wr w.heap.size (.slice (some ⟨w.heap.size, 0, none⟩) zss.length zss.length) zss := by
  obtain ⟨f, h1, h2, h3, h4, h5⟩ := h
  obtain ⟨c, hb, hs, hc⟩ := h1
  have hget : ∀ j, j < zss.length → c[j]? = some (f j) := fun j hj => by rw [hc j hj]; simp [hj]
  refine ⟨c.toList, ⟨by simp [hs], .inr ⟨w.heap.size, zss.length, c, rfl, Nat.le_refl _, hb, Nat.le_refl _, by unfold maxLen; omega, by omega, List.take_of_length_le (by simp; omega)⟩⟩, fun i u hu => ?_, fun i j u u' a b hij hu hu' ha hb' => ?_⟩
  · have hi : i < zss.length := by
      have := (List.getElem?_eq_some_iff.1 hu).1; simpa [hs] using this
    rw [Array.getElem?_toList, hget i hi] at hu
    obtain rfl := Option.some.inj hu
    exact (h2 i hi).mono (by omega)
  · have hj : j < zss.length := by
      have := (List.getElem?_eq_some_iff.1 hu').1; simpa [hs] using this
    rw [Array.getElem?_toList, hget i (by omega)] at hu
    rw [Array.getElem?_toList, hget j hj] at hu'
    obtain rfl := Option.some.inj hu
    obtain rfl := Option.some.inj hu'
    exact h3 i j a b hij hj ha hb'

end Go.Proofs.Ytehnbalbpfmijaa

namespace Go.Proofs.Ytehnbalbpfmijaa
open Go.RowKit

structure Aft (lo hi : Nat) (w w' : World) : Prop where
  os : w'.os = w.os
  tape : w'.tape = w.tape
  output : w'.output = w.output
  size : w.heap.size ≤ w'.heap.size
  block : ∀ k, k < w.heap.size → (k < lo ∨ hi ≤ k) → w'.heap[k]? = w.heap[k]?
theorem Aft.refl (lo hi : Nat) (w : World) : Aft lo hi w w := ⟨rfl, rfl, rfl, Nat.le_refl _, fun _ _ _ => rfl⟩
theorem Aft.trans {lo hi : Nat} {a b c : World} (h : Aft lo hi a b) (k : Aft lo hi b c) : Aft lo hi a c :=
  ⟨k.os.trans h.os, k.tape.trans h.tape, k.output.trans h.output, Nat.le_trans h.size k.size, fun i hi hh => (k.block i (Nat.lt_of_lt_of_le hi h.size) hh).trans (h.block i hi hh)⟩
theorem Aft.below {lo hi : Nat} {w w' : World} (h : Aft lo hi w w') (hl : lo ≤ w.heap.size) : Below lo w w' :=
  ⟨h.os, h.tape, h.output, h.size, fun k hk => h.block k (Nat.lt_of_lt_of_le hk hl) (.inl hk)⟩
theorem Aft.ofBelow {lo hi : Nat} {w w' : World} (h : Below w.heap.size w w') : Aft lo hi w w' := ⟨h.os, h.tape, h.output, h.size, fun k hk _ => h.block k hk⟩
theorem Aft.ofGrown {lo hi : Nat} {w w' : World} {row : Option Nat} (h : w.grownBy w' row) (hr : ∀ k, row = some k → lo ≤ k ∧ k < hi) : Aft lo hi w w' :=
  ⟨h.os, h.tape, h.output, h.size, fun k hk hh => h.block k hk fun e => by have := hr k e.symm; omega⟩
theorem Aft.more {lo hi lo' hi' : Nat} {w w' : World} (h : Aft lo hi w w') (h1 : lo' ≤ lo) (h2 : hi ≤ hi') : Aft lo' hi' w w' := ⟨h.os, h.tape, h.output, h.size, fun k hk hh => h.block k hk (by omega)⟩
/-- What lies apart from the interval: the same blocks, as a growth of no row. -/
theorem Aft.row {lo hi : Nat} {w w' : World} {base : Nat} {e : TypeId} {size n : Nat} {v : Value} {xs : List Value} (h : Aft lo hi w w') (ho : w.ownsRow base e size v n xs) (ha : ∀ k, v.ownBlock = some k → k < lo ∨ hi ≤ k) : w'.ownsRow base e size v n xs := by
  refine ⟨ho.1, ?_⟩
  rcases ho.2 with hn | ⟨g, cap, cur, rfl, hb, hgg, rest⟩
  · exact .inl hn
  · refine .inr ⟨g, cap, cur, rfl, hb, ?_, rest⟩
    rw [h.block g (Array.getElem?_eq_some_iff.1 hgg).1 (ha g rfl)]
    exact hgg
end Go.Proofs.Ytehnbalbpfmijaa

namespace Go.Proofs.Ytehnbalbpfmijaa
open Go.RowKit

/-- The rows: owned, in ascending blocks, none in the block of the outer slice, all below hi. -/
def OwnMR (w : World) (lo hi : Nat) (v : Value) (zss : List (List Int)) (vs : List Value) : Prop :=
  (∀ i u, vs[i]? = some u → OwnI w lo u (rw' zss i)) ∧
    (∀ (i j : Nat) (u u' : Value) (a b : Nat), i < j → vs[i]? = some u → vs[j]? = some u' → u.ownBlock = some a → u'.ownBlock = some b → a < b) ∧
    (∀ (i : Nat) (u : Value) (a : Nat), vs[i]? = some u → u.ownBlock = some a → v.ownBlock ≠ some a ∧ a < hi) ∧ ∀ a, v.ownBlock = some a → a < hi
def OwnM (w : World) (lo hi : Nat) (v : Value) (zss : List (List Int)) : Prop := ∃ vs, w.ownsRow lo 31 1 v zss.length vs ∧ OwnMR w lo hi v zss vs
theorem OwnM.two {w : World} {lo hi : Nat} {v : Value} {zss : List (List Int)} (h : OwnM w lo hi v zss) : OwnII w lo v zss := by
  obtain ⟨vs, h1, h2, h3, _⟩ := h; exact ⟨vs, h1, h2, h3⟩
theorem OwnM.rd {w : World} {lo hi : Nat} {v : Value} {zss : List (List Int)} (h : OwnM w lo hi v zss) : RdII w w.heap.size v zss := h.two.rd
theorem OwnM.below {w w' : World} {lo hi : Nat} {v : Value} {zss : List (List Int)} (h : OwnM w lo hi v zss) (hb : Below w.heap.size w w') : OwnM w' lo hi v zss := by
  obtain ⟨vs, h1, h2, h3, h4⟩ := h
  exact ⟨vs, ownsRow_below h1 hb, fun i u hu => (h2 i u hu).below hb, h3, h4⟩
theorem OwnM.aft {w w' : World} {lo hi a b : Nat} {v : Value} {zss : List (List Int)} (h : OwnM w lo hi v zss) (hb : Aft a b w w') (hh : hi ≤ a ∨ b ≤ lo) : OwnM w' lo hi v zss := by
  obtain ⟨vs, h1, h2, h3, h4, h5⟩ := h
  exact ⟨vs, hb.row h1 fun k hk => by have := h5 k hk; have := (World.ownsRow.lt h1 k hk).1; omega, fun i u hu => hb.row (h2 i u hu) fun k hk => by have := (h4 i u k hu hk).2; have := (World.ownsRow.lt (h2 i u hu) k hk).1; omega, h3, h4, h5⟩
theorem OwnM.more {w : World} {lo hi hi' : Nat} {v : Value} {zss : List (List Int)} (h : OwnM w lo hi v zss) (hh : hi ≤ hi') : OwnM w lo hi' v zss := by
  obtain ⟨vs, h1, h2, h3, h4, h5⟩ := h
  exact ⟨vs, h1, h2, h3, fun i u a hu ha => ⟨(h4 i u a hu ha).1, Nat.lt_of_lt_of_le (h4 i u a hu ha).2 hh⟩, fun a ha => Nat.lt_of_lt_of_le (h5 a ha) hh⟩
/-- It is kept where a row at or above hi grows. -/
theorem OwnM.grown {w w' : World} {lo hi : Nat} {v : Value} {zss : List (List Int)} {row : Option Nat} (h : OwnM w lo hi v zss) (hg : w.grownBy w' row) (hr : ∀ k, row = some k → hi ≤ k) : OwnM w' lo hi v zss := by
  obtain ⟨vs, h1, h2, h3, h4, h5⟩ := h
  refine ⟨vs, World.ownsRow.kept h1 hg ?_, fun i u hu => (h2 i u hu).grown hg fun k hk e => ?_, h3, h4, h5⟩
  · cases e : v.ownBlock with
    | none => exact .inl rfl
    | some a => exact .inr fun e2 => by have := h5 a e; have := hr a e2.symm; omega
  · have := (h4 i u k hu hk).2; have := hr k e.symm; omega

/-- The slice of rows, behind some rounds. -/
def MRel (w wr : World) (hi : Nat) (v : Value) (zss : List (List Int)) : Prop := OwnM wr w.heap.size hi v zss ∧ Below w.heap.size w wr ∧ hi ≤ wr.heap.size ∧ w.heap.size ≤ hi
/-- A new row beside it. -/
def RowRel (w wr : World) (hi : Nat) (v : Value) (zss : List (List Int)) (u : Value) (zs : List Int) : Prop := MRel w wr hi v zss ∧ OwnI wr hi u zs
theorem MRel.start (w : World) : MRel w (w.alloc (.cells #[] 31)) (w.heap.size + 1) (.slice (some ⟨w.heap.size, 0, none⟩) 0 0) [] := by
  refine ⟨⟨[], ?_, fun i u hu => by simp at hu, fun i j u u' a b _ hu => by simp at hu, fun i u a hu => by simp at hu, fun a ha => ?_⟩, (Below.refl _ _).alloc (Nat.le_refl _) _, by simp, by omega⟩
  · simpa using World.ownsRow_lit (base := w.heap.size) (e := 31) (size := 1) w #[] 0 (Nat.le_refl _) (by simp [maxLen]) (by simp)
  · simp only [Value.ownBlock, Option.some.injEq] at ha; omega
theorem MRel.below {w wr w1 : World} {hi : Nat} {v : Value} {zss : List (List Int)} (h : MRel w wr hi v zss) (hb : Below wr.heap.size wr w1) : MRel w w1 hi v zss := by
  obtain ⟨h1, h2, h3, h4⟩ := h
  have := hb.size
  exact ⟨h1.below hb, h2.trans (hb.mono h2.size), by omega, h4⟩
theorem RowRel.below {w wr w1 : World} {hi : Nat} {v : Value} {zss : List (List Int)} {u : Value} {zs : List Int} (h : RowRel w wr hi v zss u zs) (hb : Below wr.heap.size wr w1) : RowRel w w1 hi v zss u zs := ⟨h.1.below hb, h.2.below hb⟩
theorem RowRel.start {w wr : World} {hi : Nat} {v : Value} {zss : List (List Int)} (h : MRel w wr hi v zss) : RowRel w (wr.alloc (.cells #[] 3)) hi v zss (.slice (some ⟨wr.heap.size, 0, none⟩) 0 0) [] :=
  ⟨h.below ((Below.refl _ _).alloc (Nat.le_refl _) _), by simpa [OwnI] using World.ownsRow_lit (base := hi) (e := 3) (size := 1) wr #[] 0 h.2.2.1 (by simp [maxLen]) (by simp)⟩
theorem RowRel.step {w wr w1 : World} {hi : Nat} {v : Value} {zss : List (List Int)} {u : Value} {zs : List Int} {z : Int} {g cap : Nat} (h : RowRel w wr hi v zss u zs)
    (hown : w1.ownsRow hi 3 1 (.slice (some ⟨g, 0, none⟩) (zs.length + 1) cap) (zs.length + 1) (zs.map (Value.int .i64) ++ [.int .i64 z]))
    (hg : (wr.alloc (.cells #[.int .i64 z] 3)).grownBy w1 u.ownBlock) : RowRel w w1 hi v zss (.slice (some ⟨g, 0, none⟩) (zs.length + 1) cap) (zs ++ [z]) := by
  obtain ⟨h1, h2, h3, h4⟩ := h.1
  have ha := (Below.refl wr.heap.size wr).alloc (Nat.le_refl _) (.cells #[.int .i64 z] 3)
  have hgs : wr.heap.size + 1 ≤ w1.heap.size := by have := hg.size; simpa using this
  refine ⟨⟨(h1.below ha).grown hg fun k hk => (h.2.lt k hk).1, (h2.alloc h2.size _).grown hg (by simp; have := h2.size; omega) (fun k hk => by have := (h.2.lt k hk).1; omega), by omega, h4⟩, OwnI.one rfl hown⟩
theorem RowRel.push {w wr w1 : World} {hi : Nat} {v : Value} {zss : List (List Int)} {u : Value} {zs : List Int} {g cap : Nat} {vs : List Value} (h : RowRel w wr hi v zss u zs) (hv : OwnMR wr w.heap.size hi v zss vs) (hl : vs.length = zss.length)
    (hown : w1.ownsRow w.heap.size 31 1 (.slice (some ⟨g, 0, none⟩) (zss.length + 1) cap) (zss.length + 1) (vs ++ [u]))
    (hg : (wr.alloc (.cells #[u] 31)).grownBy w1 v.ownBlock) (hat : v.ownBlock = some g ∨ g = wr.heap.size + 1) (hlt : g < w1.heap.size) :
    MRel w w1 w1.heap.size (.slice (some ⟨g, 0, none⟩) (zss.length + 1) cap) (zss ++ [zs]) := by
  obtain ⟨h1, h2, h3, h4⟩ := h.1
  obtain ⟨r1, r2, r3, r4⟩ := hv
  have ha := (Below.refl wr.heap.size wr).alloc (Nat.le_refl _) (.cells #[u] 31)
  have hgs : wr.heap.size + 1 ≤ w1.heap.size := by have := hg.size; simpa using this
  have hu : OwnI w1 w.heap.size u zs := ((h.2.below ha).grown hg fun k hk e => by have := (h.2.lt k hk).1; have := r4 k e.symm; omega).mono h4
  have hrow : ∀ i, (rw' (zss ++ [zs]) i) = if i < zss.length then rw' zss i else if i = zss.length then zs else [] := fun i => by
    unfold rw'
    rw [List.getD_eq_getElem?_getD, List.getD_eq_getElem?_getD]
    by_cases e : i < zss.length
    · rw [List.getElem?_append_left e, if_pos e]
    · rw [List.getElem?_append_right (by omega), if_neg e]
      by_cases e2 : i = zss.length
      · simp [e2]
      · rw [if_neg e2, List.getElem?_eq_none (by simp; omega)]; rfl
  have hget : ∀ i x, (vs ++ [u])[i]? = some x → (i < zss.length ∧ vs[i]? = some x) ∨ (i = zss.length ∧ x = u) := fun i x hx => by
    by_cases e : i < vs.length
    · rw [List.getElem?_append_left e] at hx; exact .inl ⟨by omega, hx⟩
    · rw [List.getElem?_append_right (by omega)] at hx
      by_cases e2 : i = vs.length
      · subst e2; simp at hx; exact .inr ⟨by omega, hx.symm⟩
      · rw [List.getElem?_eq_none (by simp; omega)] at hx; simp at hx
  refine ⟨⟨vs ++ [u], by rw [List.length_append]; exact hown, fun i x hx => ?_, fun i j x x' a b hij hx hx' hxa hxb => ?_, fun i x a hx hxa => ?_, fun a hxa => ?_⟩, ?_, Nat.le_refl _, by have := h2.size; omega⟩
  · rw [hrow i]
    rcases hget i x hx with ⟨e, hx⟩ | ⟨e, rfl⟩
    · rw [if_pos e]; exact ((r1 i x hx).below ha).grown hg fun k hk e2 => (r3 i x k hx hk).1 e2.symm
    · rw [if_neg (by omega), if_pos e]; exact hu
  · rcases hget i x hx with ⟨e, hy⟩ | ⟨e, rfl⟩ <;> rcases hget j x' hx' with ⟨e', hy'⟩ | ⟨e', rfl⟩
    · exact r2 i j x x' a b hij hy hy' hxa hxb
    · have := (r3 i x a hy hxa).2; have := (h.2.lt b hxb).1; omega
    · omega
    · omega
  · rcases hget i x hx with ⟨e, hx⟩ | ⟨e, rfl⟩
    · obtain ⟨p1, p2⟩ := r3 i x a hx hxa
      refine ⟨fun e2 => ?_, by omega⟩
      simp only [Value.ownBlock, Option.some.injEq] at e2
      rcases hat with hat | hat
      · exact p1 (by rw [hat, e2])
      · omega
    · have p1 := h.2.lt a hxa
      refine ⟨fun e2 => ?_, by omega⟩
      simp only [Value.ownBlock, Option.some.injEq] at e2
      rcases hat with hat | hat
      · have := r4 g hat; omega
      · omega
  · simp only [Value.ownBlock, Option.some.injEq] at hxa; omega
  · exact (h2.alloc h2.size _).grown hg (by simp; have := h2.size; omega) (fun k hk => (World.ownsRow.lt (h1.choose_spec.1) k hk).1)

/-- One row of it, and that it may be written. -/
theorem OwnM.row {w : World} {lo hi g n cap : Nat} {zss : List (List Int)} (h : OwnM w lo hi (.slice (some ⟨g, 0, none⟩) n cap) zss) {j : Nat} (hj : j < zss.length) :
    ∃ u, w.cell? ⟨g, j, none⟩ = some u ∧ OwnI w lo u (rw' zss j) ∧ (∀ a, u.ownBlock = some a → a < hi) ∧ ∀ w' zs', OwnI w' lo u zs' → w.grownBy w' u.ownBlock → OwnM w' lo hi (.slice (some ⟨g, 0, none⟩) n cap) (zss.set j zs') := by
  obtain ⟨vs, h1, h2, h3, h4, h5⟩ := h
  have hl : vs.length = zss.length := by have := h1.1; omega
  have hg : vs[j]? = some (vs[j]'(by omega)) := List.getElem?_eq_getElem (by omega)
  obtain rfl : n = zss.length := by
    obtain ⟨g', c', e, _⟩ := World.ownsRow.form h1 (by omega)
    simp only [Value.slice.injEq] at e; exact e.2.1
  refine ⟨vs[j]'(by omega), ?_, h2 j _ hg, fun a ha => (h4 j _ a hg ha).2, fun w' zs' hn hgr => ⟨vs, ?_, fun i u hu => ?_, h3, h4, h5⟩⟩
  · rw [World.ownsRow.cellAt h1 j (by omega)]; exact hg
  · rw [List.length_set]
    refine World.ownsRow.kept h1 hgr ?_
    cases e : (vs[j]'(by omega)).ownBlock with
    | none => exact .inr (by simp [Value.ownBlock])
    | some a => exact .inr (h4 j _ a hg e).1
  · by_cases e : i = j
    · subst e
      rw [hg] at hu
      obtain rfl := Option.some.inj hu
      rw [show rw' (zss.set i zs') i = zs' by simp [rw', hj]]
      exact hn
    · rw [show rw' (zss.set j zs') i = rw' zss i by simp [rw', Ne.symm e]]
      refine (h2 i u hu).grown hgr fun k hk e2 => ?_
      rcases Nat.lt_or_gt_of_ne e with c | c
      · have := h3 i j u _ k k c hu hg hk e2.symm; omega
      · have := h3 j i _ u k k c hg hu e2.symm hk; omega
end Go.Proofs.Ytehnbalbpfmijaa

namespace Go.Proofs.Ytehnbalbpfmijaa
open Go.RowKit

theorem World.ownsRow.mono_base {w : World} {lo lo' : Nat} {e : TypeId} {size n : Nat} {v : Value} {xs : List Value} (h : w.ownsRow lo e size v n xs) (hl : lo' ≤ lo) : w.ownsRow lo' e size v n xs := by
  refine ⟨h.1, ?_⟩
  rcases h.2 with h2 | ⟨g, cap, cur, e, hb, r⟩
  · exact .inl h2
  · exact .inr ⟨g, cap, cur, e, by omega, r⟩

/-- A new slice of new rows comes back. -/
def RetM (w : World) (zss : List (List Int)) (e : Ending) (w' : World) : Prop := ∃ v hi, e = .returned v ∧ OwnM w' w.heap.size hi v zss ∧ hi ≤ w'.heap.size ∧ Below w.heap.size w w'
theorem MRel.after {w w1 wr : World} {hi : Nat} {v : Value} {zss : List (List Int)} (hb : Below w.heap.size w w1) (h : MRel w1 wr hi v zss) : MRel w wr hi v zss := by
  obtain ⟨⟨vs, h1, h2, h3⟩, hb1, hh, hl⟩ := h
  have := hb.size
  exact ⟨⟨vs, World.ownsRow.mono_base h1 hb.size, fun i u hu => (h2 i u hu).mono hb.size, h3⟩, hb.trans (hb1.mono hb.size), hh, by omega⟩
theorem OwnM.none (w : World) (lo : Nat) : OwnM w lo 0 (.slice none 0 0) [] :=
  ⟨[], by simpa using World.ownsRow_nil w lo 31 1, fun i u hu => by simp at hu, fun i j u u' a b _ hu => by simp at hu, fun i u a hu => by simp at hu, fun a ha => by simp [Value.ownBlock] at ha⟩
end Go.Proofs.Ytehnbalbpfmijaa

namespace Go.Proofs.Ytehnbalbpfmijaa
open Go.RowKit

/-- A slice value, taken apart. -/
abbrev Sl := Option Addr × Nat × Nat
abbrev slV (s : Sl) : Value := .slice s.1 s.2.1 s.2.2
def elSl (e t : TypeId) : El Sl := ⟨e, t, 1, 24, .slice none 0 0, fun s => [slV s]⟩
theorem okSl {P : Program} {e t : TypeId} (h1 : P.underlying t = some (.slice e)) (h2 : (P.info? e).map (fun i => (i.zero, i.size, i.bytes)) = some (some (.slice none 0 0), 1, 24)) : (elSl e t).Ok P :=
  ⟨h1, h2, rfl, by show 0 < 1; omega, by show 24 ≤ 1024; omega, fun _ => rfl, fun x u hu => by simp [elSl] at hu; subst hu; rfl⟩

/-- A kind of thing that lies in an interval of blocks. -/
structure Kd (α : Type) where
  P : World → Nat → Nat → Value → α → Prop
  keep : ∀ {w w' : World} {lo hi : Nat} {v : Value} {x : α}, P w lo hi v x → w.heap.size ≤ w'.heap.size → (∀ k, lo ≤ k → k < hi → w'.heap[k]? = w.heap[k]?) → P w' lo hi v x
  mono : ∀ {w : World} {lo hi lo' hi' : Nat} {v : Value} {x : α}, P w lo hi v x → lo' ≤ lo → hi ≤ hi' → P w lo' hi' v x

theorem ownsRow_keep {w w' : World} {lo hi : Nat} {e : TypeId} {size n : Nat} {v : Value} {xs : List Value} (h : w.ownsRow lo e size v n xs) (hh : ∀ k, v.ownBlock = some k → k < hi) (hk : ∀ k, lo ≤ k → k < hi → w'.heap[k]? = w.heap[k]?) : w'.ownsRow lo e size v n xs := by
  refine ⟨h.1, ?_⟩
  rcases h.2 with hn | ⟨g, cap, cur, rfl, hb, hgg, rest⟩
  · exact .inl hn
  · exact .inr ⟨g, cap, cur, rfl, hb, (hk g hb (hh g rfl)).trans hgg, rest⟩
theorem ownsRow_mono {w : World} {lo lo' : Nat} {e : TypeId} {size n : Nat} {v : Value} {xs : List Value} (h : w.ownsRow lo e size v n xs) (hl : lo' ≤ lo) : w.ownsRow lo' e size v n xs := World.ownsRow.mono_base h hl

/-- Rows of plain elements. -/
def kdF {α : Type} (E : El α) : Kd (List α) where
  P w lo hi v xs := OwnF E w lo v xs ∧ ∀ k, v.ownBlock = some k → k < hi
  keep h _ hk := ⟨ownsRow_keep h.1 h.2 hk, h.2⟩
  mono h hl hh := ⟨h.1.mono hl, fun k hk => Nat.lt_of_lt_of_le (h.2 k hk) hh⟩
/-- Rows of rows of integers. -/
def kdM : Kd (List (List Int)) where
  P w lo hi v zss := OwnM w lo hi v zss
  keep := fun {w w' lo hi v x} h _ hk => by
    obtain ⟨vs, h1, h2, h3, h4, h5⟩ := h
    exact ⟨vs, ownsRow_keep h1 h5 hk, fun i u hu => ownsRow_keep (h2 i u hu) (fun k hk' => (h4 i u k hu hk').2) hk, h3, h4, h5⟩
  mono := fun {w lo hi lo' hi' v x} h hl hh => by
    obtain ⟨vs, h1, h2, h3, h4, h5⟩ := h.more hh
    exact ⟨vs, ownsRow_mono h1 hl, fun i u hu => (h2 i u hu).mono hl, h3, h4, h5⟩

section
variable {α : Type} {K : Kd α} {E : El Sl}
/-- The elements: each in an interval of its own, none with the block O. -/
def Els (K : Kd α) (w : World) (lo hi : Nat) (O : Option Nat) (ss : List Sl) (xs : List α) : Prop :=
  ss.length = xs.length ∧ ∃ a b : Nat → Nat, (∀ i s x, ss[i]? = some s → xs[i]? = some x → lo ≤ a i ∧ b i ≤ hi ∧ K.P w (a i) (b i) (slV s) x ∧ ∀ g, O = some g → g < a i ∨ b i ≤ g) ∧ ∀ i j, i < j → j < xs.length → b i ≤ a j
theorem Els.nil (w : World) (lo hi : Nat) (O : Option Nat) : Els K w lo hi O [] [] := ⟨rfl, fun _ => 0, fun _ => 0, fun i s x h => by simp at h, fun i j _ h => by simp at h⟩
theorem Els.kept {w w' : World} {lo hi : Nat} {O : Option Nat} {ss : List Sl} {xs : List α} (h : Els K w lo hi O ss xs) (hs : w.heap.size ≤ w'.heap.size) (hk : ∀ k, lo ≤ k → k < hi → O ≠ some k → w'.heap[k]? = w.heap[k]?) : Els K w' lo hi O ss xs := by
  obtain ⟨h1, a, b, h2, h3⟩ := h
  refine ⟨h1, a, b, fun i s x hi hx => ?_, h3⟩
  obtain ⟨p1, p2, p3, p4⟩ := h2 i s x hi hx
  exact ⟨p1, p2, K.keep p3 hs fun k q1 q2 => hk k (by omega) (by omega) (fun e => by have := p4 k e; omega), p4⟩
theorem Els.more {w : World} {lo hi lo' hi' : Nat} {O : Option Nat} {ss : List Sl} {xs : List α} (h : Els K w lo hi O ss xs) (hl : lo' ≤ lo) (hh : hi ≤ hi') : Els K w lo' hi' O ss xs := by
  obtain ⟨h1, a, b, h2, h3⟩ := h
  refine ⟨h1, a, b, fun i s x hi hx => ?_, h3⟩
  obtain ⟨p1, p2, p3, p4⟩ := h2 i s x hi hx
  exact ⟨by omega, by omega, p3, p4⟩

/-- A slice of such slices that grows: w the world at the call, wr the world now; the elements lie from lo on and below hi. -/
def NRel (K : Kd α) (E : El Sl) (w : World) (base lo : Nat) (wr : World) (hi : Nat) (v : Value) (xs : List α) : Prop :=
  ∃ ss, Acc E w base wr v ss ∧ Els K wr lo hi v.ownBlock ss xs ∧ hi ≤ wr.heap.size
theorem Acc.lt {β : Type} {F : El β} {w wr : World} {lo : Nat} {v : Value} {xs : List β} (h : Acc F w lo wr v xs) : ∀ k, v.ownBlock = some k → lo ≤ k ∧ k < wr.heap.size := h.1.lt
theorem NRel.below {w wr w1 : World} {base lo hi : Nat} {v : Value} {xs : List α} (h : NRel K E w base lo wr hi v xs) (hb : Below wr.heap.size wr w1) : NRel K E w base lo w1 hi v xs := by
  obtain ⟨ss, h1, h2, h3⟩ := h
  exact ⟨ss, h1.below hb, h2.kept hb.size fun k _ hk _ => hb.block k (by omega), Nat.le_trans h3 hb.size⟩
/-- It is kept where neither the outer block nor the elements' blocks are written. -/
theorem NRel.kept {w wr w1 : World} {base lo hi : Nat} {v : Value} {xs : List α} (h : NRel K E w base lo wr hi v xs) (hb : Below w.heap.size w w1) (hs : wr.heap.size ≤ w1.heap.size) (ho : ∀ k, v.ownBlock = some k → w1.heap[k]? = wr.heap[k]?) (hk : ∀ k, lo ≤ k → k < hi → w1.heap[k]? = wr.heap[k]?) : NRel K E w base lo w1 hi v xs := by
  obtain ⟨ss, ⟨q1, q2, q3, q4⟩, h2, h3⟩ := h
  refine ⟨ss, ⟨?_, hb, q3, by omega⟩, h2.kept hs fun k p1 p2 _ => hk k p1 p2, by omega⟩
  refine ⟨q1.1, ?_⟩
  rcases q1.2 with hn | ⟨g, cap, cur, rfl, hb', hgg, rest⟩
  · exact .inl hn
  · exact .inr ⟨g, cap, cur, rfl, hb', (ho g rfl).trans hgg, rest⟩
theorem NRel.push {w wr w' : World} {base lo hi a b : Nat} {v v' : Value} {ss : List Sl} {xs : List α} {s : Sl} {x : α} (h2 : Els K wr lo hi v.ownBlock ss xs) (hh : hi ≤ wr.heap.size) (hx : K.P wr a b (slV s) x) (hl : lo ≤ a) (ha : hi ≤ a) (hb : b ≤ wr.heap.size) (hv : ∀ g, v.ownBlock = some g → g < a ∨ b ≤ g)
    (hA : Hid (Acc E w base w' v' (ss ++ [s]))) (hG : Hid (Grew wr w' v v')) : NRel K E w base lo w' w'.heap.size v' (xs ++ [x]) := by
  obtain ⟨g1, g, g2, g3, g4⟩ := hG.out
  have hs := g1.size
  obtain ⟨e1, fa, fb, e2, e3⟩ := h2.kept (w' := w') hs fun k p1 p2 p3 => g1.block k (by omega) (fun e => p3 e.symm)
  have hx' : K.P w' a b (slV s) x := K.keep hx hs fun k p1 p2 => g1.block k (by omega) (fun e => by have := hv k e.symm; omega)
  have hget : ∀ i s' x', (ss ++ [s])[i]? = some s' → (xs ++ [x])[i]? = some x' → (i < xs.length ∧ ss[i]? = some s' ∧ xs[i]? = some x') ∨ (i = xs.length ∧ s' = s ∧ x' = x) := fun i s' x' h1 h2 => by
    by_cases e : i < xs.length
    · rw [List.getElem?_append_left (by omega)] at h1
      rw [List.getElem?_append_left e] at h2
      exact .inl ⟨e, h1, h2⟩
    · rw [List.getElem?_append_right (by omega)] at h1 h2
      by_cases e2 : i = xs.length
      · subst e2; rw [e1] at h1; simp at h1 h2; exact .inr ⟨rfl, h1.symm, h2.symm⟩
      · rw [List.getElem?_eq_none (by simp; omega)] at h2; simp at h2
  refine ⟨_, hA.out, ⟨by simp [e1], fun i => if i < xs.length then fa i else a, fun i => if i < xs.length then fb i else b, fun i s' x' h1 h2 => ?_, fun i j hij hj => ?_⟩, Nat.le_refl _⟩
  · rcases hget i s' x' h1 h2 with ⟨q, r1, r2⟩ | ⟨q, r1, r2⟩
    · simp only [q, if_true]
      obtain ⟨p1, p2, p3, p4⟩ := e2 i s' x' r1 r2
      refine ⟨p1, by omega, p3, fun k hk => ?_⟩
      rw [g2] at hk
      obtain rfl := Option.some.inj hk
      rcases g3 with g3 | g3
      · exact p4 g g3
      · exact .inr (by omega)
    · subst r1 r2
      simp only [show ¬ i < xs.length by omega, if_false]
      refine ⟨hl, by omega, hx', fun k hk => ?_⟩
      rw [g2] at hk
      obtain rfl := Option.some.inj hk
      rcases g3 with g3 | g3
      · exact hv g g3
      · exact .inr (by omega)
  · simp only [List.length_append, List.length_singleton] at hj
    simp only [show i < xs.length by omega, if_true]
    by_cases e : j < xs.length
    · simp only [e, if_true]; exact e3 i j hij e
    · simp only [e, if_false]
      obtain ⟨s', hs'⟩ : ∃ s', ss[i]? = some s' := ⟨_, List.getElem?_eq_getElem (by omega)⟩
      obtain ⟨x', hx'⟩ : ∃ x', xs[i]? = some x' := ⟨_, List.getElem?_eq_getElem (by omega)⟩
      have := (e2 i s' x' hs' hx').2.1
      omega
/-- A whole slice of such slices is appended. -/
theorem NRel.append {w wr w' : World} {base lo hi lo2 hi2 : Nat} {v v' : Value} {O2 : Option Nat} {ss ss2 : List Sl} {xs ys : List α} (h2 : Els K wr lo hi v.ownBlock ss xs) (hh : hi ≤ wr.heap.size) (hy : Els K wr lo2 hi2 O2 ss2 ys) (hl : lo ≤ lo2) (ha : hi ≤ lo2) (hb : hi2 ≤ wr.heap.size) (hv : ∀ g, v.ownBlock = some g → g < lo2 ∨ hi2 ≤ g)
    (hA : Hid (Acc E w base w' v' (ss ++ ss2))) (hG : Hid (wr.grownBy w' v.ownBlock ∧ (v'.ownBlock = v.ownBlock ∨ v'.ownBlock = some wr.heap.size))) : NRel K E w base lo w' w'.heap.size v' (xs ++ ys) := by
  obtain ⟨g1, g3⟩ := hG.out
  have hs := g1.size
  obtain ⟨e1, fa, fb, e2, e3⟩ := h2.kept (w' := w') hs fun k p1 p2 p3 => g1.block k (by omega) (fun e => p3 e.symm)
  obtain ⟨y1, ya, yb, y2, y3⟩ := hy
  have hget : ∀ i s' x', (ss ++ ss2)[i]? = some s' → (xs ++ ys)[i]? = some x' → (i < xs.length ∧ ss[i]? = some s' ∧ xs[i]? = some x') ∨ (xs.length ≤ i ∧ ss2[i - xs.length]? = some s' ∧ ys[i - xs.length]? = some x') := fun i s' x' h1 h2 => by
    by_cases e : i < xs.length
    · rw [List.getElem?_append_left (by omega)] at h1
      rw [List.getElem?_append_left e] at h2
      exact .inl ⟨e, h1, h2⟩
    · rw [List.getElem?_append_right (by omega), e1] at h1
      rw [List.getElem?_append_right (by omega)] at h2
      exact .inr ⟨by omega, h1, h2⟩
  refine ⟨_, hA.out, ⟨by simp [e1, y1], fun i => if i < xs.length then fa i else ya (i - xs.length), fun i => if i < xs.length then fb i else yb (i - xs.length), fun i s' x' h1 h2 => ?_, fun i j hij hj => ?_⟩, Nat.le_refl _⟩
  · rcases hget i s' x' h1 h2 with ⟨q, r1, r2⟩ | ⟨q, r1, r2⟩
    · simp only [q, if_true]
      obtain ⟨p1, p2, p3, p4⟩ := e2 i s' x' r1 r2
      refine ⟨p1, by omega, p3, fun k hk => ?_⟩
      rcases g3 with g3 | g3
      · exact p4 k (by rw [← g3]; exact hk)
      · rw [g3] at hk; obtain rfl := Option.some.inj hk; exact .inr (by omega)
    · simp only [show ¬ i < xs.length by omega, if_false]
      obtain ⟨p1, p2, p3, p4⟩ := y2 _ s' x' r1 r2
      refine ⟨by omega, by omega, K.keep p3 hs fun k q1 q2 => g1.block k (by omega) (fun e => by have := hv k e.symm; omega), fun k hk => ?_⟩
      rcases g3 with g3 | g3
      · have := hv k (by rw [← g3]; exact hk); omega
      · rw [g3] at hk; obtain rfl := Option.some.inj hk; exact .inr (by omega)
  · simp only [List.length_append] at hj
    by_cases e : j < xs.length
    · simp only [e, show i < xs.length by omega, if_true]; exact e3 i j hij e
    · simp only [e, if_false]
      obtain ⟨sj, hsj⟩ : ∃ s', ss2[j - xs.length]? = some s' := ⟨_, List.getElem?_eq_getElem (by omega)⟩
      obtain ⟨xj, hxj⟩ : ∃ x', ys[j - xs.length]? = some x' := ⟨_, List.getElem?_eq_getElem (by omega)⟩
      by_cases ei : i < xs.length
      · simp only [ei, if_true]
        obtain ⟨s', hs'⟩ : ∃ s', ss[i]? = some s' := ⟨_, List.getElem?_eq_getElem (by omega)⟩
        obtain ⟨x', hx'⟩ : ∃ x', xs[i]? = some x' := ⟨_, List.getElem?_eq_getElem (by omega)⟩
        have := (e2 i s' x' hs' hx').2.1
        have := (y2 _ sj xj hsj hxj).1
        omega
      · simp only [ei, if_false]
        exact y3 _ _ (by omega) (by omega)
end

/-! ### Reading -/
/-- v reads as a list of things, each of which reads by R. -/
def RdN {α : Type} (R : World → Nat → Value → α → Prop) (w : World) (B : Nat) (v : Value) (xs : List α) : Prop :=
  ∃ A c, v = .slice A xs.length c ∧ xs.length ≤ c ∧ c ≤ maxLen ∧ ∀ i x, xs[i]? = some x → ∃ (ad : Addr) (s : Sl), A = some ad ∧ ad.block < B ∧ w.cell? (ad.add i) = some (slV s) ∧ R w B (slV s) x
theorem NRel.rdN {α : Type} {K : Kd α} {e t : TypeId} {P : Program} {R : World → Nat → Value → α → Prop} {w wr : World} {base lo hi : Nat} {v : Value} {xs : List α} (hE : (elSl e t).Ok P) (hR : ∀ a b s x, b ≤ wr.heap.size → K.P wr a b (slV s) x → R wr wr.heap.size (slV s) x) (h : NRel K (elSl e t) w base lo wr hi v xs) : RdN R wr wr.heap.size v xs := by
  obtain ⟨ss, ⟨q1, _⟩, ⟨h1, a, b, h2, _⟩, h3⟩ := h
  obtain ⟨A, c, hv, l1, l2, hr⟩ := q1.rd hE
  rw [h1] at hv l1
  refine ⟨A, c, hv, l1, l2, fun i x hx => ?_⟩
  have hi : i < xs.length := (List.getElem?_eq_some_iff.1 hx).1
  have hs : ss[i]? = some (ss[i]'(by omega)) := List.getElem?_eq_getElem (by omega)
  obtain ⟨ad, e1, e2, e3⟩ := hr i _ hs
  obtain ⟨_, p2, p3, _⟩ := h2 i _ x hs hx
  refine ⟨ad, _, e1, e2, ?_, hR _ _ _ _ (by omega) p3⟩
  have := e3 0 _ rfl
  simpa [elSl] using this
theorem RdN.below {α : Type} {R : World → Nat → Value → α → Prop} {w w' : World} {B : Nat} {v : Value} {xs : List α} (hR : ∀ s x, R w B (slV s) x → R w' B (slV s) x) (h : RdN R w B v xs) (hb : Below B w w') : RdN R w' B v xs := by
  obtain ⟨A, c, hv, l1, l2, hr⟩ := h
  refine ⟨A, c, hv, l1, l2, fun i x hx => ?_⟩
  obtain ⟨ad, s, e1, e2, e3, e4⟩ := hr i x hx
  exact ⟨ad, s, e1, e2, (hb.cell (by rw [addBlock]; exact e2)).trans e3, hR s x e4⟩
end Go.Proofs.Ytehnbalbpfmijaa

namespace Go.Proofs.Ytehnbalbpfmijaa
open Go.RowKit

theorem RowRel.ofCall {w wr w1 : World} {hi : Nat} {v : Value} {zss : List (List Int)} {u : Value} {zs : List Int} (h : MRel w wr hi v zss) (hb : Below wr.heap.size wr w1) (ho : OwnI w1 wr.heap.size u zs) : RowRel w w1 wr.heap.size v zss u zs := by
  obtain ⟨h1, h2, h3, h4⟩ := h.below hb
  exact ⟨⟨h1.more h.2.2.1, h2, hb.size, Nat.le_trans h4 h.2.2.1⟩, ho⟩
theorem take_row (zss : List (List Int)) (k : Nat) (h : k < zss.length) : zss.take (k + 1) = zss.take k ++ [rw' zss k] := by
  rw [rw_get zss k h, List.take_succ_eq_append_getElem h]

set_option maxHeartbeats 4000000 in
theorem copyRows_any (u : Value) (xss : List (List Int)) (B : Nat) (w : World) (h : RdII w B u xss) (hB : B ≤ w.heap.size) (hl : xss.length ≤ 1048576) (hr : ∀ i, i < xss.length → (rw' xss i).length ≤ 1048576) :
    Calls Try.prog 126 #[u] w (RetM w xss) := by
  obtain ⟨i0, hi0, hz0, hz1, hz2⟩ := info_parts infoInt
  obtain ⟨iR, hiR, hr0, hr1, hr2⟩ := info_parts infoRow
  obtain ⟨A, c, rfl, h1, h2, h3⟩ := h.open_
  unfold maxLen at h2
  clear h
  have H3 := Lib.hid h3; clear h3
  have HR := Lib.hid hr; clear hr
  go_enter Try.func126, Try.ntmps126
  go_wp2_with fail
  have HM0 := Lib.hid (MRel.start w)
  go_loopw [3, 9] (fun o s wr => ∃ (k hi : Nat) (v : Value) (zss : List (List Int)), k ≤ xss.length ∧ s = .int .i64 k ∧ o = v ∧ Hid (MRel w wr hi v zss) ∧ Hid (zss = xss.take k) ∧ zss.length ≤ k) (fun _ s _ => xss.length - (intOf s).toNat)
  case atStart => exact ⟨0, _, _, [], Nat.zero_le _, rfl, rfl, HM0, (by simp [Hid]), Nat.le_refl _⟩
  case round =>
    obtain ⟨k, hi, v, zss, hk, rfl, ho, HM, HZ, hzl⟩ := hrel
    rw [← ho] at HM
    clear ho
    by_cases hlt : k < xss.length
    · obtain ⟨ad, ur, rfl, hbl, hc, A1, c1, rfl, q1, q2, q3⟩ := H3.out k hlt
      have hb := HM.out.2.1
      have hcw := (hb.cell (p := ad.add k) (by rw [addBlock]; omega)).trans hc
      have HU := Lib.hid ((show RdI w B (.slice A1 (rw' xss k).length c1) (rw' xss k) from ⟨_, _, rfl, q1, q2, q3⟩).below (hb.mono hB))
      have hsz := hb.size
      have hrl := HR.out k hlt
      have hk0 : (0 : Int) ≤ (k : Int) := by omega
      have hk1 : (k : Int) < (xss.length : Int) := by omega
      clear hc q3 hb
      go_wp2_with fail
      refine (copyOf_any _ (rw' xss k) _ _ HU.out (by omega) (by omega)).mono ?_
      rintro e w1 ⟨u1, rfl, ho1, hb1⟩
      have HT := Lib.hid (RowRel.ofCall HM.out hb1 ho1)
      have HX := Lib.hid (take_row xss k hlt)
      generalize rw' xss k = zs at *
      obtain ⟨vs, hv1, hv2⟩ := HT.out.1.1
      have HVL : Hid (vs.length = zss.length) := by have := hv1.1; unfold Hid; omega
      have HV1 := Lib.hid hv1
      have HV2 := Lib.hid hv2
      obtain ⟨A', c', rfl, hq1, hq2, _⟩ := HT.out.2.rd
      clear hv1 hv2 ho1
      go_wp2_with (at_builtin; refine wpList_append_lies _ rfl (.tmp 13) (.tmp 16) _ rfl w.heap.size 31 iR _ 1 24 Try.underlying76 hiR hr0 hr1 hr2 rfl (by omega) _ zss.length _ rfl (World.ownsRow.alloc HV1.out _) ⟨w1.heap.size, 0, none⟩ 1 1 [.slice A' zs.length c'] rfl rfl (World.news_of_block (cs := #[.slice A' zs.length c']) (t := 31) (fr := (0, 0)) (heap_alloc_new w1 _)) (by simp [Value.oneCell']) (by omega) (by unfold maxLen; omega) (by omega) (by simp; have := HT.out.1.2.1.size; omega) (w1.heap.size + 1) (by simp) ?_; intro gi capi wi hown hg hat hlti; have HS := Lib.hid (RowRel.push HT.out HV2.out HVL.out hown hg hat hlti); clear hown hg hat hlti)
      go_roundw
      case rel => exact ⟨k + 1, _, _, _, by omega, by go_num, rfl, HS, (by unfold Hid; rw [HX.out, ← HZ.out]), by simp; omega⟩
      case measure => simp [intOf]; omega
    · have HK : Hid (zss = xss) := by unfold Hid; rw [HZ.out, List.take_of_length_le (by omega)]
      go_wp2_with fail
      go_ret
      exact ⟨_, hi, rfl, by rw [← HK.out]; exact HM.out.1, HM.out.2.2.1, HM.out.2.1⟩
end Go.Proofs.Ytehnbalbpfmijaa

namespace Go.Proofs.Ytehnbalbpfmijaa
open Go.RowKit

def OwnD (w : World) (lo : Nat) (v : Value) (zss : List (List Int)) : Prop :=
  ∃ vs, w.ownsRow lo 31 1 v zss.length vs ∧ (∀ i u, vs[i]? = some u → OwnI w lo u (rw' zss i)) ∧
    (∀ (i j : Nat) (u u' : Value) (a : Nat), i ≠ j → vs[i]? = some u → vs[j]? = some u' → u.ownBlock = some a → u'.ownBlock ≠ some a) ∧
    (∀ (i : Nat) (u : Value) (a : Nat), vs[i]? = some u → u.ownBlock = some a → v.ownBlock ≠ some a)
theorem OwnM.d {w : World} {lo hi : Nat} {v : Value} {zss : List (List Int)} (h : OwnM w lo hi v zss) : OwnD w lo v zss := by
  obtain ⟨vs, h1, h2, h3, h4, h5⟩ := h
  refine ⟨vs, h1, h2, fun i j u u' a e hu hu' ha hb => ?_, fun i u a hu ha => (h4 i u a hu ha).1⟩
  rcases Nat.lt_or_gt_of_ne e with c | c
  · have := h3 i j u u' a a c hu hu' ha hb; omega
  · have := h3 j i u' u a a c hu' hu hb ha; omega
theorem OwnD.below {w w' : World} {lo : Nat} {v : Value} {zss : List (List Int)} (h : OwnD w lo v zss) (hb : Below w.heap.size w w') : OwnD w' lo v zss := by
  obtain ⟨vs, h1, h2, h3, h4⟩ := h
  exact ⟨vs, ownsRow_below h1 hb, fun i u hu => (h2 i u hu).below hb, h3, h4⟩
theorem OwnD.slice {w : World} {lo g n cap : Nat} {zss : List (List Int)} (h : OwnD w lo (.slice (some ⟨g, 0, none⟩) n cap) zss) (hpos : 0 < zss.length) : n = zss.length ∧ lo ≤ g := by
  obtain ⟨vs, h1, _⟩ := h
  obtain ⟨g', c', e, hl, _⟩ := World.ownsRow.form h1 hpos
  simp only [Value.slice.injEq, Option.some.injEq, Addr.mk.injEq, and_true] at e
  exact ⟨e.2.1, by omega⟩
theorem rw_set (zss : List (List Int)) (j : Nat) (zs : List Int) (i : Nat) (hj : j < zss.length) : rw' (zss.set j zs) i = if i = j then zs else rw' zss i := by
  by_cases e : i = j
  · subst e; simp [rw', hj]
  · simp [rw', e, Ne.symm e]

theorem World.ownsRow.block {w : World} {lo g s n cap : Nat} {e : TypeId} {xs : List Value} (h : w.ownsRow lo e s (.slice (some ⟨g, 0, none⟩) n cap) n xs) : ∃ cur, w.heap[g]? = some (.cells cur e (0, 0)) := by
  rcases h.2 with ⟨h', _⟩ | ⟨g', cap', cur, h', _, hg, _⟩
  · simp at h'
  · simp only [Value.slice.injEq, Option.some.injEq, Addr.mk.injEq, and_true, true_and] at h'
    obtain ⟨rfl, rfl⟩ := h'
    exact ⟨cur, hg⟩
/-- What lies in blocks of another type stays owned. -/
theorem World.ownsRow.apart {w : World} {lo g s n : Nat} {e e' : TypeId} {v : Value} {xs : List Value} (h : w.ownsRow lo e s v n xs) (hne : e ≠ e') (hg : ∃ cur, w.heap[g]? = some (.cells cur e' (0, 0))) (j : Nat) (u : Value) : (w.setCell ⟨g, j, none⟩ u).ownsRow lo e s v n xs := by
  refine World.ownsRow.kept h (row := some g) ⟨rfl, rfl, rfl, by simp, fun k _ hk => heap_setCell_other w ⟨g, j, none⟩ k u (fun e => hk (by simp [e]))⟩ ?_
  cases ev : v.ownBlock with
  | none => exact .inl rfl
  | some k =>
    refine .inr fun e2 => ?_
    obtain rfl := Option.some.inj e2
    rcases h.2 with ⟨rfl, _⟩ | ⟨g', cap', cur, rfl, _, hg', _⟩
    · simp [Value.ownBlock] at ev
    · simp [Value.ownBlock] at ev
      subst ev
      obtain ⟨cur', hg⟩ := hg
      rw [hg'] at hg
      simp only [Option.some.injEq, Obj.cells.injEq] at hg
      exact hne hg.2.1

/-- The i-th row: where it lies, its elements, and that one may be written. -/
theorem OwnD.row {w : World} {lo g n cap : Nat} {zss : List (List Int)} (h : OwnD w lo (.slice (some ⟨g, 0, none⟩) n cap) zss) {i : Nat} (hi : i < zss.length) (hpos : 0 < (rw' zss i).length) :
    ∃ gi ci, w.cell? ⟨g, i, none⟩ = some (.slice (some ⟨gi, 0, none⟩) (rw' zss i).length ci) ∧ lo ≤ gi ∧ (rw' zss i).length ≤ ci ∧ ci ≤ maxLen ∧ (∀ j, j < (rw' zss i).length → w.cell? ⟨gi, j, none⟩ = some (.int .i64 (el (rw' zss i) j))) ∧
      (∀ j, w.frozen? ⟨gi, j, none⟩ = false) ∧ (∀ j z, j < (rw' zss i).length → OwnD (w.setCell ⟨gi, j, none⟩ (.int .i64 z)) lo (.slice (some ⟨g, 0, none⟩) n cap) (zss.set i ((rw' zss i).set j z))) ∧
      ∃ cur, w.heap[gi]? = some (.cells cur 3 (0, 0)) := by
  obtain ⟨vs, h1, h2, h3, h4⟩ := h
  have hl : vs.length = zss.length := by have := h1.1; omega
  have hg : vs[i]? = some (vs[i]'(by omega)) := List.getElem?_eq_getElem (by omega)
  obtain rfl : n = zss.length := by
    obtain ⟨g', c', e, _⟩ := World.ownsRow.form h1 (by omega)
    simp only [Value.slice.injEq] at e; exact e.2.1
  generalize hvi : vs[i]'(by omega) = vi at hg
  have hr := h2 i _ hg
  obtain ⟨gi, ci, hv, hlo, hlt⟩ := World.ownsRow.form hr hpos
  obtain ⟨A0, c0, e0, q1, q2, _⟩ := hr.rd
  have hcell : w.cell? ⟨g, i, none⟩ = some vi := by rw [World.ownsRow.cellAt h1 i (by omega)]; exact hg
  subst hv
  obtain rfl : ci = c0 := by simp only [Value.slice.injEq] at e0; exact e0.2.2
  refine ⟨gi, ci, hcell, hlo, q1, q2, fun j hj => ?_, fun j => World.ownsRow.frozenAt hr j, fun j z hj => ?_, World.ownsRow.block hr⟩
  · rw [World.ownsRow.cellAt hr j (by omega), List.getElem?_map, List.getElem?_eq_getElem hj, el_get _ _ hj]; rfl
  · have hst := World.ownsRow.stored hr j (.int .i64 z)
    have hself : OwnI (w.setCell ⟨gi, j, none⟩ (.int .i64 z)) lo (.slice (some ⟨gi, 0, none⟩) (rw' zss i).length ci) ((rw' zss i).set j z) := by
      unfold OwnI
      rw [List.length_set, List.map_set]
      exact hst.1
    refine ⟨vs, ?_, fun t u hu => ?_, h3, h4⟩
    · rw [List.length_set]
      exact World.ownsRow.kept h1 hst.2 (.inr (h4 i _ gi hg rfl))
    · rw [rw_set zss i _ t hi]
      by_cases e : t = i
      · subst e
        rw [hg] at hu
        obtain rfl := Option.some.inj hu
        rw [if_pos rfl]; exact hself
      · rw [if_neg e]
        exact (h2 t u hu).grown hst.2 fun k hk e2 => h3 t i u _ k e hu hg hk e2.symm

/-- Two rows change places. -/
theorem OwnD.swap {w : World} {lo g n cap : Nat} {zss : List (List Int)} {u1 u2 : Value} (h : OwnD w lo (.slice (some ⟨g, 0, none⟩) n cap) zss) {i k : Nat} (hi : i < zss.length) (hk : k < zss.length) (hne : i ≠ k)
    (c1 : w.cell? ⟨g, i, none⟩ = some u1) (c2 : w.cell? ⟨g, k, none⟩ = some u2) :
    OwnD ((w.setCell ⟨g, i, none⟩ u2).setCell ⟨g, k, none⟩ u1) lo (.slice (some ⟨g, 0, none⟩) n cap) ((zss.set i (rw' zss k)).set k (rw' zss i)) ∧ ∀ j, w.frozen? ⟨g, j, none⟩ = false := by
  obtain ⟨vs, h1, h2, h3, h4⟩ := h
  have hl : vs.length = zss.length := by have := h1.1; omega
  obtain rfl : n = zss.length := by
    obtain ⟨g', c', e, _⟩ := World.ownsRow.form h1 (by omega)
    simp only [Value.slice.injEq] at e; exact e.2.1
  have hg1 : vs[i]? = some u1 := by rw [← World.ownsRow.cellAt h1 i (by omega)]; exact c1
  have hg2 : vs[k]? = some u2 := by rw [← World.ownsRow.cellAt h1 k (by omega)]; exact c2
  have s1 := World.ownsRow.stored h1 i u2
  have s2 := World.ownsRow.stored s1.1 k u1
  have hget : ∀ t u, ((vs.set i u2).set k u1)[t]? = some u → (t = k ∧ u = u1) ∨ (t ≠ k ∧ t = i ∧ u = u2) ∨ (t ≠ k ∧ t ≠ i ∧ vs[t]? = some u) := fun t u hu => by
    rw [List.getElem?_set, List.getElem?_set] at hu
    by_cases e : k = t
    · subst e; simp [show k < vs.length by omega] at hu; exact .inl ⟨rfl, hu.symm⟩
    · rw [if_neg e] at hu
      by_cases e2 : i = t
      · subst e2; simp [show i < vs.length by omega] at hu; exact .inr (.inl ⟨fun x => e x.symm, rfl, hu.symm⟩)
      · rw [if_neg e2] at hu; exact .inr (.inr ⟨fun x => e x.symm, fun x => e2 x.symm, hu⟩)
  have hfar : ∀ (t : Nat) (u : Value) zs, vs[t]? = some u → OwnI w lo u zs → OwnI ((w.setCell ⟨g, i, none⟩ u2).setCell ⟨g, k, none⟩ u1) lo u zs := fun t u zs hu ho => by
    refine (ho.grown s1.2 fun x hx e => ?_).grown s2.2 fun x hx e => ?_
    · exact h4 t u x hu hx e.symm
    · exact h4 t u x hu hx e.symm
  have hold : ∀ t u, ((vs.set i u2).set k u1)[t]? = some u → ∃ t', vs[t']? = some u ∧ (t' = if t = k then i else if t = i then k else t) := fun t u hu => by
    rcases hget t u hu with ⟨rfl, rfl⟩ | ⟨e, rfl, rfl⟩ | ⟨e, e2, hu⟩
    · exact ⟨i, hg1, by simp⟩
    · exact ⟨k, hg2, by simp [e]⟩
    · exact ⟨t, hu, by simp [e, e2]⟩
  refine ⟨⟨(vs.set i u2).set k u1, ?_, fun t u hu => ?_, fun t t' u u' a e hu hu' ha => ?_, fun t u a hu ha => ?_⟩, fun j => World.ownsRow.frozenAt h1 j⟩
  · rw [List.length_set, List.length_set]; exact s2.1
  · have hlr : rw' ((zss.set i (rw' zss k)).set k (rw' zss i)) t = if t = k then rw' zss i else if t = i then rw' zss k else rw' zss t := by
      rw [rw_set _ k _ t (by rw [List.length_set]; exact hk), rw_set _ i _ t hi]
    rw [hlr]
    rcases hget t u hu with ⟨rfl, rfl⟩ | ⟨e, rfl, rfl⟩ | ⟨e, e2, hu⟩
    · rw [if_pos rfl]; exact hfar i _ _ hg1 (h2 i _ hg1)
    · rw [if_neg e, if_pos rfl]; exact hfar k _ _ hg2 (h2 k _ hg2)
    · rw [if_neg e, if_neg e2]; exact hfar t _ _ hu (h2 t _ hu)
  · obtain ⟨p, hp, ep⟩ := hold t u hu
    obtain ⟨p', hp', ep'⟩ := hold t' u' hu'
    refine h3 p p' u u' a ?_ hp hp' ha
    subst ep ep'
    split <;> split <;> (try split) <;> (try split) <;> omega
  · obtain ⟨p, hp, _⟩ := hold t u hu
    exact h4 p u a hp ha
end Go.Proofs.Ytehnbalbpfmijaa

namespace Go.Proofs.Ytehnbalbpfmijaa
open Go.RowKit

theorem wpList_pushRow {ops : Array Oper} {rest : List Oper} {o : Oper} {a : Act} {Q : Exit → Act → World → Prop} (hgd : o.guard = none) (s x : Operand)
    (ho : o.op = .call { callee := .builtin .append, args := #[s, x], argTypes := #[76, 76] }) {w wr : World} {hi : Nat} {v u : Value} {zss : List (List Int)} {zs : List Int} (H : RowRel w wr hi v zss u zs) (hs : a.eval s = v)
    (h0 : Nat) (hx : a.eval x = .slice (some ⟨h0, 0, none⟩) 1 1) (hh : wr.heap.size = h0) (hl : zss.length + 1 ≤ 1073741824)
    (h : ∀ v' w', Hid (MRel w w' w'.heap.size v' (zss ++ [zs])) → Hid (Below w.heap.size wr w') → wpList Try.prog ops Q rest (a.put o.dst v') w') :
    wpList Try.prog ops Q (o :: rest) a (wr.alloc (.cells #[u] 31)) := by
  subst hh
  obtain ⟨iR, hiR, hr0, hr1, hr2⟩ := info_parts infoRow
  obtain ⟨vs, hv1, hv2⟩ := H.1.1
  have hvl : vs.length = zss.length := by have := hv1.1; omega
  obtain ⟨A', c', rfl, hq1, hq2, _⟩ := H.2.rd
  refine wpList_append_lies _ hgd s x _ ho w.heap.size 31 iR _ 1 24 Try.underlying76 hiR hr0 hr1 hr2 rfl (by omega) _ zss.length _ hs (World.ownsRow.alloc hv1 _) ⟨wr.heap.size, 0, none⟩ 1 1 [.slice A' zs.length c'] hx rfl
    (World.news_of_block (cs := #[.slice A' zs.length c']) (t := 31) (fr := (0, 0)) (heap_alloc_new wr _)) (by simp [Value.oneCell']) (by omega) (by unfold maxLen; omega) (by omega) (by simp; have := H.1.2.1.size; omega) (wr.heap.size + 1) (by simp) ?_
  intro g cap wi hown hg hat hlt
  have hS := RowRel.push H hv2 hvl hown hg hat hlt
  refine h _ wi hS ((((Below.refl _ _).alloc ?_ _)).grown hg ?_ fun k hk => ?_)
  · exact H.1.2.1.size
  · simp; have := H.1.2.1.size; omega
  · exact (World.ownsRow.lt hv1 k hk).1
theorem step_pushRow {ops : Array Oper} {o : Oper} {a : Act} {K : Act → World → Prop} {Q : Exit → Act → World → Prop} {X : Prop} (hgd : o.guard = none) (s x : Operand)
    (ho : o.op = .call { callee := .builtin .append, args := #[s, x], argTypes := #[76, 76] }) {w wr : World} {hi : Nat} {v u : Value} {zss : List (List Int)} {zs : List Int} (H : RowRel w wr hi v zss u zs) (hs : a.eval s = v)
    (h0 : Nat) (hx : a.eval x = .slice (some ⟨h0, 0, none⟩) 1 1) (hh : wr.heap.size = h0) (hl : zss.length + 1 ≤ 1073741824)
    (h : ∀ v' w', Hid (MRel w w' w'.heap.size v' (zss ++ [zs])) → Hid (Below w.heap.size wr w') → K (a.put o.dst v') w') :
    if Region.wanted o (yielded ops a.tmps) = true then Oper.wp Try.prog o a (wr.alloc (.cells #[u] 31)) K Q else X := by
  subst hh
  obtain ⟨iR, hiR, hr0, hr1, hr2⟩ := info_parts infoRow
  obtain ⟨vs, hv1, hv2⟩ := H.1.1
  have hvl : vs.length = zss.length := by have := hv1.1; omega
  obtain ⟨A', c', rfl, hq1, hq2, _⟩ := H.2.rd
  refine step_append_lies _ hgd s x _ ho w.heap.size 31 iR _ 1 24 Try.underlying76 hiR hr0 hr1 hr2 rfl (by omega) _ zss.length _ hs (World.ownsRow.alloc hv1 _) ⟨wr.heap.size, 0, none⟩ 1 1 [.slice A' zs.length c'] hx rfl
    (World.news_of_block (cs := #[.slice A' zs.length c']) (t := 31) (fr := (0, 0)) (heap_alloc_new wr _)) (by simp [Value.oneCell']) (by omega) (by unfold maxLen; omega) (by omega) (by simp; have := H.1.2.1.size; omega) (wr.heap.size + 1) (by simp) ?_
  intro g cap wi hown hg hat hlt
  have hS := RowRel.push H hv2 hvl hown hg hat hlt
  refine h _ wi hS ((((Below.refl _ _).alloc ?_ _)).grown hg ?_ fun k hk => ?_)
  · exact H.1.2.1.size
  · simp; have := H.1.2.1.size; omega
  · exact (World.ownsRow.lt hv1 k hk).1
theorem MRel.grown {w wr w1 : World} {hi : Nat} {v : Value} {zss : List (List Int)} {row : Option Nat} (h : MRel w wr hi v zss) (hg : wr.grownBy w1 row) (hr : ∀ k, row = some k → hi ≤ k) : MRel w w1 hi v zss :=
  ⟨h.1.grown hg hr, h.2.1.grown hg h.2.1.size fun k hk => Nat.le_trans h.2.2.2 (hr k hk), Nat.le_trans h.2.2.1 hg.size, h.2.2.2⟩
/-- The new row grows by one number. -/
theorem wpList_pushInt {ops : Array Oper} {rest : List Oper} {o : Oper} {a : Act} {Q : Exit → Act → World → Prop} (hgd : o.guard = none) (s x : Operand)
    (ho : o.op = .call { callee := .builtin .append, args := #[s, x], argTypes := #[31, 31] }) {w wr : World} {hi : Nat} {v u : Value} {zss : List (List Int)} {zs : List Int} (H : RowRel w wr hi v zss u zs) (hs : a.eval s = u)
    (z : Int) (h0 : Nat) (hx : a.eval x = .slice (some ⟨h0, 0, none⟩) 1 1) (hh : wr.heap.size = h0) (hl : zs.length + 1 ≤ 1073741824)
    (h : ∀ u' w', Hid (RowRel w w' hi v zss u' (zs ++ [z])) → Hid (Below hi wr w') → wpList Try.prog ops Q rest (a.put o.dst u') w') :
    wpList Try.prog ops Q (o :: rest) a (wr.alloc (.cells #[.int .i64 z] 3)) := by
  have HA : Acc elInt w hi wr u zs := ⟨ownF_int.2 H.2, H.1.2.1, H.1.2.2.2, H.1.2.2.1⟩
  refine wpList_push okInt hgd s x ho HA hs z #[.int .i64 z] rfl h0 hx hh hl fun u' w' H2 G => h u' w' ⟨H.1.grown G.1 fun k hk => (H.2.lt k hk).1, ownF_int.1 H2.out.1⟩ ((Below.refl _ _).grown G.1 H.1.2.2.1 fun k hk => (H.2.lt k hk).1)
/-- The new row grows by one number. -/
theorem step_pushInt {ops : Array Oper} {o : Oper} {a : Act} {K : Act → World → Prop} {Q : Exit → Act → World → Prop} {X : Prop} (hgd : o.guard = none) (s x : Operand)
    (ho : o.op = .call { callee := .builtin .append, args := #[s, x], argTypes := #[31, 31] }) {w wr : World} {hi : Nat} {v u : Value} {zss : List (List Int)} {zs : List Int} (H : RowRel w wr hi v zss u zs) (hs : a.eval s = u)
    (z : Int) (h0 : Nat) (hx : a.eval x = .slice (some ⟨h0, 0, none⟩) 1 1) (hh : wr.heap.size = h0) (hl : zs.length + 1 ≤ 1073741824)
    (h : ∀ u' w', Hid (RowRel w w' hi v zss u' (zs ++ [z])) → Hid (Below hi wr w') → K (a.put o.dst u') w') :
    if Region.wanted o (yielded ops a.tmps) = true then Oper.wp Try.prog o a (wr.alloc (.cells #[.int .i64 z] 3)) K Q else X := by
  have HA : Acc elInt w hi wr u zs := ⟨ownF_int.2 H.2, H.1.2.1, H.1.2.2.2, H.1.2.2.1⟩
  refine step_push okInt hgd s x ho HA hs z #[.int .i64 z] rfl h0 hx hh hl fun u' w' H2 G => h u' w' ⟨H.1.grown G.1 fun k hk => (H.2.lt k hk).1, ownF_int.1 H2.out.1⟩ ((Below.refl _ _).grown G.1 H.1.2.2.1 fun k hk => (H.2.lt k hk).1)
/-- A made row beside the slice of rows. -/
theorem RowRel.made {w wr : World} {hi : Nat} {v : Value} {zss : List (List Int)} (h : MRel w wr hi v zss) (n : Nat) (hn : n ≤ 9223372036854775807) :
    RowRel w (wr.alloc (.cells (madeCells #[.int .i64 0] n) 3)) hi v zss (.slice (some ⟨wr.heap.size, 0, none⟩) n n) (List.replicate n 0) := by
  refine ⟨h.below ((Below.refl _ _).alloc (Nat.le_refl _) _), ?_⟩
  have e : (List.replicate n (0 : Int)).length = n := by simp
  have := OwnI.of_row (w := wr.alloc (.cells (madeCells #[.int .i64 0] n) 3)) (lo := hi) (g := wr.heap.size) (zs := List.replicate n 0) h.2.2.1 (by rw [e]; exact hn) (by rw [e]; exact (World.rowIs_made wr _ _ _).congr fun i hi => by simp [hi])
  rwa [e] at this
end Go.Proofs.Ytehnbalbpfmijaa

namespace Go.Proofs.Ytehnbalbpfmijaa
open Go.RowKit

def RShape (a b : Nat) (m : List (List Int)) : Prop := m.length = a ∧ ∀ i, i < a → (rw' m i).length = b
def ARel (w wr : World) (g cap a b : Nat) (m : List (List Int)) : Prop := OwnM wr w.heap.size wr.heap.size (.slice (some ⟨g, 0, none⟩) a cap) m ∧ Below w.heap.size w wr ∧ RShape a b m
theorem rshape_set {a b : Nat} {m : List (List Int)} (h : RShape a b m) {i : Nat} (hi : i < a) {zs : List Int} (hz : zs.length = b) : RShape a b (m.set i zs) := by
  refine ⟨by rw [List.length_set]; exact h.1, fun t ht => ?_⟩
  rw [rw_set m i zs t (by rw [h.1]; exact hi)]
  split
  · exact hz
  · exact h.2 t ht
theorem ARel.below {w wr w1 : World} {g cap a b : Nat} {m : List (List Int)} (h : ARel w wr g cap a b m) (hb : Below wr.heap.size wr w1) : ARel w w1 g cap a b m :=
  ⟨(h.1.below hb).more hb.size, h.2.1.trans (hb.mono h.2.1.size), h.2.2⟩
/-- One cell: where it lies, and that it may be written. -/
theorem ARel.at {w wr : World} {g cap a b : Nat} {m : List (List Int)} (h : ARel w wr g cap a b m) {i k : Nat} (hi : i < a) (hk : k < b) :
    ∃ gi ci, b ≤ ci ∧ ci ≤ 9223372036854775807 ∧ wr.cell? ⟨g, i, none⟩ = some (.slice (some ⟨gi, 0, none⟩) b ci) ∧ wr.cell? ⟨gi, k, none⟩ = some (.int .i64 (el (rw' m i) k)) ∧ wr.frozen? ⟨gi, k, none⟩ = false ∧
      Hid (∀ z, ARel w (wr.setCell ⟨gi, k, none⟩ (.int .i64 z)) g cap a b (m.set i ((rw' m i).set k z))) := by
  obtain ⟨h1, h2, h3, h4⟩ := h
  obtain ⟨u, hcell, hown, hbl, hset⟩ := h1.row (j := i) (by rw [h3]; exact hi)
  have hl := h4 i hi
  obtain ⟨gi, ci, rfl, hlo, hlt⟩ := World.ownsRow.form hown (by rw [hl]; omega)
  obtain ⟨A, c, e, q1, q2, _⟩ := hown.rd
  simp only [Value.slice.injEq] at e
  obtain ⟨-, -, rfl⟩ := e
  rw [hl] at q1
  refine ⟨gi, ci, q1, q2, by rw [hl] at hcell; exact hcell, ?_, World.ownsRow.frozenAt hown k, fun z => ⟨?_, h2.setCell (hlo) _, rshape_set ⟨h3, h4⟩ hi (by rw [List.length_set]; exact hl)⟩⟩
  · rw [World.ownsRow.cellAt hown k (by omega), List.getElem?_map, List.getElem?_eq_getElem (by omega), el_get _ _ (by omega)]; rfl
  · have hst := World.ownsRow.stored hown k (.int .i64 z)
    have hown2 : OwnI (wr.setCell ⟨gi, k, none⟩ (.int .i64 z)) w.heap.size (.slice (some ⟨gi, 0, none⟩) (rw' m i).length ci) ((rw' m i).set k z) := by
      unfold OwnI; rw [List.length_set, List.map_set]; exact hst.1
    exact (hset _ _ hown2 hst.2).more (by simp)
theorem MRel.rect {w wr : World} {hi a b : Nat} {v : Value} {m : List (List Int)} (h : MRel w wr hi v m) (hs : RShape a b m) (hn : 0 < a) : ∃ g cap, v = .slice (some ⟨g, 0, none⟩) a cap ∧ a ≤ cap ∧ cap ≤ 9223372036854775807 ∧ ARel w wr g cap a b m := by
  obtain ⟨vs, h1, h2⟩ := h.1
  obtain ⟨g, cap, hv, _, _⟩ := World.ownsRow.form h1 (by rw [hs.1]; exact hn)
  obtain ⟨A, c, e, q1, q2, _⟩ := h.1.rd.open_
  rw [hs.1] at hv e q1
  subst hv
  simp only [Value.slice.injEq] at e
  exact ⟨g, cap, rfl, by rw [e.2.2]; exact q1, by rw [e.2.2]; exact q2, h.1.more h.2.2.1, h.2.1, hs⟩
theorem RetM.mrel {w w1 : World} {v : Value} {hi : Nat} {zss : List (List Int)} (ho : OwnM w1 w.heap.size hi v zss) (hh : hi ≤ w1.heap.size) (hb : Below w.heap.size w w1) : MRel w w1 w1.heap.size v zss := ⟨ho.more hh, hb, Nat.le_refl _, hb.size⟩
end Go.Proofs.Ytehnbalbpfmijaa

namespace Go.Proofs.Ytehnbalbpfmijaa
open Go.RowKit

section
variable {α : Type} {K : Kd α} {e t : TypeId} {P : Program}
theorem NRel.at (hE : (elSl e t).Ok P) {w wr : World} {base lo hi g n cap : Nat} {xs : List α} (h : NRel K (elSl e t) w base lo wr hi (.slice (some ⟨g, 0, none⟩) n cap) xs) {i : Nat} (hi' : i < xs.length) :
    ∃ (s : Sl) (a b : Nat), n = xs.length ∧ n ≤ cap ∧ cap ≤ maxLen ∧ base ≤ g ∧ g < wr.heap.size ∧ lo ≤ a ∧ b ≤ hi ∧ K.P wr a b (slV s) xs[i] ∧ wr.cell? ⟨g, i, none⟩ = some (slV s) ∧
      ∀ (w1 : World) (x' : α), K.P w1 a b (slV s) x' → Below w.heap.size w w1 → wr.heap.size ≤ w1.heap.size → (∀ k, k < wr.heap.size → (k < a ∨ b ≤ k) → w1.heap[k]? = wr.heap[k]?) → NRel K (elSl e t) w base lo w1 hi (.slice (some ⟨g, 0, none⟩) n cap) (xs.set i x') := by
  obtain ⟨ss, hA, ⟨h1, a, b, h2, h3⟩, h4⟩ := h
  have hs : ss[i]? = some (ss[i]'(by omega)) := List.getElem?_eq_getElem (by omega)
  have hx : xs[i]? = some xs[i] := List.getElem?_eq_getElem hi'
  obtain ⟨p1, p2, p3, p4⟩ := h2 i _ _ hs hx
  obtain ⟨q1, q2, q3, q4⟩ := hA
  obtain ⟨A, c, e0, r1, r2, r3⟩ := q1.rd hE
  simp only [Value.slice.injEq] at e0
  obtain ⟨e1, e2, e3⟩ := e0
  subst e2 e3
  have hlt := q1.lt g rfl
  obtain ⟨ad, e4, _, hc⟩ := r3 i _ hs
  rw [← e1] at e4
  obtain rfl := Option.some.inj e4
  refine ⟨ss[i]'(by omega), a i, b i, h1, r1, r2, hlt.1, hlt.2, p1, p2, p3, ?_, fun w1 x' hx' hb hsz hk => ?_⟩
  · have := hc 0 _ rfl
    have e5 : (⟨g, 0, none⟩ : Addr).add (i * (elSl e t).s + 0) = ⟨g, i, none⟩ := by
      show (⟨g, 0, none⟩ : Addr).add (i * 1 + 0) = _
      rw [Nat.mul_one, Nat.add_zero]
      rcases Nat.eq_zero_or_pos i with q | q
      · subst q; rfl
      · simp [Addr.add, Nat.ne_of_gt q]
    rw [e5] at this; exact this
  · refine ⟨ss, ⟨?_, hb, q3, by omega⟩, ⟨by rw [List.length_set]; exact h1, a, b, fun j s x hj hxj => ?_, fun j j' hjj hj' => h3 j j' hjj (by rw [List.length_set] at hj'; exact hj')⟩, by omega⟩
    · refine ⟨q1.1, ?_⟩
      rcases q1.2 with hn | ⟨g', cap', cur, e', hb', hgg, rest⟩
      · exact .inl hn
      · refine .inr ⟨g', cap', cur, e', hb', ?_, rest⟩
        simp only [Value.slice.injEq, Option.some.injEq, Addr.mk.injEq, and_true] at e'
        obtain ⟨rfl, _⟩ := e'
        exact (hk g hlt.2 (p4 g rfl)).trans hgg
    · by_cases e : j = i
      · subst e
        rw [hs] at hj
        obtain rfl := Option.some.inj hj
        rw [List.getElem?_set_self hi'] at hxj
        obtain rfl := Option.some.inj hxj
        exact ⟨p1, p2, hx', p4⟩
      · rw [List.getElem?_set_ne (Ne.symm e)] at hxj
        obtain ⟨o1, o2, o3, o4⟩ := h2 j s x hj hxj
        have hjl : j < xs.length := (List.getElem?_eq_some_iff.1 hxj).1
        refine ⟨o1, o2, K.keep o3 hsz fun k k1 k2 => hk k (by omega) ?_, o4⟩
        rcases Nat.lt_or_gt_of_ne e with c | c
        · have := h3 j i c hi'; omega
        · have := h3 i j c hjl; omega
theorem NRel.len (hE : (elSl e t).Ok P) {w wr : World} {base lo hi : Nat} {v : Value} {xs : List α} (h : NRel K (elSl e t) w base lo wr hi v xs) : ∃ A c, v = .slice A xs.length c ∧ xs.length ≤ c ∧ c ≤ maxLen := by
  obtain ⟨ss, hA, ⟨h1, _⟩, _⟩ := h
  obtain ⟨A, c, hv, r1, r2, _⟩ := hA.1.rd hE
  rw [h1] at hv r1
  exact ⟨A, c, hv, r1, r2⟩
end

/-- One number of a matrix. -/
theorem NRel.num {e t : TypeId} {P : Program} (hE : (elSl e t).Ok P) {w wr : World} {base lo hi g n cap a b : Nat} {M : List (List Int)} (h : NRel (kdF elInt) (elSl e t) w base lo wr hi (.slice (some ⟨g, 0, none⟩) n cap) M) (hs : RShape a b M) (hw : w.heap.size ≤ lo) {i k : Nat} (hi' : i < a) (hk : k < b) :
    ∃ gi ci, n = a ∧ a ≤ cap ∧ cap ≤ maxLen ∧ base ≤ g ∧ b ≤ ci ∧ ci ≤ maxLen ∧ wr.cell? ⟨g, i, none⟩ = some (.slice (some ⟨gi, 0, none⟩) b ci) ∧ lo ≤ gi ∧ gi < hi ∧ wr.cell? ⟨gi, k, none⟩ = some (.int .i64 (el (rw' M i) k)) ∧ wr.frozen? ⟨gi, k, none⟩ = false ∧
      Hid (∀ z, NRel (kdF elInt) (elSl e t) w base lo (wr.setCell ⟨gi, k, none⟩ (.int .i64 z)) hi (.slice (some ⟨g, 0, none⟩) n cap) (M.set i ((rw' M i).set k z))) := by
  obtain ⟨h3, h4⟩ := hs
  obtain ⟨s, p, q, c1, c2, c3, c4, c5, c6, c7, ⟨c8, c9⟩, c10, c11⟩ := h.at hE (i := i) (by omega)
  have hl := h4 i hi'
  rw [← rw_get M i (by omega)] at c8
  have hown : OwnI wr p (slV s) (rw' M i) := ownF_int.1 c8
  obtain ⟨gi, ci, hv, hlo, hlt⟩ := World.ownsRow.form hown (by rw [hl]; omega)
  rw [hv] at hown c9 c10 c11
  obtain ⟨A, c, e0, q1, q2, _⟩ := hown.rd
  simp only [Value.slice.injEq] at e0
  obtain ⟨-, -, rfl⟩ := e0
  have hgb := c9 gi rfl
  have hbw : Below w.heap.size w wr := h.choose_spec.1.2.1
  rw [hl] at q1
  refine ⟨gi, ci, by omega, by omega, c3, c4, q1, q2, by rw [hl] at c10; exact c10, by omega, by omega, ?_, World.ownsRow.frozenAt hown k, fun z => ?_⟩
  · rw [World.ownsRow.cellAt hown k (by omega), List.getElem?_map, List.getElem?_eq_getElem (by omega), el_get _ _ (by omega)]; rfl
  · have hst := World.ownsRow.stored hown k (.int .i64 z)
    have hown2 : OwnI (wr.setCell ⟨gi, k, none⟩ (.int .i64 z)) p (.slice (some ⟨gi, 0, none⟩) (rw' M i).length ci) ((rw' M i).set k z) := by
      unfold OwnI; rw [List.length_set, List.map_set]; exact hst.1
    exact c11 _ _ ⟨ownF_int.2 hown2, c9⟩ (hbw.setCell (by show w.heap.size ≤ gi; omega) _) (by simp) fun k' _ hk2 => Below.heap_setCell _ _ _ _ (by show k' ≠ gi; omega)
/-- It reads as rows. -/
theorem NRel.rdII {e t : TypeId} {P : Program} (hE : (elSl e t).Ok P) {w wr : World} {base lo hi : Nat} {v : Value} {M : List (List Int)} (h : NRel (kdF elInt) (elSl e t) w base lo wr hi v M) : RdII wr wr.heap.size v M := by
  obtain ⟨ss, ⟨q1, _⟩, ⟨h1, a, b, h2, _⟩, h3⟩ := h
  obtain ⟨A, c, hv, l1, l2, hr⟩ := q1.rd hE
  refine ⟨A, c, ss.map slV, by rw [hv, h1], by omega, l2, by simp [h1], fun hn => ?_, fun i u hu => ?_⟩
  · obtain ⟨s0, hs0⟩ : ∃ s0, ss[0]? = some s0 := by
      cases ss with
      | nil => simp at hn
      | cons s t => exact ⟨s, rfl⟩
    obtain ⟨ad, e1, e2, _⟩ := hr 0 s0 hs0
    refine ⟨ad, e1, e2, fun j u hu => ?_⟩
    rw [List.getElem?_map] at hu
    obtain ⟨s, hs, rfl⟩ := Option.map_eq_some_iff.1 hu
    obtain ⟨ad', e1', _, hc⟩ := hr j s hs
    rw [e1] at e1'
    obtain rfl := Option.some.inj e1'
    have := hc 0 _ rfl
    simpa [elSl] using this
  · rw [List.getElem?_map] at hu
    obtain ⟨s, hs, rfl⟩ := Option.map_eq_some_iff.1 hu
    have hil : i < M.length := by have := (List.getElem?_eq_some_iff.1 hs).1; omega
    obtain ⟨_, _, p3, _⟩ := h2 i s _ hs (List.getElem?_eq_getElem hil)
    rw [rw_get M i hil]
    exact (ownF_int.1 p3.1).rd
end Go.Proofs.Ytehnbalbpfmijaa

namespace Go.Proofs.Ytehnbalbpfmijaa
open Go.RowKit
set_option linter.unusedVariables false

/-- The rows of a rectangle. -/
def rectZ (a b : Nat) : List Int := List.replicate b (((2 ^ a - 1 : Nat) : Int))
theorem rectZ_ok (a b : Nat) (ha : a ≤ 8) (hb : b ≤ 8) : regOkB (rectZ a b) = true := by
  unfold regOkB rectZ allB
  have h : 2 ^ a ≤ 2 ^ 8 := Nat.pow_le_pow_right (by omega) ha
  simp only [List.length_replicate, Bool.and_eq_true, decide_eq_true_eq, List.all_eq_true, inB_iff, List.mem_replicate]
  refine ⟨hb, ?_⟩
  rintro x ⟨_, rfl⟩
  omega
/-- While it is built: the result's cell, the region's cell. -/
structure RBld (w : World) (wr : World) (v : Value) (zs : List Int) : Prop where
  c0 : wr.heap[w.heap.size]? = some (.cells #[.slice none 0 0] 39 (0, 0))
  c1 : wr.heap[w.heap.size + 1]? = some (.cells #[v] 39 (0, 0))
  acc : Acc elInt w (w.heap.size + 2) wr v zs
theorem RBld.push {w wr w2 : World} {v v' : Value} {zs zs' : List Int} (h : RBld w wr v zs) (HA : Hid (Acc elInt w (w.heap.size + 2) w2 v' zs')) (HG : Hid (Grew wr.drew w2 v v')) :
    (∃ u, w2.heap[w.heap.size + 1]? = some (.cells #[u] 39 (0, 0))) ∧ RBld w (w2.setCell ⟨w.heap.size + 1, 0, none⟩ v') v' zs' := by
  have hl0 := lt_of_block h.c0
  have hl1 := lt_of_block h.c1
  have hne : ∀ k, k < w.heap.size + 2 → v.ownBlock ≠ some k := fun k hk e => by have := (h.acc.lt k e).1; omega
  have hkeep : ∀ k, k < wr.heap.size → k < w.heap.size + 2 → w2.heap[k]? = wr.heap[k]? := fun k h1 h2 => by
    rw [HG.out.1.block k h1 (fun e => hne k h2 e.symm)]; rfl
  have k0 := (hkeep _ hl0 (by omega)).trans h.c0
  have k1 := (hkeep _ hl1 (by omega)).trans h.c1
  refine ⟨⟨v, k1⟩, (Below.heap_setCell _ _ _ _ (by simp)).trans k0, (blk_setCell k1 _).trans (by simp), ?_⟩
  obtain ⟨a1, a2, a3, a4⟩ := HA.out
  refine ⟨ownsRow_keep (hi := w2.heap.size) a1 (fun k hk => (a1.lt k hk).2) fun k k1 k2 => Below.heap_setCell _ _ _ _ (by show k ≠ w.heap.size + 1; omega), a2.setCell (by show w.heap.size ≤ w.heap.size + 1; omega) _, a3, by simpa using a4⟩

set_option maxRecDepth 100000 in
set_option maxHeartbeats 2000000 in
theorem Rectangle_yes (a b : Nat) (ha : 1 ≤ a ∧ a ≤ 8) (hb : 1 ≤ b ∧ b ≤ 8) (w : World) :
    Calls Try.prog 59 #[.int .i64 (a : Int), .int .i64 (b : Int)] w fun e w' => ∃ u, e = .returned (.agg #[u]) ∧ RdI w' w'.heap.size u (rectZ a b) ∧ Below w.heap.size w w' := by
  have t1 : inB (a : Int) 1 8 = true := inB_true (by omega) (by omega)
  have t2 : inB (b : Int) 1 8 = true := inB_true (by omega) (by omega)
  have h8 : 2 ^ a ≤ 2 ^ 8 := Nat.pow_le_pow_right (by omega) ha.2
  obtain ⟨q, HQ⟩ : ∃ q : Nat, Hid (2 ^ a = q + 1) := ⟨2 ^ a - 1, by unfold Hid; have : 0 < 2 ^ a := Nat.pos_of_ne_zero (by simp); omega⟩
  have HZ : Hid (rectZ a b = List.replicate b (q : Int)) := by unfold Hid rectZ; rw [HQ.out]; rfl
  rw [HQ.out] at h8
  have hw1 : IntKind.i64.wrap ((2 : Int) ^ a) = (q : Int) + 1 := by
    have : ((2 : Int) ^ a) = ((2 ^ a : Nat) : Int) := by simp
    rw [this, HQ.out]
    exact IntWalk.i64_in _ (by omega)
  have hw2 : IntKind.i64.wrap (q : Int) = (q : Int) := IntWalk.i64_in _ (by omega)
  go_enter Try.func59, Try.ntmps59
  go_wp2_with fail
  refine (within_any _ _ _ _).mono ?_
  rintro e w' ⟨rfl, rfl⟩
  rw [t1]
  go_wp2_with fail
  refine (within_any _ _ _ _).mono ?_
  rintro e w' ⟨rfl, rfl⟩
  rw [t2]
  go_wp2_with fail
  obtain ⟨W, hW, k1, k2, hbW⟩ := two_alloc w (.cells #[.slice none 0 0] 39) (.cells #[.slice none 0 0] 39)
  rw [← hW]
  have HR : Hid (RBld w W (.slice none 0 0) []) := ⟨k1, k2, ⟨OwnF.nil, hbW, by omega, by rw [hW]; simp⟩⟩
  clear hW k1 k2 hbW
  go_loopw [17] (fun i wr => ∃ (k : Nat) (v : Value), k ≤ b ∧ i = .int .i64 k ∧ Hid (RBld w wr v (List.replicate k (q : Int)))) (fun i _ => b - (intOf i).toNat)
  case atStart => exact ⟨0, _, Nat.zero_le _, rfl, HR⟩
  case round =>
    obtain ⟨k, v, hk, rfl, HR⟩ := hrel
    obtain ⟨A, ca, hv, q1, q2, _⟩ := HR.out.acc.1.rd okInt
    rw [List.length_replicate] at hv q1
    subst hv
    unfold maxLen at q2
    have c1 := cell_of_one HR.out.c1
    by_cases hlt : k < b
    · have HA := Lib.hid (HR.out.acc.below ((Below.refl wr.heap.size wr).drew))
      have c1b : (wr.alloc (.cells #[.int .i64 (q : Int)] 3)).cell? ⟨w.heap.size + 1, 0, none⟩ = some (.slice A k ca) := (((Below.refl wr.heap.size wr).alloc (Nat.le_refl _) _).cell (p := ⟨w.heap.size + 1, 0, none⟩) (lt_of_block HR.out.c1)).trans c1
      go_wp2_with fail
      go_region_law (refine step_push (wr := wr.drew) okInt (by rfl) _ _ (by rfl) HA.out (by rfl) (q : Int) _ (by rfl) wr.heap.size (by rfl) (by simp) (by simp; omega) ?_; intro v' w2 HA2 HG2; obtain ⟨A2, ca2, hv2, _⟩ := HA2.out.1.rd okInt; rw [show (List.replicate k (q : Int) ++ [(q : Int)]).length = k + 1 by simp] at hv2; rw [hv2] at HA2 HG2; rw [hv2]; clear hv2; obtain ⟨⟨u9, hk9⟩, hB9⟩ := HR.out.push HA2 HG2; have ck := cell_of_one hk9; have fk := free_of_one hk9; have HB9 := Lib.hid hB9; clear hB9 hk9)
      all_goals
        go_wp2_with fail
        go_roundw
        case rel => exact ⟨k + 1, _, by omega, by go_num, by (unfold Hid; rw [List.replicate_succ']; exact HB9.out)⟩
        case measure => simp [intOf]; omega
    · obtain rfl : k = b := by omega
      have c0 := cell_of_one HR.out.c0
      have f0 := free_of_one HR.out.c0
      have HX := Lib.hid HR.out
      go_wp2_with fail
      have hl0 := lt_of_block HX.out.c0
      have hB := HX.out.acc.2.1
      have k9 : (wr.setCell ⟨w.heap.size, 0, none⟩ (.slice A k ca)).heap[w.heap.size]? = some (.cells #[.slice A k ca] 39 (0, 0)) := (blk_setCell HX.out.c0 _).trans (by simp)
      have r0 : (wr.setCell ⟨w.heap.size, 0, none⟩ (.slice A k ca)).cell? ⟨w.heap.size, 0, none⟩ = some (.slice A k ca) := cell_of_one k9
      have HN : OwnI (wr.setCell ⟨w.heap.size, 0, none⟩ (.slice A k ca)) (w.heap.size + 2) (.slice A k ca) (List.replicate k (q : Int)) :=
        ownF_int.1 (ownsRow_keep (hi := wr.heap.size) HX.out.acc.1 (fun j hj => (HX.out.acc.lt j hj).2) fun j j1 j2 => Below.heap_setCell _ _ _ _ (by show j ≠ w.heap.size; omega))
      refine bodyPost_ret (v := .agg #[.slice A k ca]) (by simp [results, Try.results59, go_sem, r0]) rfl ⟨_, rfl, ?_, ?_⟩
      · rw [HZ.out]; exact HN.rd
      · exact hB.setCell (Nat.le_refl _) _
end Go.Proofs.Ytehnbalbpfmijaa

namespace Go.Proofs.Ytehnbalbpfmijaa
open Go.RowKit
set_option linter.unusedVariables false

set_option maxRecDepth 100000 in
set_option maxHeartbeats 2000000 in
theorem specRectangle_yes (a b : Nat) (ha : 1 ≤ a ∧ a ≤ 8) (hb : 1 ≤ b ∧ b ≤ 8) (w : World) :
    Calls Try.prog 92 #[.int .i64 (a : Int), .int .i64 (b : Int)] w fun e w' => ∃ u, e = .returned (.agg #[u]) ∧ RdI w' w'.heap.size u (rectZ a b) ∧ Below w.heap.size w w' := by
  have t1 : inB (a : Int) 1 8 = true := inB_true (by omega) (by omega)
  have t2 : inB (b : Int) 1 8 = true := inB_true (by omega) (by omega)
  have h8 : 2 ^ a ≤ 2 ^ 8 := Nat.pow_le_pow_right (by omega) ha.2
  obtain ⟨q, HQ⟩ : ∃ q : Nat, Hid (2 ^ a = q + 1) := ⟨2 ^ a - 1, by unfold Hid; have : 0 < 2 ^ a := Nat.pos_of_ne_zero (by simp); omega⟩
  have HZ : Hid (rectZ a b = List.replicate b (q : Int)) := by unfold Hid rectZ; rw [HQ.out]; rfl
  rw [HQ.out] at h8
  have hw1 : IntKind.i64.wrap ((2 : Int) ^ a) = (q : Int) + 1 := by
    have : ((2 : Int) ^ a) = ((2 ^ a : Nat) : Int) := by simp
    rw [this, HQ.out]
    exact IntWalk.i64_in _ (by omega)
  have hw2 : IntKind.i64.wrap (q : Int) = (q : Int) := IntWalk.i64_in _ (by omega)
  go_enter Try.func92, Try.ntmps92
  go_wp2_with fail
  obtain ⟨W, hW, k1, k2, hbW⟩ := two_alloc w (.cells #[.slice none 0 0] 39) (.cells #[.slice none 0 0] 39)
  rw [← hW]
  have HR : Hid (RBld w W (.slice none 0 0) []) := ⟨k1, k2, ⟨OwnF.nil, hbW, by omega, by rw [hW]; simp⟩⟩
  clear hW k1 k2 hbW
  go_loopw [6] (fun i wr => ∃ (k : Nat) (v : Value), k ≤ b ∧ i = .int .i64 k ∧ Hid (RBld w wr v (List.replicate k (q : Int)))) (fun i _ => b - (intOf i).toNat)
  case atStart => exact ⟨0, _, Nat.zero_le _, rfl, HR⟩
  case round =>
    obtain ⟨k, v, hk, rfl, HR⟩ := hrel
    obtain ⟨A, ca, hv, q1, q2, _⟩ := HR.out.acc.1.rd okInt
    rw [List.length_replicate] at hv q1
    subst hv
    unfold maxLen at q2
    have c1 := cell_of_one HR.out.c1
    by_cases hlt : k < b
    · have HA := Lib.hid (HR.out.acc.below ((Below.refl wr.heap.size wr).drew))
      have c1b : (wr.alloc (.cells #[.int .i64 (q : Int)] 3)).cell? ⟨w.heap.size + 1, 0, none⟩ = some (.slice A k ca) := (((Below.refl wr.heap.size wr).alloc (Nat.le_refl _) _).cell (p := ⟨w.heap.size + 1, 0, none⟩) (lt_of_block HR.out.c1)).trans c1
      have ht : decide ((k : Int) < (b : Int)) = true := by simp only [decide_eq_true_eq]; omega
      go_wp2_with fail
      refine (l01In_any _ _ _ _).mono ?_
      rintro e w' ⟨rfl, rfl⟩
      rw [t1]
      go_wp2_with fail
      refine (l01In_any _ _ _ _).mono ?_
      rintro e w' ⟨rfl, rfl⟩
      rw [t2]
      go_wp2_with fail
      go_region_law (refine step_push (wr := wr.drew) okInt (by rfl) _ _ (by rfl) HA.out (by rfl) (q : Int) _ (by rfl) wr.heap.size (by rfl) (by simp) (by simp; omega) ?_; intro v' w2 HA2 HG2; obtain ⟨A2, ca2, hv2, _⟩ := HA2.out.1.rd okInt; rw [show (List.replicate k (q : Int) ++ [(q : Int)]).length = k + 1 by simp] at hv2; rw [hv2] at HA2 HG2; rw [hv2]; clear hv2; obtain ⟨⟨u9, hk9⟩, hB9⟩ := HR.out.push HA2 HG2; have ck := cell_of_one hk9; have fk := free_of_one hk9; have HB9 := Lib.hid hB9; clear hB9 hk9)
      all_goals
        go_wp2_with fail
        go_roundw
        case rel => exact ⟨k + 1, _, by omega, by go_num, by (unfold Hid; rw [List.replicate_succ']; exact HB9.out)⟩
        case measure => simp [intOf]; omega
    · obtain rfl : k = b := by omega
      have ht : decide ((k : Int) < (k : Int)) = false := by simp
      have c0 := cell_of_one HR.out.c0
      have f0 := free_of_one HR.out.c0
      have HX := Lib.hid HR.out
      go_wp2_with fail
      have hl0 := lt_of_block HX.out.c0
      have hB := HX.out.acc.2.1
      have k9 : (wr.setCell ⟨w.heap.size, 0, none⟩ (.slice A k ca)).heap[w.heap.size]? = some (.cells #[.slice A k ca] 39 (0, 0)) := (blk_setCell HX.out.c0 _).trans (by simp)
      have r0 : (wr.setCell ⟨w.heap.size, 0, none⟩ (.slice A k ca)).cell? ⟨w.heap.size, 0, none⟩ = some (.slice A k ca) := cell_of_one k9
      have HN : OwnI (wr.setCell ⟨w.heap.size, 0, none⟩ (.slice A k ca)) (w.heap.size + 2) (.slice A k ca) (List.replicate k (q : Int)) :=
        ownF_int.1 (ownsRow_keep (hi := wr.heap.size) HX.out.acc.1 (fun j hj => (HX.out.acc.lt j hj).2) fun j j1 j2 => Below.heap_setCell _ _ _ _ (by show j ≠ w.heap.size; omega))
      refine bodyPost_ret (v := .agg #[.slice A k ca]) (by simp [results, Try.results92, go_sem, r0]) rfl ⟨_, rfl, ?_, ?_⟩
      · rw [HZ.out]; exact HN.rd
      · exact hB.setCell (Nat.le_refl _) _
end Go.Proofs.Ytehnbalbpfmijaa
