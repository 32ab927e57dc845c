/- A slice of rows of the call's own, each in a block of its own: how it grows, how one row is written. -/
import Derived.Test.YtpejphholomenaaIntSS
import Derived.Test.YtpejphholomenaaGrown
import Derived.Test.YtpejphholomenaaAppend
import Derived.Test.YtpejphholomenaaAft
namespace Go.Proofs.Ytpejphholomenaa
open Go.RowKit

/-- The rows: owned, in ascending blocks, none in the block of the outer slice, all below hi. -/
def OwnMR (w : World) (lo hi : Nat) (v : Value) (zss : List (List Int)) (vs : List Value) : Prop :=
  (∀ i u, vs[i]? = some u → OwnI w lo u (rw' zss i)) ∧
    (∀ (i j : Nat) (u u' : Value) (a b : Nat), i < j → vs[i]? = some u → vs[j]? = some u' → u.ownBlock = some a → u'.ownBlock = some b → a < b) ∧
    (∀ (i : Nat) (u : Value) (a : Nat), vs[i]? = some u → u.ownBlock = some a → v.ownBlock ≠ some a ∧ a < hi) ∧ ∀ a, v.ownBlock = some a → a < hi
def OwnM (w : World) (lo hi : Nat) (v : Value) (zss : List (List Int)) : Prop := ∃ vs, w.ownsRow lo 34 1 v zss.length vs ∧ OwnMR w lo hi v zss vs
theorem OwnM.two {w : World} {lo hi : Nat} {v : Value} {zss : List (List Int)} (h : OwnM w lo hi v zss) : OwnII w lo v zss := by
  obtain ⟨vs, h1, h2, h3, _⟩ := h; exact ⟨vs, h1, h2, h3⟩
theorem OwnM.rd {w : World} {lo hi : Nat} {v : Value} {zss : List (List Int)} (h : OwnM w lo hi v zss) : RdII w w.heap.size v zss := h.two.rd
theorem OwnM.below {w w' : World} {lo hi : Nat} {v : Value} {zss : List (List Int)} (h : OwnM w lo hi v zss) (hb : Below w.heap.size w w') : OwnM w' lo hi v zss := by
  obtain ⟨vs, h1, h2, h3, h4⟩ := h
  exact ⟨vs, ownsRow_below h1 hb, fun i u hu => (h2 i u hu).below hb, h3, h4⟩
theorem OwnM.aft {w w' : World} {lo hi a b : Nat} {v : Value} {zss : List (List Int)} (h : OwnM w lo hi v zss) (hb : Aft a b w w') (hh : hi ≤ a ∨ b ≤ lo) : OwnM w' lo hi v zss := by
  obtain ⟨vs, h1, h2, h3, h4, h5⟩ := h
  exact ⟨vs, hb.row h1 fun k hk => by have := h5 k hk; have := (World.ownsRow.lt h1 k hk).1; omega, fun i u hu => hb.row (h2 i u hu) fun k hk => by have := (h4 i u k hu hk).2; have := (World.ownsRow.lt (h2 i u hu) k hk).1; omega, h3, h4, h5⟩
theorem OwnM.more {w : World} {lo hi hi' : Nat} {v : Value} {zss : List (List Int)} (h : OwnM w lo hi v zss) (hh : hi ≤ hi') : OwnM w lo hi' v zss := by
  obtain ⟨vs, h1, h2, h3, h4, h5⟩ := h
  exact ⟨vs, h1, h2, h3, fun i u a hu ha => ⟨(h4 i u a hu ha).1, Nat.lt_of_lt_of_le (h4 i u a hu ha).2 hh⟩, fun a ha => Nat.lt_of_lt_of_le (h5 a ha) hh⟩
/-- It is kept where a row at or above hi grows. -/
theorem OwnM.grown {w w' : World} {lo hi : Nat} {v : Value} {zss : List (List Int)} {row : Option Nat} (h : OwnM w lo hi v zss) (hg : w.grownBy w' row) (hr : ∀ k, row = some k → hi ≤ k) : OwnM w' lo hi v zss := by
  obtain ⟨vs, h1, h2, h3, h4, h5⟩ := h
  refine ⟨vs, World.ownsRow.kept h1 hg ?_, fun i u hu => (h2 i u hu).grown hg fun k hk e => ?_, h3, h4, h5⟩
  · cases e : v.ownBlock with
    | none => exact .inl rfl
    | some a => exact .inr fun e2 => by have := h5 a e; have := hr a e2.symm; omega
  · have := (h4 i u k hu hk).2; have := hr k e.symm; omega

/-- The slice of rows, behind some rounds. -/
def MRel (w wr : World) (hi : Nat) (v : Value) (zss : List (List Int)) : Prop := OwnM wr w.heap.size hi v zss ∧ Below w.heap.size w wr ∧ hi ≤ wr.heap.size ∧ w.heap.size ≤ hi
/-- A new row beside it. -/
def RowRel (w wr : World) (hi : Nat) (v : Value) (zss : List (List Int)) (u : Value) (zs : List Int) : Prop := MRel w wr hi v zss ∧ OwnI wr hi u zs
theorem MRel.start (w : World) : MRel w (w.alloc (.cells #[] 34)) (w.heap.size + 1) (.slice (some ⟨w.heap.size, 0, none⟩) 0 0) [] := by
  refine ⟨⟨[], ?_, fun i u hu => by simp at hu, fun i j u u' a b _ hu => by simp at hu, fun i u a hu => by simp at hu, fun a ha => ?_⟩, (Below.refl _ _).alloc (Nat.le_refl _) _, by simp, by omega⟩
  · simpa using World.ownsRow_lit (base := w.heap.size) (e := 34) (size := 1) w #[] 0 (Nat.le_refl _) (by simp [maxLen]) (by simp)
  · simp only [Value.ownBlock, Option.some.injEq] at ha; omega
theorem MRel.below {w wr w1 : World} {hi : Nat} {v : Value} {zss : List (List Int)} (h : MRel w wr hi v zss) (hb : Below wr.heap.size wr w1) : MRel w w1 hi v zss := by
  obtain ⟨h1, h2, h3, h4⟩ := h
  have := hb.size
  exact ⟨h1.below hb, h2.trans (hb.mono h2.size), by omega, h4⟩
theorem RowRel.below {w wr w1 : World} {hi : Nat} {v : Value} {zss : List (List Int)} {u : Value} {zs : List Int} (h : RowRel w wr hi v zss u zs) (hb : Below wr.heap.size wr w1) : RowRel w w1 hi v zss u zs := ⟨h.1.below hb, h.2.below hb⟩
theorem RowRel.start {w wr : World} {hi : Nat} {v : Value} {zss : List (List Int)} (h : MRel w wr hi v zss) : RowRel w (wr.alloc (.cells #[] 3)) hi v zss (.slice (some ⟨wr.heap.size, 0, none⟩) 0 0) [] :=
  ⟨h.below ((Below.refl _ _).alloc (Nat.le_refl _) _), by simpa [OwnI] using World.ownsRow_lit (base := hi) (e := 3) (size := 1) wr #[] 0 h.2.2.1 (by simp [maxLen]) (by simp)⟩
theorem RowRel.step {w wr w1 : World} {hi : Nat} {v : Value} {zss : List (List Int)} {u : Value} {zs : List Int} {z : Int} {g cap : Nat} (h : RowRel w wr hi v zss u zs)
    (hown : w1.ownsRow hi 3 1 (.slice (some ⟨g, 0, none⟩) (zs.length + 1) cap) (zs.length + 1) (zs.map (Value.int .i64) ++ [.int .i64 z]))
    (hg : (wr.alloc (.cells #[.int .i64 z] 3)).grownBy w1 u.ownBlock) : RowRel w w1 hi v zss (.slice (some ⟨g, 0, none⟩) (zs.length + 1) cap) (zs ++ [z]) := by
  obtain ⟨h1, h2, h3, h4⟩ := h.1
  have ha := (Below.refl wr.heap.size wr).alloc (Nat.le_refl _) (.cells #[.int .i64 z] 3)
  have hgs : wr.heap.size + 1 ≤ w1.heap.size := by have := hg.size; simpa using this
  refine ⟨⟨(h1.below ha).grown hg fun k hk => (h.2.lt k hk).1, (h2.alloc h2.size _).grown hg (by simp; have := h2.size; omega) (fun k hk => by have := (h.2.lt k hk).1; omega), by omega, h4⟩, OwnI.one rfl hown⟩
theorem RowRel.push {w wr w1 : World} {hi : Nat} {v : Value} {zss : List (List Int)} {u : Value} {zs : List Int} {g cap : Nat} {vs : List Value} (h : RowRel w wr hi v zss u zs) (hv : OwnMR wr w.heap.size hi v zss vs) (hl : vs.length = zss.length)
    (hown : w1.ownsRow w.heap.size 34 1 (.slice (some ⟨g, 0, none⟩) (zss.length + 1) cap) (zss.length + 1) (vs ++ [u]))
    (hg : (wr.alloc (.cells #[u] 34)).grownBy w1 v.ownBlock) (hat : v.ownBlock = some g ∨ g = wr.heap.size + 1) (hlt : g < w1.heap.size) :
    MRel w w1 w1.heap.size (.slice (some ⟨g, 0, none⟩) (zss.length + 1) cap) (zss ++ [zs]) := by
  obtain ⟨h1, h2, h3, h4⟩ := h.1
  obtain ⟨r1, r2, r3, r4⟩ := hv
  have ha := (Below.refl wr.heap.size wr).alloc (Nat.le_refl _) (.cells #[u] 34)
  have hgs : wr.heap.size + 1 ≤ w1.heap.size := by have := hg.size; simpa using this
  have hu : OwnI w1 w.heap.size u zs := ((h.2.below ha).grown hg fun k hk e => by have := (h.2.lt k hk).1; have := r4 k e.symm; omega).mono h4
  have hrow : ∀ i, (rw' (zss ++ [zs]) i) = if i < zss.length then rw' zss i else if i = zss.length then zs else [] := fun i => by
    unfold rw'
    rw [List.getD_eq_getElem?_getD, List.getD_eq_getElem?_getD]
    by_cases e : i < zss.length
    · rw [List.getElem?_append_left e, if_pos e]
    · rw [List.getElem?_append_right (by omega), if_neg e]
      by_cases e2 : i = zss.length
      · simp [e2]
      · rw [if_neg e2, List.getElem?_eq_none (by simp; omega)]; rfl
  have hget : ∀ i x, (vs ++ [u])[i]? = some x → (i < zss.length ∧ vs[i]? = some x) ∨ (i = zss.length ∧ x = u) := fun i x hx => by
    by_cases e : i < vs.length
    · rw [List.getElem?_append_left e] at hx; exact .inl ⟨by omega, hx⟩
    · rw [List.getElem?_append_right (by omega)] at hx
      by_cases e2 : i = vs.length
      · subst e2; simp at hx; exact .inr ⟨by omega, hx.symm⟩
      · rw [List.getElem?_eq_none (by simp; omega)] at hx; simp at hx
  refine ⟨⟨vs ++ [u], by rw [List.length_append]; exact hown, fun i x hx => ?_, fun i j x x' a b hij hx hx' hxa hxb => ?_, fun i x a hx hxa => ?_, fun a hxa => ?_⟩, ?_, Nat.le_refl _, by have := h2.size; omega⟩
  · rw [hrow i]
    rcases hget i x hx with ⟨e, hx⟩ | ⟨e, rfl⟩
    · rw [if_pos e]; exact ((r1 i x hx).below ha).grown hg fun k hk e2 => (r3 i x k hx hk).1 e2.symm
    · rw [if_neg (by omega), if_pos e]; exact hu
  · rcases hget i x hx with ⟨e, hy⟩ | ⟨e, rfl⟩ <;> rcases hget j x' hx' with ⟨e', hy'⟩ | ⟨e', rfl⟩
    · exact r2 i j x x' a b hij hy hy' hxa hxb
    · have := (r3 i x a hy hxa).2; have := (h.2.lt b hxb).1; omega
    · omega
    · omega
  · rcases hget i x hx with ⟨e, hx⟩ | ⟨e, rfl⟩
    · obtain ⟨p1, p2⟩ := r3 i x a hx hxa
      refine ⟨fun e2 => ?_, by omega⟩
      simp only [Value.ownBlock, Option.some.injEq] at e2
      rcases hat with hat | hat
      · exact p1 (by rw [hat, e2])
      · omega
    · have p1 := h.2.lt a hxa
      refine ⟨fun e2 => ?_, by omega⟩
      simp only [Value.ownBlock, Option.some.injEq] at e2
      rcases hat with hat | hat
      · have := r4 g hat; omega
      · omega
  · simp only [Value.ownBlock, Option.some.injEq] at hxa; omega
  · exact (h2.alloc h2.size _).grown hg (by simp; have := h2.size; omega) (fun k hk => (World.ownsRow.lt (h1.choose_spec.1) k hk).1)

/-- One row of it, and that it may be written. -/
theorem OwnM.row {w : World} {lo hi g n cap : Nat} {zss : List (List Int)} (h : OwnM w lo hi (.slice (some ⟨g, 0, none⟩) n cap) zss) {j : Nat} (hj : j < zss.length) :
    ∃ u, w.cell? ⟨g, j, none⟩ = some u ∧ OwnI w lo u (rw' zss j) ∧ (∀ a, u.ownBlock = some a → a < hi) ∧ ∀ w' zs', OwnI w' lo u zs' → w.grownBy w' u.ownBlock → OwnM w' lo hi (.slice (some ⟨g, 0, none⟩) n cap) (zss.set j zs') := by
  obtain ⟨vs, h1, h2, h3, h4, h5⟩ := h
  have hl : vs.length = zss.length := by have := h1.1; omega
  have hg : vs[j]? = some (vs[j]'(by omega)) := List.getElem?_eq_getElem (by omega)
  obtain rfl : n = zss.length := by
    obtain ⟨g', c', e, _⟩ := World.ownsRow.form h1 (by omega)
    simp only [Value.slice.injEq] at e; exact e.2.1
  refine ⟨vs[j]'(by omega), ?_, h2 j _ hg, fun a ha => (h4 j _ a hg ha).2, fun w' zs' hn hgr => ⟨vs, ?_, fun i u hu => ?_, h3, h4, h5⟩⟩
  · rw [World.ownsRow.cellAt h1 j (by omega)]; exact hg
  · rw [List.length_set]
    refine World.ownsRow.kept h1 hgr ?_
    cases e : (vs[j]'(by omega)).ownBlock with
    | none => exact .inr (by simp [Value.ownBlock])
    | some a => exact .inr (h4 j _ a hg e).1
  · by_cases e : i = j
    · subst e
      rw [hg] at hu
      obtain rfl := Option.some.inj hu
      rw [show rw' (zss.set i zs') i = zs' by simp [rw', hj]]
      exact hn
    · rw [show rw' (zss.set j zs') i = rw' zss i by simp [rw', Ne.symm e]]
      refine (h2 i u hu).grown hgr fun k hk e2 => ?_
      rcases Nat.lt_or_gt_of_ne e with c | c
      · have := h3 i j u _ k k c hu hg hk e2.symm; omega
      · have := h3 j i _ u k k c hg hu e2.symm hk; omega
end Go.Proofs.Ytpejphholomenaa
