/- What the claim's walk rests on: parts OwnM, ElsP, AppendF, EachL. -/
import Derived.Test.YtehnbalbpfmijaaGreatDoorKb2
import Derived.Test.YtehnbalbpfmijaaGreatDoorKb1
import Derived.Deep.RegionHeld3
import Derived.Deep.RegionLaw
import Derived.StillTailTactics
import Derived.Laws.EntriesVeiled
namespace Go.Proofs.YtehnbalbpfmijaaGreatDoor
open Go.RowKit

/-- The rows: owned, in ascending blocks, none in the block of the outer slice, all below hi. -/
def OwnMR (w : World) (lo hi : Nat) (v : Value) (zss : List (List Int)) (vs : List Value) : Prop :=
  (∀ i u, vs[i]? = some u → OwnI w lo u (rw' zss i)) ∧
    (∀ (i j : Nat) (u u' : Value) (a b : Nat), i < j → vs[i]? = some u → vs[j]? = some u' → u.ownBlock = some a → u'.ownBlock = some b → a < b) ∧
    (∀ (i : Nat) (u : Value) (a : Nat), vs[i]? = some u → u.ownBlock = some a → v.ownBlock ≠ some a ∧ a < hi) ∧ ∀ a, v.ownBlock = some a → a < hi
def OwnM (w : World) (lo hi : Nat) (v : Value) (zss : List (List Int)) : Prop := ∃ vs, w.ownsRow lo 33 1 v zss.length vs ∧ OwnMR w lo hi v zss vs
theorem OwnM.two {w : World} {lo hi : Nat} {v : Value} {zss : List (List Int)} (h : OwnM w lo hi v zss) : OwnII w lo v zss := by
  obtain ⟨vs, h1, h2, h3, _⟩ := h; exact ⟨vs, h1, h2, h3⟩
theorem OwnM.rd {w : World} {lo hi : Nat} {v : Value} {zss : List (List Int)} (h : OwnM w lo hi v zss) : RdII w w.heap.size v zss := h.two.rd
theorem OwnM.below {w w' : World} {lo hi : Nat} {v : Value} {zss : List (List Int)} (h : OwnM w lo hi v zss) (hb : Below w.heap.size w w') : OwnM w' lo hi v zss := by
  obtain ⟨vs, h1, h2, h3, h4⟩ := h
  exact ⟨vs, ownsRow_below h1 hb, fun i u hu => (h2 i u hu).below hb, h3, h4⟩
theorem OwnM.aft {w w' : World} {lo hi a b : Nat} {v : Value} {zss : List (List Int)} (h : OwnM w lo hi v zss) (hb : Aft a b w w') (hh : hi ≤ a ∨ b ≤ lo) : OwnM w' lo hi v zss := by
  obtain ⟨vs, h1, h2, h3, h4, h5⟩ := h
  exact ⟨vs, hb.row h1 fun k hk => by have := h5 k hk; have := (World.ownsRow.lt h1 k hk).1; omega, fun i u hu => hb.row (h2 i u hu) fun k hk => by have := (h4 i u k hu hk).2; have := (World.ownsRow.lt (h2 i u hu) k hk).1; omega, h3, h4, h5⟩
theorem OwnM.more {w : World} {lo hi hi' : Nat} {v : Value} {zss : List (List Int)} (h : OwnM w lo hi v zss) (hh : hi ≤ hi') : OwnM w lo hi' v zss := by
  obtain ⟨vs, h1, h2, h3, h4, h5⟩ := h
  exact ⟨vs, h1, h2, h3, fun i u a hu ha => ⟨(h4 i u a hu ha).1, Nat.lt_of_lt_of_le (h4 i u a hu ha).2 hh⟩, fun a ha => Nat.lt_of_lt_of_le (h5 a ha) hh⟩
/-- It is kept where a row at or above hi grows. -/
theorem OwnM.grown {w w' : World} {lo hi : Nat} {v : Value} {zss : List (List Int)} {row : Option Nat} (h : OwnM w lo hi v zss) (hg : w.grownBy w' row) (hr : ∀ k, row = some k → hi ≤ k) : OwnM w' lo hi v zss := by
  obtain ⟨vs, h1, h2, h3, h4, h5⟩ := h
  refine ⟨vs, World.ownsRow.kept h1 hg ?_, fun i u hu => (h2 i u hu).grown hg fun k hk e => ?_, h3, h4, h5⟩
  · cases e : v.ownBlock with
    | none => exact .inl rfl
    | some a => exact .inr fun e2 => by have := h5 a e; have := hr a e2.symm; omega
  · have := (h4 i u k hu hk).2; have := hr k e.symm; omega

/-- The slice of rows, behind some rounds. -/
def MRel (w wr : World) (hi : Nat) (v : Value) (zss : List (List Int)) : Prop := OwnM wr w.heap.size hi v zss ∧ Below w.heap.size w wr ∧ hi ≤ wr.heap.size ∧ w.heap.size ≤ hi
/-- A new row beside it. -/
def RowRel (w wr : World) (hi : Nat) (v : Value) (zss : List (List Int)) (u : Value) (zs : List Int) : Prop := MRel w wr hi v zss ∧ OwnI wr hi u zs
theorem MRel.start (w : World) : MRel w (w.alloc (.cells #[] 33)) (w.heap.size + 1) (.slice (some ⟨w.heap.size, 0, none⟩) 0 0) [] := by
  refine ⟨⟨[], ?_, fun i u hu => by simp at hu, fun i j u u' a b _ hu => by simp at hu, fun i u a hu => by simp at hu, fun a ha => ?_⟩, (Below.refl _ _).alloc (Nat.le_refl _) _, by simp, by omega⟩
  · simpa using World.ownsRow_lit (base := w.heap.size) (e := 33) (size := 1) w #[] 0 (Nat.le_refl _) (by simp [maxLen]) (by simp)
  · simp only [Value.ownBlock, Option.some.injEq] at ha; omega
theorem MRel.below {w wr w1 : World} {hi : Nat} {v : Value} {zss : List (List Int)} (h : MRel w wr hi v zss) (hb : Below wr.heap.size wr w1) : MRel w w1 hi v zss := by
  obtain ⟨h1, h2, h3, h4⟩ := h
  have := hb.size
  exact ⟨h1.below hb, h2.trans (hb.mono h2.size), by omega, h4⟩
theorem RowRel.below {w wr w1 : World} {hi : Nat} {v : Value} {zss : List (List Int)} {u : Value} {zs : List Int} (h : RowRel w wr hi v zss u zs) (hb : Below wr.heap.size wr w1) : RowRel w w1 hi v zss u zs := ⟨h.1.below hb, h.2.below hb⟩
theorem RowRel.start {w wr : World} {hi : Nat} {v : Value} {zss : List (List Int)} (h : MRel w wr hi v zss) : RowRel w (wr.alloc (.cells #[] 3)) hi v zss (.slice (some ⟨wr.heap.size, 0, none⟩) 0 0) [] :=
  ⟨h.below ((Below.refl _ _).alloc (Nat.le_refl _) _), by simpa [OwnI] using World.ownsRow_lit (base := hi) (e := 3) (size := 1) wr #[] 0 h.2.2.1 (by simp [maxLen]) (by simp)⟩
theorem RowRel.step {w wr w1 : World} {hi : Nat} {v : Value} {zss : List (List Int)} {u : Value} {zs : List Int} {z : Int} {g cap : Nat} (h : RowRel w wr hi v zss u zs)
    (hown : w1.ownsRow hi 3 1 (.slice (some ⟨g, 0, none⟩) (zs.length + 1) cap) (zs.length + 1) (zs.map (Value.int .i64) ++ [.int .i64 z]))
    (hg : (wr.alloc (.cells #[.int .i64 z] 3)).grownBy w1 u.ownBlock) : RowRel w w1 hi v zss (.slice (some ⟨g, 0, none⟩) (zs.length + 1) cap) (zs ++ [z]) := by
  obtain ⟨h1, h2, h3, h4⟩ := h.1
  have ha := (Below.refl wr.heap.size wr).alloc (Nat.le_refl _) (.cells #[.int .i64 z] 3)
  have hgs : wr.heap.size + 1 ≤ w1.heap.size := by have := hg.size; simpa using this
  refine ⟨⟨(h1.below ha).grown hg fun k hk => (h.2.lt k hk).1, (h2.alloc h2.size _).grown hg (by simp; have := h2.size; omega) (fun k hk => by have := (h.2.lt k hk).1; omega), by omega, h4⟩, OwnI.one rfl hown⟩
theorem RowRel.push {w wr w1 : World} {hi : Nat} {v : Value} {zss : List (List Int)} {u : Value} {zs : List Int} {g cap : Nat} {vs : List Value} (h : RowRel w wr hi v zss u zs) (hv : OwnMR wr w.heap.size hi v zss vs) (hl : vs.length = zss.length)
    (hown : w1.ownsRow w.heap.size 33 1 (.slice (some ⟨g, 0, none⟩) (zss.length + 1) cap) (zss.length + 1) (vs ++ [u]))
    (hg : (wr.alloc (.cells #[u] 33)).grownBy w1 v.ownBlock) (hat : v.ownBlock = some g ∨ g = wr.heap.size + 1) (hlt : g < w1.heap.size) :
    MRel w w1 w1.heap.size (.slice (some ⟨g, 0, none⟩) (zss.length + 1) cap) (zss ++ [zs]) := by
  obtain ⟨h1, h2, h3, h4⟩ := h.1
  obtain ⟨r1, r2, r3, r4⟩ := hv
  have ha := (Below.refl wr.heap.size wr).alloc (Nat.le_refl _) (.cells #[u] 33)
  have hgs : wr.heap.size + 1 ≤ w1.heap.size := by have := hg.size; simpa using this
  have hu : OwnI w1 w.heap.size u zs := ((h.2.below ha).grown hg fun k hk e => by have := (h.2.lt k hk).1; have := r4 k e.symm; omega).mono h4
  have hrow : ∀ i, (rw' (zss ++ [zs]) i) = if i < zss.length then rw' zss i else if i = zss.length then zs else [] := fun i => by
    unfold rw'
    rw [List.getD_eq_getElem?_getD, List.getD_eq_getElem?_getD]
    by_cases e : i < zss.length
    · rw [List.getElem?_append_left e, if_pos e]
    · rw [List.getElem?_append_right (by omega), if_neg e]
      by_cases e2 : i = zss.length
      · simp [e2]
      · rw [if_neg e2, List.getElem?_eq_none (by simp; omega)]; rfl
  have hget : ∀ i x, (vs ++ [u])[i]? = some x → (i < zss.length ∧ vs[i]? = some x) ∨ (i = zss.length ∧ x = u) := fun i x hx => by
    by_cases e : i < vs.length
    · rw [List.getElem?_append_left e] at hx; exact .inl ⟨by omega, hx⟩
    · rw [List.getElem?_append_right (by omega)] at hx
      by_cases e2 : i = vs.length
      · subst e2; simp at hx; exact .inr ⟨by omega, hx.symm⟩
      · rw [List.getElem?_eq_none (by simp; omega)] at hx; simp at hx
  refine ⟨⟨vs ++ [u], by rw [List.length_append]; exact hown, fun i x hx => ?_, fun i j x x' a b hij hx hx' hxa hxb => ?_, fun i x a hx hxa => ?_, fun a hxa => ?_⟩, ?_, Nat.le_refl _, by have := h2.size; omega⟩
  · rw [hrow i]
    rcases hget i x hx with ⟨e, hx⟩ | ⟨e, rfl⟩
    · rw [if_pos e]; exact ((r1 i x hx).below ha).grown hg fun k hk e2 => (r3 i x k hx hk).1 e2.symm
    · rw [if_neg (by omega), if_pos e]; exact hu
  · rcases hget i x hx with ⟨e, hy⟩ | ⟨e, rfl⟩ <;> rcases hget j x' hx' with ⟨e', hy'⟩ | ⟨e', rfl⟩
    · exact r2 i j x x' a b hij hy hy' hxa hxb
    · have := (r3 i x a hy hxa).2; have := (h.2.lt b hxb).1; omega
    · omega
    · omega
  · rcases hget i x hx with ⟨e, hx⟩ | ⟨e, rfl⟩
    · obtain ⟨p1, p2⟩ := r3 i x a hx hxa
      refine ⟨fun e2 => ?_, by omega⟩
      simp only [Value.ownBlock, Option.some.injEq] at e2
      rcases hat with hat | hat
      · exact p1 (by rw [hat, e2])
      · omega
    · have p1 := h.2.lt a hxa
      refine ⟨fun e2 => ?_, by omega⟩
      simp only [Value.ownBlock, Option.some.injEq] at e2
      rcases hat with hat | hat
      · have := r4 g hat; omega
      · omega
  · simp only [Value.ownBlock, Option.some.injEq] at hxa; omega
  · exact (h2.alloc h2.size _).grown hg (by simp; have := h2.size; omega) (fun k hk => (World.ownsRow.lt (h1.choose_spec.1) k hk).1)

/-- One row of it, and that it may be written. -/
theorem OwnM.row {w : World} {lo hi g n cap : Nat} {zss : List (List Int)} (h : OwnM w lo hi (.slice (some ⟨g, 0, none⟩) n cap) zss) {j : Nat} (hj : j < zss.length) :
    ∃ u, w.cell? ⟨g, j, none⟩ = some u ∧ OwnI w lo u (rw' zss j) ∧ (∀ a, u.ownBlock = some a → a < hi) ∧ ∀ w' zs', OwnI w' lo u zs' → w.grownBy w' u.ownBlock → OwnM w' lo hi (.slice (some ⟨g, 0, none⟩) n cap) (zss.set j zs') := by
  obtain ⟨vs, h1, h2, h3, h4, h5⟩ := h
  have hl : vs.length = zss.length := by have := h1.1; omega
  have hg : vs[j]? = some (vs[j]'(by omega)) := List.getElem?_eq_getElem (by omega)
  obtain rfl : n = zss.length := by
    obtain ⟨g', c', e, _⟩ := World.ownsRow.form h1 (by omega)
    simp only [Value.slice.injEq] at e; exact e.2.1
  refine ⟨vs[j]'(by omega), ?_, h2 j _ hg, fun a ha => (h4 j _ a hg ha).2, fun w' zs' hn hgr => ⟨vs, ?_, fun i u hu => ?_, h3, h4, h5⟩⟩
  · rw [World.ownsRow.cellAt h1 j (by omega)]; exact hg
  · rw [List.length_set]
    refine World.ownsRow.kept h1 hgr ?_
    cases e : (vs[j]'(by omega)).ownBlock with
    | none => exact .inr (by simp [Value.ownBlock])
    | some a => exact .inr (h4 j _ a hg e).1
  · by_cases e : i = j
    · subst e
      rw [hg] at hu
      obtain rfl := Option.some.inj hu
      rw [show rw' (zss.set i zs') i = zs' by simp [rw', hj]]
      exact hn
    · rw [show rw' (zss.set j zs') i = rw' zss i by simp [rw', Ne.symm e]]
      refine (h2 i u hu).grown hgr fun k hk e2 => ?_
      rcases Nat.lt_or_gt_of_ne e with c | c
      · have := h3 i j u _ k k c hu hg hk e2.symm; omega
      · have := h3 j i _ u k k c hg hu e2.symm hk; omega
end Go.Proofs.YtehnbalbpfmijaaGreatDoor

namespace Go.Proofs.YtehnbalbpfmijaaGreatDoor
open Go.RowKit

theorem World.ownsRow.mono_base {w : World} {lo lo' : Nat} {e : TypeId} {size n : Nat} {v : Value} {xs : List Value} (h : w.ownsRow lo e size v n xs) (hl : lo' ≤ lo) : w.ownsRow lo' e size v n xs := by
  refine ⟨h.1, ?_⟩
  rcases h.2 with h2 | ⟨g, cap, cur, e, hb, r⟩
  · exact .inl h2
  · exact .inr ⟨g, cap, cur, e, by omega, r⟩

/-- A new slice of new rows comes back. -/
def RetM (w : World) (zss : List (List Int)) (e : Ending) (w' : World) : Prop := ∃ v hi, e = .returned v ∧ OwnM w' w.heap.size hi v zss ∧ hi ≤ w'.heap.size ∧ Below w.heap.size w w'
theorem MRel.after {w w1 wr : World} {hi : Nat} {v : Value} {zss : List (List Int)} (hb : Below w.heap.size w w1) (h : MRel w1 wr hi v zss) : MRel w wr hi v zss := by
  obtain ⟨⟨vs, h1, h2, h3⟩, hb1, hh, hl⟩ := h
  have := hb.size
  exact ⟨⟨vs, World.ownsRow.mono_base h1 hb.size, fun i u hu => (h2 i u hu).mono hb.size, h3⟩, hb.trans (hb1.mono hb.size), hh, by omega⟩
theorem OwnM.none (w : World) (lo : Nat) : OwnM w lo 0 (.slice none 0 0) [] :=
  ⟨[], by simpa using World.ownsRow_nil w lo 33 1, fun i u hu => by simp at hu, fun i j u u' a b _ hu => by simp at hu, fun i u a hu => by simp at hu, fun a ha => by simp [Value.ownBlock] at ha⟩
end Go.Proofs.YtehnbalbpfmijaaGreatDoor

namespace Go.Proofs.YtehnbalbpfmijaaGreatDoor
open Go.RowKit

/-- A slice value, taken apart. -/
abbrev Sl := Option Addr × Nat × Nat
abbrev slV (s : Sl) : Value := .slice s.1 s.2.1 s.2.2
def elSl (e t : TypeId) : El Sl := ⟨e, t, 1, 24, .slice none 0 0, fun s => [slV s]⟩
theorem okSl {P : Program} {e t : TypeId} (h1 : P.underlying t = some (.slice e)) (h2 : (P.info? e).map (fun i => (i.zero, i.size, i.bytes)) = some (some (.slice none 0 0), 1, 24)) : (elSl e t).Ok P :=
  ⟨h1, h2, rfl, by show 0 < 1; omega, by show 24 ≤ 1024; omega, fun _ => rfl, fun x u hu => by simp [elSl] at hu; subst hu; rfl⟩

/-- A kind of thing that lies in an interval of blocks. -/
structure Kd (α : Type) where
  P : World → Nat → Nat → Value → α → Prop
  keep : ∀ {w w' : World} {lo hi : Nat} {v : Value} {x : α}, P w lo hi v x → w.heap.size ≤ w'.heap.size → (∀ k, lo ≤ k → k < hi → w'.heap[k]? = w.heap[k]?) → P w' lo hi v x
  mono : ∀ {w : World} {lo hi lo' hi' : Nat} {v : Value} {x : α}, P w lo hi v x → lo' ≤ lo → hi ≤ hi' → P w lo' hi' v x

theorem ownsRow_keep {w w' : World} {lo hi : Nat} {e : TypeId} {size n : Nat} {v : Value} {xs : List Value} (h : w.ownsRow lo e size v n xs) (hh : ∀ k, v.ownBlock = some k → k < hi) (hk : ∀ k, lo ≤ k → k < hi → w'.heap[k]? = w.heap[k]?) : w'.ownsRow lo e size v n xs := by
  refine ⟨h.1, ?_⟩
  rcases h.2 with hn | ⟨g, cap, cur, rfl, hb, hgg, rest⟩
  · exact .inl hn
  · exact .inr ⟨g, cap, cur, rfl, hb, (hk g hb (hh g rfl)).trans hgg, rest⟩
theorem ownsRow_mono {w : World} {lo lo' : Nat} {e : TypeId} {size n : Nat} {v : Value} {xs : List Value} (h : w.ownsRow lo e size v n xs) (hl : lo' ≤ lo) : w.ownsRow lo' e size v n xs := World.ownsRow.mono_base h hl

/-- Rows of plain elements. -/
def kdF {α : Type} (E : El α) : Kd (List α) where
  P w lo hi v xs := OwnF E w lo v xs ∧ ∀ k, v.ownBlock = some k → k < hi
  keep h _ hk := ⟨ownsRow_keep h.1 h.2 hk, h.2⟩
  mono h hl hh := ⟨h.1.mono hl, fun k hk => Nat.lt_of_lt_of_le (h.2 k hk) hh⟩
/-- Rows of rows of integers. -/
def kdM : Kd (List (List Int)) where
  P w lo hi v zss := OwnM w lo hi v zss
  keep := fun {w w' lo hi v x} h _ hk => by
    obtain ⟨vs, h1, h2, h3, h4, h5⟩ := h
    exact ⟨vs, ownsRow_keep h1 h5 hk, fun i u hu => ownsRow_keep (h2 i u hu) (fun k hk' => (h4 i u k hu hk').2) hk, h3, h4, h5⟩
  mono := fun {w lo hi lo' hi' v x} h hl hh => by
    obtain ⟨vs, h1, h2, h3, h4, h5⟩ := h.more hh
    exact ⟨vs, ownsRow_mono h1 hl, fun i u hu => (h2 i u hu).mono hl, h3, h4, h5⟩

section
variable {α : Type} {K : Kd α} {E : El Sl}
/-- The elements: each in an interval of its own, none with the block O. -/
def Els (K : Kd α) (w : World) (lo hi : Nat) (O : Option Nat) (ss : List Sl) (xs : List α) : Prop :=
  ss.length = xs.length ∧ ∃ a b : Nat → Nat, (∀ i s x, ss[i]? = some s → xs[i]? = some x → lo ≤ a i ∧ b i ≤ hi ∧ K.P w (a i) (b i) (slV s) x ∧ ∀ g, O = some g → g < a i ∨ b i ≤ g) ∧ ∀ i j, i < j → j < xs.length → b i ≤ a j
theorem Els.nil (w : World) (lo hi : Nat) (O : Option Nat) : Els K w lo hi O [] [] := ⟨rfl, fun _ => 0, fun _ => 0, fun i s x h => by simp at h, fun i j _ h => by simp at h⟩
theorem Els.kept {w w' : World} {lo hi : Nat} {O : Option Nat} {ss : List Sl} {xs : List α} (h : Els K w lo hi O ss xs) (hs : w.heap.size ≤ w'.heap.size) (hk : ∀ k, lo ≤ k → k < hi → O ≠ some k → w'.heap[k]? = w.heap[k]?) : Els K w' lo hi O ss xs := by
  obtain ⟨h1, a, b, h2, h3⟩ := h
  refine ⟨h1, a, b, fun i s x hi hx => ?_, h3⟩
  obtain ⟨p1, p2, p3, p4⟩ := h2 i s x hi hx
  exact ⟨p1, p2, K.keep p3 hs fun k q1 q2 => hk k (by omega) (by omega) (fun e => by have := p4 k e; omega), p4⟩
theorem Els.more {w : World} {lo hi lo' hi' : Nat} {O : Option Nat} {ss : List Sl} {xs : List α} (h : Els K w lo hi O ss xs) (hl : lo' ≤ lo) (hh : hi ≤ hi') : Els K w lo' hi' O ss xs := by
  obtain ⟨h1, a, b, h2, h3⟩ := h
  refine ⟨h1, a, b, fun i s x hi hx => ?_, h3⟩
  obtain ⟨p1, p2, p3, p4⟩ := h2 i s x hi hx
  exact ⟨by omega, by omega, p3, p4⟩

/-- A slice of such slices that grows: w the world at the call, wr the world now; the elements lie from lo on and below hi. -/
def NRel (K : Kd α) (E : El Sl) (w : World) (base lo : Nat) (wr : World) (hi : Nat) (v : Value) (xs : List α) : Prop :=
  ∃ ss, Acc E w base wr v ss ∧ Els K wr lo hi v.ownBlock ss xs ∧ hi ≤ wr.heap.size
theorem Acc.lt {β : Type} {F : El β} {w wr : World} {lo : Nat} {v : Value} {xs : List β} (h : Acc F w lo wr v xs) : ∀ k, v.ownBlock = some k → lo ≤ k ∧ k < wr.heap.size := h.1.lt
theorem NRel.below {w wr w1 : World} {base lo hi : Nat} {v : Value} {xs : List α} (h : NRel K E w base lo wr hi v xs) (hb : Below wr.heap.size wr w1) : NRel K E w base lo w1 hi v xs := by
  obtain ⟨ss, h1, h2, h3⟩ := h
  exact ⟨ss, h1.below hb, h2.kept hb.size fun k _ hk _ => hb.block k (by omega), Nat.le_trans h3 hb.size⟩
/-- It is kept where neither the outer block nor the elements' blocks are written. -/
theorem NRel.kept {w wr w1 : World} {base lo hi : Nat} {v : Value} {xs : List α} (h : NRel K E w base lo wr hi v xs) (hb : Below w.heap.size w w1) (hs : wr.heap.size ≤ w1.heap.size) (ho : ∀ k, v.ownBlock = some k → w1.heap[k]? = wr.heap[k]?) (hk : ∀ k, lo ≤ k → k < hi → w1.heap[k]? = wr.heap[k]?) : NRel K E w base lo w1 hi v xs := by
  obtain ⟨ss, ⟨q1, q2, q3, q4⟩, h2, h3⟩ := h
  refine ⟨ss, ⟨?_, hb, q3, by omega⟩, h2.kept hs fun k p1 p2 _ => hk k p1 p2, by omega⟩
  refine ⟨q1.1, ?_⟩
  rcases q1.2 with hn | ⟨g, cap, cur, rfl, hb', hgg, rest⟩
  · exact .inl hn
  · exact .inr ⟨g, cap, cur, rfl, hb', (ho g rfl).trans hgg, rest⟩
theorem NRel.push {w wr w' : World} {base lo hi a b : Nat} {v v' : Value} {ss : List Sl} {xs : List α} {s : Sl} {x : α} (h2 : Els K wr lo hi v.ownBlock ss xs) (hh : hi ≤ wr.heap.size) (hx : K.P wr a b (slV s) x) (hl : lo ≤ a) (ha : hi ≤ a) (hb : b ≤ wr.heap.size) (hv : ∀ g, v.ownBlock = some g → g < a ∨ b ≤ g)
    (hA : Hid (Acc E w base w' v' (ss ++ [s]))) (hG : Hid (Grew wr w' v v')) : NRel K E w base lo w' w'.heap.size v' (xs ++ [x]) := by
  obtain ⟨g1, g, g2, g3, g4⟩ := hG.out
  have hs := g1.size
  obtain ⟨e1, fa, fb, e2, e3⟩ := h2.kept (w' := w') hs fun k p1 p2 p3 => g1.block k (by omega) (fun e => p3 e.symm)
  have hx' : K.P w' a b (slV s) x := K.keep hx hs fun k p1 p2 => g1.block k (by omega) (fun e => by have := hv k e.symm; omega)
  have hget : ∀ i s' x', (ss ++ [s])[i]? = some s' → (xs ++ [x])[i]? = some x' → (i < xs.length ∧ ss[i]? = some s' ∧ xs[i]? = some x') ∨ (i = xs.length ∧ s' = s ∧ x' = x) := fun i s' x' h1 h2 => by
    by_cases e : i < xs.length
    · rw [List.getElem?_append_left (by omega)] at h1
      rw [List.getElem?_append_left e] at h2
      exact .inl ⟨e, h1, h2⟩
    · rw [List.getElem?_append_right (by omega)] at h1 h2
      by_cases e2 : i = xs.length
      · subst e2; rw [e1] at h1; simp at h1 h2; exact .inr ⟨rfl, h1.symm, h2.symm⟩
      · rw [List.getElem?_eq_none (by simp; omega)] at h2; simp at h2
  refine ⟨_, hA.out, ⟨by simp [e1], fun i => if i < xs.length then fa i else a, fun i => if i < xs.length then fb i else b, fun i s' x' h1 h2 => ?_, fun i j hij hj => ?_⟩, Nat.le_refl _⟩
  · rcases hget i s' x' h1 h2 with ⟨q, r1, r2⟩ | ⟨q, r1, r2⟩
    · simp only [q, if_true]
      obtain ⟨p1, p2, p3, p4⟩ := e2 i s' x' r1 r2
      refine ⟨p1, by omega, p3, fun k hk => ?_⟩
      rw [g2] at hk
      obtain rfl := Option.some.inj hk
      rcases g3 with g3 | g3
      · exact p4 g g3
      · exact .inr (by omega)
    · subst r1 r2
      simp only [show ¬ i < xs.length by omega, if_false]
      refine ⟨hl, by omega, hx', fun k hk => ?_⟩
      rw [g2] at hk
      obtain rfl := Option.some.inj hk
      rcases g3 with g3 | g3
      · exact hv g g3
      · exact .inr (by omega)
  · simp only [List.length_append, List.length_singleton] at hj
    simp only [show i < xs.length by omega, if_true]
    by_cases e : j < xs.length
    · simp only [e, if_true]; exact e3 i j hij e
    · simp only [e, if_false]
      obtain ⟨s', hs'⟩ : ∃ s', ss[i]? = some s' := ⟨_, List.getElem?_eq_getElem (by omega)⟩
      obtain ⟨x', hx'⟩ : ∃ x', xs[i]? = some x' := ⟨_, List.getElem?_eq_getElem (by omega)⟩
      have := (e2 i s' x' hs' hx').2.1
      omega
/-- A whole slice of such slices is appended. -/
theorem NRel.append {w wr w' : World} {base lo hi lo2 hi2 : Nat} {v v' : Value} {O2 : Option Nat} {ss ss2 : List Sl} {xs ys : List α} (h2 : Els K wr lo hi v.ownBlock ss xs) (hh : hi ≤ wr.heap.size) (hy : Els K wr lo2 hi2 O2 ss2 ys) (hl : lo ≤ lo2) (ha : hi ≤ lo2) (hb : hi2 ≤ wr.heap.size) (hv : ∀ g, v.ownBlock = some g → g < lo2 ∨ hi2 ≤ g)
    (hA : Hid (Acc E w base w' v' (ss ++ ss2))) (hG : Hid (wr.grownBy w' v.ownBlock ∧ (v'.ownBlock = v.ownBlock ∨ v'.ownBlock = some wr.heap.size))) : NRel K E w base lo w' w'.heap.size v' (xs ++ ys) := by
  obtain ⟨g1, g3⟩ := hG.out
  have hs := g1.size
  obtain ⟨e1, fa, fb, e2, e3⟩ := h2.kept (w' := w') hs fun k p1 p2 p3 => g1.block k (by omega) (fun e => p3 e.symm)
  obtain ⟨y1, ya, yb, y2, y3⟩ := hy
  have hget : ∀ i s' x', (ss ++ ss2)[i]? = some s' → (xs ++ ys)[i]? = some x' → (i < xs.length ∧ ss[i]? = some s' ∧ xs[i]? = some x') ∨ (xs.length ≤ i ∧ ss2[i - xs.length]? = some s' ∧ ys[i - xs.length]? = some x') := fun i s' x' h1 h2 => by
    by_cases e : i < xs.length
    · rw [List.getElem?_append_left (by omega)] at h1
      rw [List.getElem?_append_left e] at h2
      exact .inl ⟨e, h1, h2⟩
    · rw [List.getElem?_append_right (by omega), e1] at h1
      rw [List.getElem?_append_right (by omega)] at h2
      exact .inr ⟨by omega, h1, h2⟩
  refine ⟨_, hA.out, ⟨by simp [e1, y1], fun i => if i < xs.length then fa i else ya (i - xs.length), fun i => if i < xs.length then fb i else yb (i - xs.length), fun i s' x' h1 h2 => ?_, fun i j hij hj => ?_⟩, Nat.le_refl _⟩
  · rcases hget i s' x' h1 h2 with ⟨q, r1, r2⟩ | ⟨q, r1, r2⟩
    · simp only [q, if_true]
      obtain ⟨p1, p2, p3, p4⟩ := e2 i s' x' r1 r2
      refine ⟨p1, by omega, p3, fun k hk => ?_⟩
      rcases g3 with g3 | g3
      · exact p4 k (by rw [← g3]; exact hk)
      · rw [g3] at hk; obtain rfl := Option.some.inj hk; exact .inr (by omega)
    · simp only [show ¬ i < xs.length by omega, if_false]
      obtain ⟨p1, p2, p3, p4⟩ := y2 _ s' x' r1 r2
      refine ⟨by omega, by omega, K.keep p3 hs fun k q1 q2 => g1.block k (by omega) (fun e => by have := hv k e.symm; omega), fun k hk => ?_⟩
      rcases g3 with g3 | g3
      · have := hv k (by rw [← g3]; exact hk); omega
      · rw [g3] at hk; obtain rfl := Option.some.inj hk; exact .inr (by omega)
  · simp only [List.length_append] at hj
    by_cases e : j < xs.length
    · simp only [e, show i < xs.length by omega, if_true]; exact e3 i j hij e
    · simp only [e, if_false]
      obtain ⟨sj, hsj⟩ : ∃ s', ss2[j - xs.length]? = some s' := ⟨_, List.getElem?_eq_getElem (by omega)⟩
      obtain ⟨xj, hxj⟩ : ∃ x', ys[j - xs.length]? = some x' := ⟨_, List.getElem?_eq_getElem (by omega)⟩
      by_cases ei : i < xs.length
      · simp only [ei, if_true]
        obtain ⟨s', hs'⟩ : ∃ s', ss[i]? = some s' := ⟨_, List.getElem?_eq_getElem (by omega)⟩
        obtain ⟨x', hx'⟩ : ∃ x', xs[i]? = some x' := ⟨_, List.getElem?_eq_getElem (by omega)⟩
        have := (e2 i s' x' hs' hx').2.1
        have := (y2 _ sj xj hsj hxj).1
        omega
      · simp only [ei, if_false]
        exact y3 _ _ (by omega) (by omega)
end

/-! ### Reading -/
/-- v reads as a list of things, each of which reads by R. -/
def RdN {α : Type} (R : World → Nat → Value → α → Prop) (w : World) (B : Nat) (v : Value) (xs : List α) : Prop :=
  ∃ A c, v = .slice A xs.length c ∧ xs.length ≤ c ∧ c ≤ maxLen ∧ ∀ i x, xs[i]? = some x → ∃ (ad : Addr) (s : Sl), A = some ad ∧ ad.block < B ∧ w.cell? (ad.add i) = some (slV s) ∧ R w B (slV s) x
theorem NRel.rdN {α : Type} {K : Kd α} {e t : TypeId} {P : Program} {R : World → Nat → Value → α → Prop} {w wr : World} {base lo hi : Nat} {v : Value} {xs : List α} (hE : (elSl e t).Ok P) (hR : ∀ a b s x, b ≤ wr.heap.size → K.P wr a b (slV s) x → R wr wr.heap.size (slV s) x) (h : NRel K (elSl e t) w base lo wr hi v xs) : RdN R wr wr.heap.size v xs := by
  obtain ⟨ss, ⟨q1, _⟩, ⟨h1, a, b, h2, _⟩, h3⟩ := h
  obtain ⟨A, c, hv, l1, l2, hr⟩ := q1.rd hE
  rw [h1] at hv l1
  refine ⟨A, c, hv, l1, l2, fun i x hx => ?_⟩
  have hi : i < xs.length := (List.getElem?_eq_some_iff.1 hx).1
  have hs : ss[i]? = some (ss[i]'(by omega)) := List.getElem?_eq_getElem (by omega)
  obtain ⟨ad, e1, e2, e3⟩ := hr i _ hs
  obtain ⟨_, p2, p3, _⟩ := h2 i _ x hs hx
  refine ⟨ad, _, e1, e2, ?_, hR _ _ _ _ (by omega) p3⟩
  have := e3 0 _ rfl
  simpa [elSl] using this
theorem RdN.below {α : Type} {R : World → Nat → Value → α → Prop} {w w' : World} {B : Nat} {v : Value} {xs : List α} (hR : ∀ s x, R w B (slV s) x → R w' B (slV s) x) (h : RdN R w B v xs) (hb : Below B w w') : RdN R w' B v xs := by
  obtain ⟨A, c, hv, l1, l2, hr⟩ := h
  refine ⟨A, c, hv, l1, l2, fun i x hx => ?_⟩
  obtain ⟨ad, s, e1, e2, e3, e4⟩ := hr i x hx
  exact ⟨ad, s, e1, e2, (hb.cell (by rw [addBlock]; exact e2)).trans e3, hR s x e4⟩
end Go.Proofs.YtehnbalbpfmijaaGreatDoor

namespace Go.Proofs.YtehnbalbpfmijaaGreatDoor
open Go.RowKit

theorem RowRel.ofCall {w wr w1 : World} {hi : Nat} {v : Value} {zss : List (List Int)} {u : Value} {zs : List Int} (h : MRel w wr hi v zss) (hb : Below wr.heap.size wr w1) (ho : OwnI w1 wr.heap.size u zs) : RowRel w w1 wr.heap.size v zss u zs := by
  obtain ⟨h1, h2, h3, h4⟩ := h.below hb
  exact ⟨⟨h1.more h.2.2.1, h2, hb.size, Nat.le_trans h4 h.2.2.1⟩, ho⟩
theorem take_row (zss : List (List Int)) (k : Nat) (h : k < zss.length) : zss.take (k + 1) = zss.take k ++ [rw' zss k] := by
  rw [rw_get zss k h, List.take_succ_eq_append_getElem h]

end Go.Proofs.YtehnbalbpfmijaaGreatDoor

namespace Go.Proofs.YtehnbalbpfmijaaGreatDoor
open Go.RowKit

def OwnD (w : World) (lo : Nat) (v : Value) (zss : List (List Int)) : Prop :=
  ∃ vs, w.ownsRow lo 33 1 v zss.length vs ∧ (∀ i u, vs[i]? = some u → OwnI w lo u (rw' zss i)) ∧
    (∀ (i j : Nat) (u u' : Value) (a : Nat), i ≠ j → vs[i]? = some u → vs[j]? = some u' → u.ownBlock = some a → u'.ownBlock ≠ some a) ∧
    (∀ (i : Nat) (u : Value) (a : Nat), vs[i]? = some u → u.ownBlock = some a → v.ownBlock ≠ some a)
theorem OwnM.d {w : World} {lo hi : Nat} {v : Value} {zss : List (List Int)} (h : OwnM w lo hi v zss) : OwnD w lo v zss := by
  obtain ⟨vs, h1, h2, h3, h4, h5⟩ := h
  refine ⟨vs, h1, h2, fun i j u u' a e hu hu' ha hb => ?_, fun i u a hu ha => (h4 i u a hu ha).1⟩
  rcases Nat.lt_or_gt_of_ne e with c | c
  · have := h3 i j u u' a a c hu hu' ha hb; omega
  · have := h3 j i u' u a a c hu' hu hb ha; omega
theorem OwnD.below {w w' : World} {lo : Nat} {v : Value} {zss : List (List Int)} (h : OwnD w lo v zss) (hb : Below w.heap.size w w') : OwnD w' lo v zss := by
  obtain ⟨vs, h1, h2, h3, h4⟩ := h
  exact ⟨vs, ownsRow_below h1 hb, fun i u hu => (h2 i u hu).below hb, h3, h4⟩
theorem OwnD.slice {w : World} {lo g n cap : Nat} {zss : List (List Int)} (h : OwnD w lo (.slice (some ⟨g, 0, none⟩) n cap) zss) (hpos : 0 < zss.length) : n = zss.length ∧ lo ≤ g := by
  obtain ⟨vs, h1, _⟩ := h
  obtain ⟨g', c', e, hl, _⟩ := World.ownsRow.form h1 hpos
  simp only [Value.slice.injEq, Option.some.injEq, Addr.mk.injEq, and_true] at e
  exact ⟨e.2.1, by omega⟩
theorem rw_set (zss : List (List Int)) (j : Nat) (zs : List Int) (i : Nat) (hj : j < zss.length) : rw' (zss.set j zs) i = if i = j then zs else rw' zss i := by
  by_cases e : i = j
  · subst e; simp [rw', hj]
  · simp [rw', e, Ne.symm e]

theorem World.ownsRow.block {w : World} {lo g s n cap : Nat} {e : TypeId} {xs : List Value} (h : w.ownsRow lo e s (.slice (some ⟨g, 0, none⟩) n cap) n xs) : ∃ cur, w.heap[g]? = some (.cells cur e (0, 0)) := by
  rcases h.2 with ⟨h', _⟩ | ⟨g', cap', cur, h', _, hg, _⟩
  · simp at h'
  · simp only [Value.slice.injEq, Option.some.injEq, Addr.mk.injEq, and_true, true_and] at h'
    obtain ⟨rfl, rfl⟩ := h'
    exact ⟨cur, hg⟩
/-- What lies in blocks of another type stays owned. -/
theorem World.ownsRow.apart {w : World} {lo g s n : Nat} {e e' : TypeId} {v : Value} {xs : List Value} (h : w.ownsRow lo e s v n xs) (hne : e ≠ e') (hg : ∃ cur, w.heap[g]? = some (.cells cur e' (0, 0))) (j : Nat) (u : Value) : (w.setCell ⟨g, j, none⟩ u).ownsRow lo e s v n xs := by
  refine World.ownsRow.kept h (row := some g) ⟨rfl, rfl, rfl, by simp, fun k _ hk => heap_setCell_other w ⟨g, j, none⟩ k u (fun e => hk (by simp [e]))⟩ ?_
  cases ev : v.ownBlock with
  | none => exact .inl rfl
  | some k =>
    refine .inr fun e2 => ?_
    obtain rfl := Option.some.inj e2
    rcases h.2 with ⟨rfl, _⟩ | ⟨g', cap', cur, rfl, _, hg', _⟩
    · simp [Value.ownBlock] at ev
    · simp [Value.ownBlock] at ev
      subst ev
      obtain ⟨cur', hg⟩ := hg
      rw [hg'] at hg
      simp only [Option.some.injEq, Obj.cells.injEq] at hg
      exact hne hg.2.1

/-- The i-th row: where it lies, its elements, and that one may be written. -/
theorem OwnD.row {w : World} {lo g n cap : Nat} {zss : List (List Int)} (h : OwnD w lo (.slice (some ⟨g, 0, none⟩) n cap) zss) {i : Nat} (hi : i < zss.length) (hpos : 0 < (rw' zss i).length) :
    ∃ gi ci, w.cell? ⟨g, i, none⟩ = some (.slice (some ⟨gi, 0, none⟩) (rw' zss i).length ci) ∧ lo ≤ gi ∧ (rw' zss i).length ≤ ci ∧ ci ≤ maxLen ∧ (∀ j, j < (rw' zss i).length → w.cell? ⟨gi, j, none⟩ = some (.int .i64 (el (rw' zss i) j))) ∧
      (∀ j, w.frozen? ⟨gi, j, none⟩ = false) ∧ (∀ j z, j < (rw' zss i).length → OwnD (w.setCell ⟨gi, j, none⟩ (.int .i64 z)) lo (.slice (some ⟨g, 0, none⟩) n cap) (zss.set i ((rw' zss i).set j z))) ∧
      ∃ cur, w.heap[gi]? = some (.cells cur 3 (0, 0)) := by
  obtain ⟨vs, h1, h2, h3, h4⟩ := h
  have hl : vs.length = zss.length := by have := h1.1; omega
  have hg : vs[i]? = some (vs[i]'(by omega)) := List.getElem?_eq_getElem (by omega)
  obtain rfl : n = zss.length := by
    obtain ⟨g', c', e, _⟩ := World.ownsRow.form h1 (by omega)
    simp only [Value.slice.injEq] at e; exact e.2.1
  generalize hvi : vs[i]'(by omega) = vi at hg
  have hr := h2 i _ hg
  obtain ⟨gi, ci, hv, hlo, hlt⟩ := World.ownsRow.form hr hpos
  obtain ⟨A0, c0, e0, q1, q2, _⟩ := hr.rd
  have hcell : w.cell? ⟨g, i, none⟩ = some vi := by rw [World.ownsRow.cellAt h1 i (by omega)]; exact hg
  subst hv
  obtain rfl : ci = c0 := by simp only [Value.slice.injEq] at e0; exact e0.2.2
  refine ⟨gi, ci, hcell, hlo, q1, q2, fun j hj => ?_, fun j => World.ownsRow.frozenAt hr j, fun j z hj => ?_, World.ownsRow.block hr⟩
  · rw [World.ownsRow.cellAt hr j (by omega), List.getElem?_map, List.getElem?_eq_getElem hj, el_get _ _ hj]; rfl
  · have hst := World.ownsRow.stored hr j (.int .i64 z)
    have hself : OwnI (w.setCell ⟨gi, j, none⟩ (.int .i64 z)) lo (.slice (some ⟨gi, 0, none⟩) (rw' zss i).length ci) ((rw' zss i).set j z) := by
      unfold OwnI
      rw [List.length_set, List.map_set]
      exact hst.1
    refine ⟨vs, ?_, fun t u hu => ?_, h3, h4⟩
    · rw [List.length_set]
      exact World.ownsRow.kept h1 hst.2 (.inr (h4 i _ gi hg rfl))
    · rw [rw_set zss i _ t hi]
      by_cases e : t = i
      · subst e
        rw [hg] at hu
        obtain rfl := Option.some.inj hu
        rw [if_pos rfl]; exact hself
      · rw [if_neg e]
        exact (h2 t u hu).grown hst.2 fun k hk e2 => h3 t i u _ k e hu hg hk e2.symm

/-- Two rows change places. -/
theorem OwnD.swap {w : World} {lo g n cap : Nat} {zss : List (List Int)} {u1 u2 : Value} (h : OwnD w lo (.slice (some ⟨g, 0, none⟩) n cap) zss) {i k : Nat} (hi : i < zss.length) (hk : k < zss.length) (hne : i ≠ k)
    (c1 : w.cell? ⟨g, i, none⟩ = some u1) (c2 : w.cell? ⟨g, k, none⟩ = some u2) :
    OwnD ((w.setCell ⟨g, i, none⟩ u2).setCell ⟨g, k, none⟩ u1) lo (.slice (some ⟨g, 0, none⟩) n cap) ((zss.set i (rw' zss k)).set k (rw' zss i)) ∧ ∀ j, w.frozen? ⟨g, j, none⟩ = false := by
  obtain ⟨vs, h1, h2, h3, h4⟩ := h
  have hl : vs.length = zss.length := by have := h1.1; omega
  obtain rfl : n = zss.length := by
    obtain ⟨g', c', e, _⟩ := World.ownsRow.form h1 (by omega)
    simp only [Value.slice.injEq] at e; exact e.2.1
  have hg1 : vs[i]? = some u1 := by rw [← World.ownsRow.cellAt h1 i (by omega)]; exact c1
  have hg2 : vs[k]? = some u2 := by rw [← World.ownsRow.cellAt h1 k (by omega)]; exact c2
  have s1 := World.ownsRow.stored h1 i u2
  have s2 := World.ownsRow.stored s1.1 k u1
  have hget : ∀ t u, ((vs.set i u2).set k u1)[t]? = some u → (t = k ∧ u = u1) ∨ (t ≠ k ∧ t = i ∧ u = u2) ∨ (t ≠ k ∧ t ≠ i ∧ vs[t]? = some u) := fun t u hu => by
    rw [List.getElem?_set, List.getElem?_set] at hu
    by_cases e : k = t
    · subst e; simp [show k < vs.length by omega] at hu; exact .inl ⟨rfl, hu.symm⟩
    · rw [if_neg e] at hu
      by_cases e2 : i = t
      · subst e2; simp [show i < vs.length by omega] at hu; exact .inr (.inl ⟨fun x => e x.symm, rfl, hu.symm⟩)
      · rw [if_neg e2] at hu; exact .inr (.inr ⟨fun x => e x.symm, fun x => e2 x.symm, hu⟩)
  have hfar : ∀ (t : Nat) (u : Value) zs, vs[t]? = some u → OwnI w lo u zs → OwnI ((w.setCell ⟨g, i, none⟩ u2).setCell ⟨g, k, none⟩ u1) lo u zs := fun t u zs hu ho => by
    refine (ho.grown s1.2 fun x hx e => ?_).grown s2.2 fun x hx e => ?_
    · exact h4 t u x hu hx e.symm
    · exact h4 t u x hu hx e.symm
  have hold : ∀ t u, ((vs.set i u2).set k u1)[t]? = some u → ∃ t', vs[t']? = some u ∧ (t' = if t = k then i else if t = i then k else t) := fun t u hu => by
    rcases hget t u hu with ⟨rfl, rfl⟩ | ⟨e, rfl, rfl⟩ | ⟨e, e2, hu⟩
    · exact ⟨i, hg1, by simp⟩
    · exact ⟨k, hg2, by simp [e]⟩
    · exact ⟨t, hu, by simp [e, e2]⟩
  refine ⟨⟨(vs.set i u2).set k u1, ?_, fun t u hu => ?_, fun t t' u u' a e hu hu' ha => ?_, fun t u a hu ha => ?_⟩, fun j => World.ownsRow.frozenAt h1 j⟩
  · rw [List.length_set, List.length_set]; exact s2.1
  · have hlr : rw' ((zss.set i (rw' zss k)).set k (rw' zss i)) t = if t = k then rw' zss i else if t = i then rw' zss k else rw' zss t := by
      rw [rw_set _ k _ t (by rw [List.length_set]; exact hk), rw_set _ i _ t hi]
    rw [hlr]
    rcases hget t u hu with ⟨rfl, rfl⟩ | ⟨e, rfl, rfl⟩ | ⟨e, e2, hu⟩
    · rw [if_pos rfl]; exact hfar i _ _ hg1 (h2 i _ hg1)
    · rw [if_neg e, if_pos rfl]; exact hfar k _ _ hg2 (h2 k _ hg2)
    · rw [if_neg e, if_neg e2]; exact hfar t _ _ hu (h2 t _ hu)
  · obtain ⟨p, hp, ep⟩ := hold t u hu
    obtain ⟨p', hp', ep'⟩ := hold t' u' hu'
    refine h3 p p' u u' a ?_ hp hp' ha
    subst ep ep'
    split <;> split <;> (try split) <;> (try split) <;> omega
  · obtain ⟨p, hp, _⟩ := hold t u hu
    exact h4 p u a hp ha
end Go.Proofs.YtehnbalbpfmijaaGreatDoor

namespace Go.Proofs.YtehnbalbpfmijaaGreatDoor
open Go.RowKit

theorem MRel.grown {w wr w1 : World} {hi : Nat} {v : Value} {zss : List (List Int)} {row : Option Nat} (h : MRel w wr hi v zss) (hg : wr.grownBy w1 row) (hr : ∀ k, row = some k → hi ≤ k) : MRel w w1 hi v zss :=
  ⟨h.1.grown hg hr, h.2.1.grown hg h.2.1.size fun k hk => Nat.le_trans h.2.2.2 (hr k hk), Nat.le_trans h.2.2.1 hg.size, h.2.2.2⟩
/-- The new row grows by one number. -/
theorem wpList_pushInt {ops : Array Oper} {rest : List Oper} {o : Oper} {a : Act} {Q : Exit → Act → World → Prop} (hgd : o.guard = none) (s x : Operand)
    (ho : o.op = .call { callee := .builtin .append, args := #[s, x], argTypes := #[33, 33] }) {w wr : World} {hi : Nat} {v u : Value} {zss : List (List Int)} {zs : List Int} (H : RowRel w wr hi v zss u zs) (hs : a.eval s = u)
    (z : Int) (h0 : Nat) (hx : a.eval x = .slice (some ⟨h0, 0, none⟩) 1 1) (hh : wr.heap.size = h0) (hl : zs.length + 1 ≤ 1073741824)
    (h : ∀ u' w', Hid (RowRel w w' hi v zss u' (zs ++ [z])) → Hid (Below hi wr w') → wpList Tryz.prog ops Q rest (a.put o.dst u') w') :
    wpList Tryz.prog ops Q (o :: rest) a (wr.alloc (.cells #[.int .i64 z] 3)) := by
  have HA : Acc elInt w hi wr u zs := ⟨ownF_int.2 H.2, H.1.2.1, H.1.2.2.2, H.1.2.2.1⟩
  refine wpList_push okInt hgd s x ho HA hs z #[.int .i64 z] rfl h0 hx hh hl fun u' w' H2 G => h u' w' ⟨H.1.grown G.1 fun k hk => (H.2.lt k hk).1, ownF_int.1 H2.out.1⟩ ((Below.refl _ _).grown G.1 H.1.2.2.1 fun k hk => (H.2.lt k hk).1)
/-- The new row grows by one number. -/
theorem step_pushInt {ops : Array Oper} {o : Oper} {a : Act} {K : Act → World → Prop} {Q : Exit → Act → World → Prop} {X : Prop} (hgd : o.guard = none) (s x : Operand)
    (ho : o.op = .call { callee := .builtin .append, args := #[s, x], argTypes := #[33, 33] }) {w wr : World} {hi : Nat} {v u : Value} {zss : List (List Int)} {zs : List Int} (H : RowRel w wr hi v zss u zs) (hs : a.eval s = u)
    (z : Int) (h0 : Nat) (hx : a.eval x = .slice (some ⟨h0, 0, none⟩) 1 1) (hh : wr.heap.size = h0) (hl : zs.length + 1 ≤ 1073741824)
    (h : ∀ u' w', Hid (RowRel w w' hi v zss u' (zs ++ [z])) → Hid (Below hi wr w') → K (a.put o.dst u') w') :
    if Region.wanted o (yielded ops a.tmps) = true then Oper.wp Tryz.prog o a (wr.alloc (.cells #[.int .i64 z] 3)) K Q else X := by
  have HA : Acc elInt w hi wr u zs := ⟨ownF_int.2 H.2, H.1.2.1, H.1.2.2.2, H.1.2.2.1⟩
  refine step_push okInt hgd s x ho HA hs z #[.int .i64 z] rfl h0 hx hh hl fun u' w' H2 G => h u' w' ⟨H.1.grown G.1 fun k hk => (H.2.lt k hk).1, ownF_int.1 H2.out.1⟩ ((Below.refl _ _).grown G.1 H.1.2.2.1 fun k hk => (H.2.lt k hk).1)
/-- A made row beside the slice of rows. -/
theorem RowRel.made {w wr : World} {hi : Nat} {v : Value} {zss : List (List Int)} (h : MRel w wr hi v zss) (n : Nat) (hn : n ≤ 9223372036854775807) :
    RowRel w (wr.alloc (.cells (madeCells #[.int .i64 0] n) 3)) hi v zss (.slice (some ⟨wr.heap.size, 0, none⟩) n n) (List.replicate n 0) := by
  refine ⟨h.below ((Below.refl _ _).alloc (Nat.le_refl _) _), ?_⟩
  have e : (List.replicate n (0 : Int)).length = n := by simp
  have := OwnI.of_row (w := wr.alloc (.cells (madeCells #[.int .i64 0] n) 3)) (lo := hi) (g := wr.heap.size) (zs := List.replicate n 0) h.2.2.1 (by rw [e]; exact hn) (by rw [e]; exact (World.rowIs_made wr _ _ _).congr fun i hi => by simp [hi])
  rwa [e] at this
end Go.Proofs.YtehnbalbpfmijaaGreatDoor

namespace Go.Proofs.YtehnbalbpfmijaaGreatDoor
open Go.RowKit

def RShape (a b : Nat) (m : List (List Int)) : Prop := m.length = a ∧ ∀ i, i < a → (rw' m i).length = b
def ARel (w wr : World) (g cap a b : Nat) (m : List (List Int)) : Prop := OwnM wr w.heap.size wr.heap.size (.slice (some ⟨g, 0, none⟩) a cap) m ∧ Below w.heap.size w wr ∧ RShape a b m
theorem rshape_set {a b : Nat} {m : List (List Int)} (h : RShape a b m) {i : Nat} (hi : i < a) {zs : List Int} (hz : zs.length = b) : RShape a b (m.set i zs) := by
  refine ⟨by rw [List.length_set]; exact h.1, fun t ht => ?_⟩
  rw [rw_set m i zs t (by rw [h.1]; exact hi)]
  split
  · exact hz
  · exact h.2 t ht
theorem ARel.below {w wr w1 : World} {g cap a b : Nat} {m : List (List Int)} (h : ARel w wr g cap a b m) (hb : Below wr.heap.size wr w1) : ARel w w1 g cap a b m :=
  ⟨(h.1.below hb).more hb.size, h.2.1.trans (hb.mono h.2.1.size), h.2.2⟩
/-- One cell: where it lies, and that it may be written. -/
theorem ARel.at {w wr : World} {g cap a b : Nat} {m : List (List Int)} (h : ARel w wr g cap a b m) {i k : Nat} (hi : i < a) (hk : k < b) :
    ∃ gi ci, b ≤ ci ∧ ci ≤ 9223372036854775807 ∧ wr.cell? ⟨g, i, none⟩ = some (.slice (some ⟨gi, 0, none⟩) b ci) ∧ wr.cell? ⟨gi, k, none⟩ = some (.int .i64 (el (rw' m i) k)) ∧ wr.frozen? ⟨gi, k, none⟩ = false ∧
      Hid (∀ z, ARel w (wr.setCell ⟨gi, k, none⟩ (.int .i64 z)) g cap a b (m.set i ((rw' m i).set k z))) := by
  obtain ⟨h1, h2, h3, h4⟩ := h
  obtain ⟨u, hcell, hown, hbl, hset⟩ := h1.row (j := i) (by rw [h3]; exact hi)
  have hl := h4 i hi
  obtain ⟨gi, ci, rfl, hlo, hlt⟩ := World.ownsRow.form hown (by rw [hl]; omega)
  obtain ⟨A, c, e, q1, q2, _⟩ := hown.rd
  simp only [Value.slice.injEq] at e
  obtain ⟨-, -, rfl⟩ := e
  rw [hl] at q1
  refine ⟨gi, ci, q1, q2, by rw [hl] at hcell; exact hcell, ?_, World.ownsRow.frozenAt hown k, fun z => ⟨?_, h2.setCell (hlo) _, rshape_set ⟨h3, h4⟩ hi (by rw [List.length_set]; exact hl)⟩⟩
  · rw [World.ownsRow.cellAt hown k (by omega), List.getElem?_map, List.getElem?_eq_getElem (by omega), el_get _ _ (by omega)]; rfl
  · have hst := World.ownsRow.stored hown k (.int .i64 z)
    have hown2 : OwnI (wr.setCell ⟨gi, k, none⟩ (.int .i64 z)) w.heap.size (.slice (some ⟨gi, 0, none⟩) (rw' m i).length ci) ((rw' m i).set k z) := by
      unfold OwnI; rw [List.length_set, List.map_set]; exact hst.1
    exact (hset _ _ hown2 hst.2).more (by simp)
theorem MRel.rect {w wr : World} {hi a b : Nat} {v : Value} {m : List (List Int)} (h : MRel w wr hi v m) (hs : RShape a b m) (hn : 0 < a) : ∃ g cap, v = .slice (some ⟨g, 0, none⟩) a cap ∧ a ≤ cap ∧ cap ≤ 9223372036854775807 ∧ ARel w wr g cap a b m := by
  obtain ⟨vs, h1, h2⟩ := h.1
  obtain ⟨g, cap, hv, _, _⟩ := World.ownsRow.form h1 (by rw [hs.1]; exact hn)
  obtain ⟨A, c, e, q1, q2, _⟩ := h.1.rd.open_
  rw [hs.1] at hv e q1
  subst hv
  simp only [Value.slice.injEq] at e
  exact ⟨g, cap, rfl, by rw [e.2.2]; exact q1, by rw [e.2.2]; exact q2, h.1.more h.2.2.1, h.2.1, hs⟩
theorem RetM.mrel {w w1 : World} {v : Value} {hi : Nat} {zss : List (List Int)} (ho : OwnM w1 w.heap.size hi v zss) (hh : hi ≤ w1.heap.size) (hb : Below w.heap.size w w1) : MRel w w1 w1.heap.size v zss := ⟨ho.more hh, hb, Nat.le_refl _, hb.size⟩
end Go.Proofs.YtehnbalbpfmijaaGreatDoor

namespace Go.Proofs.YtehnbalbpfmijaaGreatDoor
open Go.RowKit

section
variable {α : Type} {K : Kd α} {e t : TypeId} {P : Program}
theorem NRel.at (hE : (elSl e t).Ok P) {w wr : World} {base lo hi g n cap : Nat} {xs : List α} (h : NRel K (elSl e t) w base lo wr hi (.slice (some ⟨g, 0, none⟩) n cap) xs) {i : Nat} (hi' : i < xs.length) :
    ∃ (s : Sl) (a b : Nat), n = xs.length ∧ n ≤ cap ∧ cap ≤ maxLen ∧ base ≤ g ∧ g < wr.heap.size ∧ lo ≤ a ∧ b ≤ hi ∧ K.P wr a b (slV s) xs[i] ∧ wr.cell? ⟨g, i, none⟩ = some (slV s) ∧
      ∀ (w1 : World) (x' : α), K.P w1 a b (slV s) x' → Below w.heap.size w w1 → wr.heap.size ≤ w1.heap.size → (∀ k, k < wr.heap.size → (k < a ∨ b ≤ k) → w1.heap[k]? = wr.heap[k]?) → NRel K (elSl e t) w base lo w1 hi (.slice (some ⟨g, 0, none⟩) n cap) (xs.set i x') := by
  obtain ⟨ss, hA, ⟨h1, a, b, h2, h3⟩, h4⟩ := h
  have hs : ss[i]? = some (ss[i]'(by omega)) := List.getElem?_eq_getElem (by omega)
  have hx : xs[i]? = some xs[i] := List.getElem?_eq_getElem hi'
  obtain ⟨p1, p2, p3, p4⟩ := h2 i _ _ hs hx
  obtain ⟨q1, q2, q3, q4⟩ := hA
  obtain ⟨A, c, e0, r1, r2, r3⟩ := q1.rd hE
  simp only [Value.slice.injEq] at e0
  obtain ⟨e1, e2, e3⟩ := e0
  subst e2 e3
  have hlt := q1.lt g rfl
  obtain ⟨ad, e4, _, hc⟩ := r3 i _ hs
  rw [← e1] at e4
  obtain rfl := Option.some.inj e4
  refine ⟨ss[i]'(by omega), a i, b i, h1, r1, r2, hlt.1, hlt.2, p1, p2, p3, ?_, fun w1 x' hx' hb hsz hk => ?_⟩
  · have := hc 0 _ rfl
    have e5 : (⟨g, 0, none⟩ : Addr).add (i * (elSl e t).s + 0) = ⟨g, i, none⟩ := by
      show (⟨g, 0, none⟩ : Addr).add (i * 1 + 0) = _
      rw [Nat.mul_one, Nat.add_zero]
      rcases Nat.eq_zero_or_pos i with q | q
      · subst q; rfl
      · simp [Addr.add, Nat.ne_of_gt q]
    rw [e5] at this; exact this
  · refine ⟨ss, ⟨?_, hb, q3, by omega⟩, ⟨by rw [List.length_set]; exact h1, a, b, fun j s x hj hxj => ?_, fun j j' hjj hj' => h3 j j' hjj (by rw [List.length_set] at hj'; exact hj')⟩, by omega⟩
    · refine ⟨q1.1, ?_⟩
      rcases q1.2 with hn | ⟨g', cap', cur, e', hb', hgg, rest⟩
      · exact .inl hn
      · refine .inr ⟨g', cap', cur, e', hb', ?_, rest⟩
        simp only [Value.slice.injEq, Option.some.injEq, Addr.mk.injEq, and_true] at e'
        obtain ⟨rfl, _⟩ := e'
        exact (hk g hlt.2 (p4 g rfl)).trans hgg
    · by_cases e : j = i
      · subst e
        rw [hs] at hj
        obtain rfl := Option.some.inj hj
        rw [List.getElem?_set_self hi'] at hxj
        obtain rfl := Option.some.inj hxj
        exact ⟨p1, p2, hx', p4⟩
      · rw [List.getElem?_set_ne (Ne.symm e)] at hxj
        obtain ⟨o1, o2, o3, o4⟩ := h2 j s x hj hxj
        have hjl : j < xs.length := (List.getElem?_eq_some_iff.1 hxj).1
        refine ⟨o1, o2, K.keep o3 hsz fun k k1 k2 => hk k (by omega) ?_, o4⟩
        rcases Nat.lt_or_gt_of_ne e with c | c
        · have := h3 j i c hi'; omega
        · have := h3 i j c hjl; omega
theorem NRel.len (hE : (elSl e t).Ok P) {w wr : World} {base lo hi : Nat} {v : Value} {xs : List α} (h : NRel K (elSl e t) w base lo wr hi v xs) : ∃ A c, v = .slice A xs.length c ∧ xs.length ≤ c ∧ c ≤ maxLen := by
  obtain ⟨ss, hA, ⟨h1, _⟩, _⟩ := h
  obtain ⟨A, c, hv, r1, r2, _⟩ := hA.1.rd hE
  rw [h1] at hv r1
  exact ⟨A, c, hv, r1, r2⟩
end

/-- One number of a matrix. -/
theorem NRel.num {e t : TypeId} {P : Program} (hE : (elSl e t).Ok P) {w wr : World} {base lo hi g n cap a b : Nat} {M : List (List Int)} (h : NRel (kdF elInt) (elSl e t) w base lo wr hi (.slice (some ⟨g, 0, none⟩) n cap) M) (hs : RShape a b M) (hw : w.heap.size ≤ lo) {i k : Nat} (hi' : i < a) (hk : k < b) :
    ∃ gi ci, n = a ∧ a ≤ cap ∧ cap ≤ maxLen ∧ base ≤ g ∧ b ≤ ci ∧ ci ≤ maxLen ∧ wr.cell? ⟨g, i, none⟩ = some (.slice (some ⟨gi, 0, none⟩) b ci) ∧ lo ≤ gi ∧ gi < hi ∧ wr.cell? ⟨gi, k, none⟩ = some (.int .i64 (el (rw' M i) k)) ∧ wr.frozen? ⟨gi, k, none⟩ = false ∧
      Hid (∀ z, NRel (kdF elInt) (elSl e t) w base lo (wr.setCell ⟨gi, k, none⟩ (.int .i64 z)) hi (.slice (some ⟨g, 0, none⟩) n cap) (M.set i ((rw' M i).set k z))) := by
  obtain ⟨h3, h4⟩ := hs
  obtain ⟨s, p, q, c1, c2, c3, c4, c5, c6, c7, ⟨c8, c9⟩, c10, c11⟩ := h.at hE (i := i) (by omega)
  have hl := h4 i hi'
  rw [← rw_get M i (by omega)] at c8
  have hown : OwnI wr p (slV s) (rw' M i) := ownF_int.1 c8
  obtain ⟨gi, ci, hv, hlo, hlt⟩ := World.ownsRow.form hown (by rw [hl]; omega)
  rw [hv] at hown c9 c10 c11
  obtain ⟨A, c, e0, q1, q2, _⟩ := hown.rd
  simp only [Value.slice.injEq] at e0
  obtain ⟨-, -, rfl⟩ := e0
  have hgb := c9 gi rfl
  have hbw : Below w.heap.size w wr := h.choose_spec.1.2.1
  rw [hl] at q1
  refine ⟨gi, ci, by omega, by omega, c3, c4, q1, q2, by rw [hl] at c10; exact c10, by omega, by omega, ?_, World.ownsRow.frozenAt hown k, fun z => ?_⟩
  · rw [World.ownsRow.cellAt hown k (by omega), List.getElem?_map, List.getElem?_eq_getElem (by omega), el_get _ _ (by omega)]; rfl
  · have hst := World.ownsRow.stored hown k (.int .i64 z)
    have hown2 : OwnI (wr.setCell ⟨gi, k, none⟩ (.int .i64 z)) p (.slice (some ⟨gi, 0, none⟩) (rw' M i).length ci) ((rw' M i).set k z) := by
      unfold OwnI; rw [List.length_set, List.map_set]; exact hst.1
    exact c11 _ _ ⟨ownF_int.2 hown2, c9⟩ (hbw.setCell (by show w.heap.size ≤ gi; omega) _) (by simp) fun k' _ hk2 => Below.heap_setCell _ _ _ _ (by show k' ≠ gi; omega)
/-- It reads as rows. -/
theorem NRel.rdII {e t : TypeId} {P : Program} (hE : (elSl e t).Ok P) {w wr : World} {base lo hi : Nat} {v : Value} {M : List (List Int)} (h : NRel (kdF elInt) (elSl e t) w base lo wr hi v M) : RdII wr wr.heap.size v M := by
  obtain ⟨ss, ⟨q1, _⟩, ⟨h1, a, b, h2, _⟩, h3⟩ := h
  obtain ⟨A, c, hv, l1, l2, hr⟩ := q1.rd hE
  refine ⟨A, c, ss.map slV, by rw [hv, h1], by omega, l2, by simp [h1], fun hn => ?_, fun i u hu => ?_⟩
  · obtain ⟨s0, hs0⟩ : ∃ s0, ss[0]? = some s0 := by
      cases ss with
      | nil => simp at hn
      | cons s t => exact ⟨s, rfl⟩
    obtain ⟨ad, e1, e2, _⟩ := hr 0 s0 hs0
    refine ⟨ad, e1, e2, fun j u hu => ?_⟩
    rw [List.getElem?_map] at hu
    obtain ⟨s, hs, rfl⟩ := Option.map_eq_some_iff.1 hu
    obtain ⟨ad', e1', _, hc⟩ := hr j s hs
    rw [e1] at e1'
    obtain rfl := Option.some.inj e1'
    have := hc 0 _ rfl
    simpa [elSl] using this
  · rw [List.getElem?_map] at hu
    obtain ⟨s, hs, rfl⟩ := Option.map_eq_some_iff.1 hu
    have hil : i < M.length := by have := (List.getElem?_eq_some_iff.1 hs).1; omega
    obtain ⟨_, _, p3, _⟩ := h2 i s _ hs (List.getElem?_eq_getElem hil)
    rw [rw_get M i hil]
    exact (ownF_int.1 p3.1).rd
end Go.Proofs.YtehnbalbpfmijaaGreatDoor

namespace Go.Proofs.YtehnbalbpfmijaaGreatDoor
open Go.RowKit
set_option linter.unusedVariables false

section
variable {α : Type} {K : Kd α}
/-- The elements: each in an interval of its own, none with a block of O. -/
def ElsP (K : Kd α) (w : World) (lo hi : Nat) (O : Nat → Prop) (ss : List Sl) (xs : List α) : Prop :=
  ss.length = xs.length ∧ ∃ a b : Nat → Nat, (∀ i s x, ss[i]? = some s → xs[i]? = some x → lo ≤ a i ∧ b i ≤ hi ∧ K.P w (a i) (b i) (slV s) x ∧ ∀ g, O g → g < a i ∨ b i ≤ g) ∧ ∀ i j, i < j → j < xs.length → b i ≤ a j
theorem ElsP.nil (w : World) (lo hi : Nat) (O : Nat → Prop) : ElsP K w lo hi O [] [] := ⟨rfl, fun _ => 0, fun _ => 0, fun i s x h => by simp at h, fun i j _ h => by simp at h⟩
theorem ElsP.kept {w w' : World} {lo hi : Nat} {O : Nat → Prop} {ss : List Sl} {xs : List α} (h : ElsP K w lo hi O ss xs) (hs : w.heap.size ≤ w'.heap.size) (hk : ∀ k, lo ≤ k → k < hi → ¬ O k → w'.heap[k]? = w.heap[k]?) : ElsP K w' lo hi O ss xs := by
  obtain ⟨h1, a, b, h2, h3⟩ := h
  refine ⟨h1, a, b, fun i s x hi hx => ?_, h3⟩
  obtain ⟨p1, p2, p3, p4⟩ := h2 i s x hi hx
  exact ⟨p1, p2, K.keep p3 hs fun k q1 q2 => hk k (by omega) (by omega) (fun e => by have := p4 k e; omega), p4⟩
theorem ElsP.excl {w : World} {lo hi : Nat} {O O' : Nat → Prop} {ss : List Sl} {xs : List α} (h : ElsP K w lo hi O ss xs) (ho : ∀ g, O' g → O g ∨ hi ≤ g ∨ g < lo) : ElsP K w lo hi O' ss xs := by
  obtain ⟨h1, a, b, h2, h3⟩ := h
  refine ⟨h1, a, b, fun i s x hi hx => ?_, h3⟩
  obtain ⟨p1, p2, p3, p4⟩ := h2 i s x hi hx
  refine ⟨p1, p2, p3, fun g hg => ?_⟩
  rcases ho g hg with h | h | h
  · exact p4 g h
  · exact .inr (by omega)
  · exact .inl (by omega)
theorem ElsP.els {w : World} {lo hi : Nat} {O : Nat → Prop} {o : Option Nat} {ss : List Sl} {xs : List α} (h : ElsP K w lo hi O ss xs) (ho : ∀ g, o = some g → O g) : Els K w lo hi o ss xs := by
  obtain ⟨h1, a, b, h2, h3⟩ := h
  refine ⟨h1, a, b, fun i s x hi hx => ?_, h3⟩
  obtain ⟨p1, p2, p3, p4⟩ := h2 i s x hi hx
  exact ⟨p1, p2, p3, fun g hg => p4 g (ho g hg)⟩
theorem ElsP.push {w : World} {lo hi hi' a b : Nat} {O : Nat → Prop} {ss : List Sl} {xs : List α} {s : Sl} {x : α} (h : ElsP K w lo hi O ss xs) (hx : K.P w a b (slV s) x) (hl : lo ≤ a) (ha : hi ≤ a) (hb : b ≤ hi') (hh : hi ≤ hi') (hO : ∀ g, O g → g < a ∨ b ≤ g) : ElsP K w lo hi' O (ss ++ [s]) (xs ++ [x]) := by
  obtain ⟨e1, fa, fb, e2, e3⟩ := h
  refine ⟨by simp [e1], fun i => if i < xs.length then fa i else a, fun i => if i < xs.length then fb i else b, fun i s' x' h1 h2 => ?_, fun i j hij hj => ?_⟩
  · by_cases e : i < xs.length
    · rw [List.getElem?_append_left (by omega)] at h1
      rw [List.getElem?_append_left e] at h2
      simp only [e, if_true]
      obtain ⟨p1, p2, p3, p4⟩ := e2 i s' x' h1 h2
      exact ⟨p1, by omega, p3, p4⟩
    · rw [List.getElem?_append_right (by omega)] at h1 h2
      by_cases e4 : i = xs.length
      · subst e4
        rw [e1] at h1
        simp at h1 h2
        subst h1 h2
        simp only [Nat.lt_irrefl, if_false]
        exact ⟨hl, hb, hx, hO⟩
      · rw [List.getElem?_eq_none (by simp; omega)] at h2; simp at h2
  · simp only [List.length_append, List.length_singleton] at hj
    simp only [show i < xs.length by omega, if_true]
    by_cases e : j < xs.length
    · simp only [e, if_true]; exact e3 i j hij e
    · simp only [e, if_false]
      obtain ⟨s', hs'⟩ : ∃ s', ss[i]? = some s' := ⟨_, List.getElem?_eq_getElem (by omega)⟩
      obtain ⟨x', hx'⟩ : ∃ x', xs[i]? = some x' := ⟨_, List.getElem?_eq_getElem (by omega)⟩
      have := (e2 i s' x' hs' hx').2.1
      omega
end

section
variable {α : Type} {E : El α}
theorem OwnF.same {w w' : World} {lo : Nat} {v : Value} {xs : List α} (h : OwnF E w lo v xs) (hk : ∀ k, v.ownBlock = some k → w'.heap[k]? = w.heap[k]?) : OwnF E w' lo v xs := by
  refine ⟨h.1, ?_⟩
  rcases h.2 with hn | ⟨g, cap, cur, rfl, hb, hgg, rest⟩
  · exact .inl hn
  · exact .inr ⟨g, cap, cur, rfl, hb, (hk g rfl).trans hgg, rest⟩
/-- The last element is cut off. -/
theorem OwnF.pop (hE : ∀ x, (E.f x).length = E.s) {w : World} {lo : Nat} {v : Value} {xs : List α} {x : α} (h : OwnF E w lo v (xs ++ [x])) :
    ∃ g c, v = .slice (some ⟨g, 0, none⟩) (xs.length + 1) c ∧ xs.length + 1 ≤ c ∧ c ≤ maxLen ∧ OwnF E w lo (.slice (some ⟨g, 0, none⟩) xs.length c) xs := by
  rcases h.2 with ⟨_, h0⟩ | ⟨g, cap, cur, hv, hb, hgg, h1, h2, h3, h4⟩
  · simp at h0
  · simp only [List.length_append, List.length_singleton] at hv h1 h4
    refine ⟨g, cap, hv, h1, h2, flat_length hE xs, .inr ⟨g, cap, cur, rfl, hb, hgg, by omega, h2, h3, ?_⟩⟩
    rw [List.flatMap_append] at h4
    have h5 := congrArg (List.take (xs.length * E.s)) h4
    rw [List.take_take, Nat.min_eq_left (Nat.mul_le_mul_right _ (by omega)), List.take_append_of_le_length (by rw [flat_length hE]; exact Nat.le_refl _), List.take_of_length_le (l := xs.flatMap E.f) (by rw [flat_length hE]; exact Nat.le_refl _)] at h5
    exact h5
theorem OwnF.rdFull {P : Program} (hE : E.Ok P) {w : World} {lo : Nat} {v : Value} {xs : List α} (h : OwnF E w lo v xs) : RdF E w w.heap.size v xs := h.rd hE

/-- Where the list and the row lie. -/
structure TLay where
  po : Nat
  pw : Nat
  o0 : Nat
  m0 : Nat
  lo : Nat
  lo2 : Nat
structure TLay.Ok (L : TLay) : Prop where
  o : L.lo ≤ L.o0
  m : L.lo ≤ L.m0
  o2 : L.o0 < L.lo2
  m2 : L.m0 < L.lo2
  p2 : L.po < L.lo2
  w2 : L.pw < L.lo2
  om : L.o0 ≠ L.m0
  pw_ : L.po ≠ L.pw
  po0 : L.po ≠ L.o0
  pm0 : L.po ≠ L.m0
  wo0 : L.pw ≠ L.o0
  wm0 : L.pw ≠ L.m0
  lp : L.lo ≤ L.po
  lw : L.lo ≤ L.pw
/-- All other blocks below stay. -/
def Fix (L : TLay) (w w' : World) : Prop := ∀ k, k < L.lo2 → k ≠ L.po → k ≠ L.pw → k ≠ L.o0 → k ≠ L.m0 → w'.heap[k]? = w.heap[k]?
theorem Fix.refl (L : TLay) (w : World) : Fix L w w := fun _ _ _ _ _ _ => rfl
theorem Fix.trans {L : TLay} {a b c : World} (h : Fix L a b) (h' : Fix L b c) : Fix L a c := fun k h1 h2 h3 h4 h5 => (h' k h1 h2 h3 h4 h5).trans (h k h1 h2 h3 h4 h5)
theorem Fix.below {L : TLay} {a b : World} (h : Below a.heap.size a b) (hl : L.lo2 ≤ a.heap.size) : Fix L a b := fun k h1 _ _ _ _ => h.block k (by omega)

structure TS (E : El α) (ES : El Sl) (w0 : World) (L : TLay) (wr : World) (vo vw : Value) (ho : Nat) (ss : List Sl) (hd : List α) (os : List (List α)) : Prop where
  co : wr.heap[L.po]? = some (.cells #[vo] ES.t (0, 0))
  cw : wr.heap[L.pw]? = some (.cells #[vw] E.t (0, 0))
  ao : Acc ES w0 L.lo wr vo ss
  aw : Acc E w0 L.lo wr vw hd
  el : ElsP (kdF E) wr L.lo2 ho (fun g => vo.ownBlock = some g ∨ vw.ownBlock = some g) ss os
  lh : L.lo2 ≤ ho
  hs : ho ≤ wr.heap.size
  bo : ∀ g, vo.ownBlock = some g → g = L.o0 ∨ L.lo2 ≤ g
  bw : ∀ g, vw.ownBlock = some g → g = L.m0 ∨ L.lo2 ≤ g
  ne : ∀ g, vo.ownBlock = some g → vw.ownBlock ≠ some g
def TSt (E : El α) (ES : El Sl) (w0 : World) (L : TLay) (wr : World) (hd : List α) (os : List (List α)) : Prop := ∃ vo vw ho ss, TS E ES w0 L wr vo vw ho ss hd os

variable {ES : El Sl} {w0 wr w1 w2 : World} {L : TLay} {vo vw v' : Value} {ho : Nat} {ss : List Sl} {hd : List α} {os : List (List α)} {x : α}
theorem TS.below (h : TS E ES w0 L wr vo vw ho ss hd os) (hb : Below wr.heap.size wr w1) : TS E ES w0 L w1 vo vw ho ss hd os :=
  ⟨(hb.block _ (lt_of_block h.co)).trans h.co, (hb.block _ (lt_of_block h.cw)).trans h.cw, h.ao.below hb, h.aw.below hb, h.el.kept hb.size fun k _ hk _ => hb.block k (by have := h.hs; omega), h.lh, Nat.le_trans h.hs hb.size, h.bo, h.bw, h.ne⟩
theorem TS.fix (h : TS E ES w0 L wr vo vw ho ss hd os) (hb : Below wr.heap.size wr w1) : Fix L wr w1 := Fix.below hb (Nat.le_trans h.lh h.hs)
theorem TS.big (h : TS E ES w0 L wr vo vw ho ss hd os) : Below w0.heap.size w0 wr := h.ao.2.1
theorem TS.cello (h : TS E ES w0 L wr vo vw ho ss hd os) : wr.cell? ⟨L.po, 0, none⟩ = some vo := cell_of_one h.co
theorem TS.cellw (h : TS E ES w0 L wr vo vw ho ss hd os) : wr.cell? ⟨L.pw, 0, none⟩ = some vw := cell_of_one h.cw
theorem TS.lenw {P : Program} (hE : E.Ok P) (h : TS E ES w0 L wr vo vw ho ss hd os) : ∃ A c, vw = .slice A hd.length c ∧ hd.length ≤ c ∧ c ≤ maxLen := by
  obtain ⟨A, c, hv, h1, h2, _⟩ := h.aw.1.rd hE; exact ⟨A, c, hv, h1, h2⟩
theorem TS.leno {P : Program} (hE : ES.Ok P) (h : TS E ES w0 L wr vo vw ho ss hd os) : ∃ A c, vo = .slice A ss.length c ∧ ss.length ≤ c ∧ c ≤ maxLen := by
  obtain ⟨A, c, hv, h1, h2, _⟩ := h.ao.1.rd hE; exact ⟨A, c, hv, h1, h2⟩
/-- The row grows by one. -/
theorem TS.pushOwn (hL : L.Ok) (h : TS E ES w0 L wr vo vw ho ss hd os) (HA : Acc E w0 L.lo w2 v' (hd ++ [x])) (HG : Grew wr w2 vw v') :
    TS E ES w0 L (w2.setCell ⟨L.pw, 0, none⟩ v') vo v' ho ss (hd ++ [x]) os ∧ Fix L wr (w2.setCell ⟨L.pw, 0, none⟩ v') ∧ (∃ u, w2.heap[L.pw]? = some (.cells #[u] E.t (0, 0))) := by
  obtain ⟨g1, g, g2, g3, g4⟩ := HG
  have l1 := hL.w2; have l2 := hL.p2; have l3 := hL.o2; have l4 := hL.m2; have l5 := hL.pw_; have l6 := hL.wo0; have l7 := hL.wm0; have l8 := hL.po0; have l9 := hL.pm0; have l10 := hL.om; have l11 := hL.lw
  have hlo := Nat.le_trans h.lh h.hs
  have hsame : ∀ k, k < wr.heap.size → vw.ownBlock ≠ some k → k ≠ L.pw → (w2.setCell ⟨L.pw, 0, none⟩ v').heap[k]? = wr.heap[k]? := fun k k1 k2 k3 =>
    (Below.heap_setCell _ _ _ _ (by show k ≠ L.pw; exact k3)).trans (g1.block k k1 (fun e => k2 e.symm))
  have hpw : w2.heap[L.pw]? = some (.cells #[vw] E.t (0, 0)) := (g1.block L.pw (by omega) (fun e => by have := h.bw L.pw e.symm; omega)).trans h.cw
  have hgb : g = L.m0 ∨ L.lo2 ≤ g := by
    rcases g3 with g3 | g3
    · exact h.bw g g3
    · exact .inr (by omega)
  have hw0 : w0.heap.size ≤ L.pw := Nat.le_trans h.aw.2.2.1 l11
  refine ⟨⟨?_, ?_, ⟨h.ao.1.same fun k hk => ?_, HA.2.1.setCell hw0 _, h.ao.2.2.1, by simpa using HA.2.2.2⟩, ⟨HA.1.same fun k hk => Below.heap_setCell _ _ _ _ ?_, HA.2.1.setCell hw0 _, HA.2.2.1, by simpa using HA.2.2.2⟩, ?_, h.lh, ?_, h.bo, ?_, ?_⟩, ?_, ⟨_, hpw⟩⟩
  · exact (hsame L.po (by omega) (fun e => by have := h.bw _ e; omega) l5).trans h.co
  · exact (blk_setCell hpw _).trans (by simp)
  · exact hsame k ((h.ao.1.lt k hk).2) (h.ne k hk) (by have := h.bo k hk; omega)
  · rw [g2] at hk; obtain rfl := Option.some.inj hk; show g ≠ L.pw; omega
  · refine (h.el.kept (w' := w2.setCell ⟨L.pw, 0, none⟩ v') (by simpa using g1.size) fun k k1 k2 k3 => hsame k (by have := h.hs; omega) (fun e => k3 (.inr e)) (by omega)).excl fun k hk => ?_
    rcases hk with hk | hk
    · exact .inl (.inl hk)
    · rw [g2] at hk
      obtain rfl := Option.some.inj hk
      rcases g3 with g3 | g3
      · exact .inl (.inr g3)
      · exact .inr (.inl (by have := h.hs; omega))
  · simpa using Nat.le_trans h.hs g1.size
  · intro k hk; rw [g2] at hk; obtain rfl := Option.some.inj hk; exact hgb
  · intro k hk e
    rw [g2] at e
    obtain rfl := Option.some.inj e
    rcases g3 with g3 | g3
    · exact h.ne g hk g3
    · have := (h.ao.1.lt g hk).2; omega
  · intro k k1 k2 k3 k4 k5
    exact hsame k (by omega) (fun e => by have := h.bw k e; omega) k3
/-- The row's last element is cut off. -/
theorem TS.popOwn (hE : ∀ x, (E.f x).length = E.s) (hL : L.Ok) (h : TS E ES w0 L wr vo vw ho ss (hd ++ [x]) os) :
    ∃ g c, vw = .slice (some ⟨g, 0, none⟩) (hd.length + 1) c ∧ hd.length + 1 ≤ c ∧ c ≤ maxLen ∧
      Hid (TS E ES w0 L (wr.setCell ⟨L.pw, 0, none⟩ (.slice (some ⟨g, 0, none⟩) hd.length c)) vo (.slice (some ⟨g, 0, none⟩) hd.length c) ho ss hd os ∧ Fix L wr (wr.setCell ⟨L.pw, 0, none⟩ (.slice (some ⟨g, 0, none⟩) hd.length c))) := by
  obtain ⟨g, c, rfl, h1, h2, h3⟩ := h.aw.1.pop hE
  have l1 := hL.w2; have l2 := hL.p2; have l3 := hL.o2; have l4 := hL.m2; have l5 := hL.pw_; have l6 := hL.wo0; have l7 := hL.wm0; have l8 := hL.po0; have l9 := hL.pm0; have l10 := hL.om; have l11 := hL.lw
  have hw0 : w0.heap.size ≤ L.pw := Nat.le_trans h.aw.2.2.1 l11
  have hb := h.bw g rfl
  have hsame : ∀ k, k ≠ L.pw → (wr.setCell ⟨L.pw, 0, none⟩ (.slice (some ⟨g, 0, none⟩) hd.length c)).heap[k]? = wr.heap[k]? := fun k k3 => Below.heap_setCell _ _ _ _ k3
  refine ⟨g, c, rfl, h1, h2, ⟨?_, ?_, ⟨h.ao.1.same fun k hk => hsame k (by have := h.bo k hk; omega), h.ao.2.1.setCell hw0 _, h.ao.2.2.1, by simpa using h.ao.2.2.2⟩, ⟨h3.same fun k hk => hsame k ?_, h.aw.2.1.setCell hw0 _, h.aw.2.2.1, by simpa using h.aw.2.2.2⟩, ?_, h.lh, by simpa using h.hs, h.bo, h.bw, h.ne⟩, fun k k1 k2 k3 k4 k5 => hsame k k3⟩
  · exact (hsame _ l5).trans h.co
  · exact (blk_setCell h.cw _).trans (by simp)
  · simp only [Value.ownBlock, Option.some.injEq] at hk; subst hk; omega
  · exact h.el.kept (by simp) fun k k1 k2 k3 => hsame k (by omega)
/-- A row is added to the list. -/
theorem TS.pushOut {p : Nat} {s : Sl} {y : List α} (hL : L.Ok) (h : TS E ES w0 L wr vo vw ho ss hd os) (hp : ho ≤ p) (hpw : p ≤ wr.heap.size) (hx : OwnF E wr p (slV s) y) (hvw : ∀ g, vw.ownBlock = some g → g < p) (hvo : ∀ g, vo.ownBlock = some g → g < p)
    (HA : Acc ES w0 L.lo w2 v' (ss ++ [s])) (HG : Grew wr w2 vo v') :
    TS E ES w0 L (w2.setCell ⟨L.po, 0, none⟩ v') v' vw w2.heap.size (ss ++ [s]) hd (os ++ [y]) ∧ Fix L wr (w2.setCell ⟨L.po, 0, none⟩ v') ∧ (∃ u, w2.heap[L.po]? = some (.cells #[u] ES.t (0, 0))) := by
  obtain ⟨g1, g, g2, g3, g4⟩ := HG
  have l1 := hL.w2; have l2 := hL.p2; have l3 := hL.o2; have l4 := hL.m2; have l5 := hL.pw_; have l6 := hL.wo0; have l7 := hL.wm0; have l8 := hL.po0; have l9 := hL.pm0; have l10 := hL.om; have l11 := hL.lp
  have hlo := Nat.le_trans h.lh h.hs
  have hsz := g1.size
  have hlh := h.lh
  have hsame : ∀ k, k < wr.heap.size → vo.ownBlock ≠ some k → k ≠ L.po → (w2.setCell ⟨L.po, 0, none⟩ v').heap[k]? = wr.heap[k]? := fun k k1 k2 k3 =>
    (Below.heap_setCell _ _ _ _ (by show k ≠ L.po; exact k3)).trans (g1.block k k1 (fun e => k2 e.symm))
  have hpo : w2.heap[L.po]? = some (.cells #[vo] ES.t (0, 0)) := (g1.block L.po (by omega) (fun e => by have := h.bo L.po e.symm; omega)).trans h.co
  have hgb : g = L.o0 ∨ L.lo2 ≤ g := by
    rcases g3 with g3 | g3
    · exact h.bo g g3
    · exact .inr (by omega)
  have hw0 : w0.heap.size ≤ L.po := Nat.le_trans h.ao.2.2.1 l11
  refine ⟨⟨?_, ?_, ⟨HA.1.same fun k hk => Below.heap_setCell _ _ _ _ ?_, HA.2.1.setCell hw0 _, HA.2.2.1, by simpa using HA.2.2.2⟩, ⟨h.aw.1.same fun k hk => ?_, HA.2.1.setCell hw0 _, h.aw.2.2.1, by simpa using HA.2.2.2⟩, ?_, by omega, by simp, ?_, h.bw, ?_⟩, ?_, ⟨_, hpo⟩⟩
  · exact (blk_setCell hpo _).trans (by simp)
  · exact (hsame L.pw (by omega) (fun e => by have := h.bo _ e; omega) (Ne.symm l5)).trans h.cw
  · rw [g2] at hk; obtain rfl := Option.some.inj hk; show g ≠ L.po; omega
  · exact hsame k ((h.aw.1.lt k hk).2) (fun e => h.ne k e hk) (by have := h.bw k hk; omega)
  · have e1 := (h.el.kept (w' := w2.setCell ⟨L.po, 0, none⟩ v') (by simpa using hsz) fun k k1 k2 k3 => hsame k (by have := h.hs; omega) (fun e => k3 (.inl e)) (by omega)).excl (O' := fun g => v'.ownBlock = some g ∨ vw.ownBlock = some g) fun k hk => ?_
    · refine e1.push (a := p) (b := wr.heap.size) ⟨hx.same fun k hk => ?_, fun k hk => (hx.lt k hk).2⟩ (by omega) hp (by simpa using hsz) (by simpa using Nat.le_trans h.hs hsz) fun k hk => ?_
      · have := hx.lt k hk
        exact hsame k this.2 (fun e => by have := hvo k e; omega) (by omega)
      · rcases hk with hk | hk
        · rw [g2] at hk
          obtain rfl := Option.some.inj hk
          rcases g3 with g3 | g3
          · exact .inl (hvo g g3)
          · exact .inr g3
        · exact .inl (hvw k hk)
    · rcases hk with hk | hk
      · rw [g2] at hk
        obtain rfl := Option.some.inj hk
        rcases g3 with g3 | g3
        · exact .inl (.inl g3)
        · exact .inr (.inl (by have := h.hs; omega))
      · exact .inl (.inr hk)
  · intro k hk; rw [g2] at hk; obtain rfl := Option.some.inj hk; exact hgb
  · intro k hk e
    rw [g2] at hk
    obtain rfl := Option.some.inj hk
    rcases g3 with g3 | g3
    · exact h.ne g g3 e
    · have := (h.aw.1.lt g e).2; omega
  · intro k k1 k2 k3 k4 k5
    exact hsame k (by omega) (fun e => by have := h.bo k e; omega) k2
/-- The list alone. -/
theorem TS.nrel (h : TS E ES w0 L wr vo vw ho ss hd os) : NRel (kdF E) ES w0 L.lo L.lo2 wr ho vo os := ⟨ss, h.ao, h.el.els fun g hg => .inl hg, h.hs⟩
end
def RetN {α : Type} (K : Kd α) (E : El Sl) (w : World) (xs : List α) (e : Ending) (w' : World) : Prop := ∃ v hi, e = .returned v ∧ NRel K E w w.heap.size w.heap.size w' hi v xs
end Go.Proofs.YtehnbalbpfmijaaGreatDoor

namespace Go.Proofs.YtehnbalbpfmijaaGreatDoor
open Go.RowKit

section
variable {α : Type} {E : El α} {P : Program}
theorem flat_back (h : ∀ x, (E.f x).length = E.s) (hs : 0 < E.s) (xs : List α) (k : Nat) (u : Value) (hu : (xs.flatMap E.f)[k]? = some u) : ∃ x, xs[k / E.s]? = some x ∧ (E.f x)[k % E.s]? = some u := by
  have hk : k < xs.length * E.s := by rw [← flat_length h]; exact (List.getElem?_eq_some_iff.1 hu).1
  have h1 : k / E.s < xs.length := (Nat.div_lt_iff_lt_mul hs).2 hk
  refine ⟨xs[k / E.s], List.getElem?_eq_getElem h1, ?_⟩
  have h2 := flat_get h xs (k / E.s) (k % E.s) _ (List.getElem?_eq_getElem h1) (Nat.mod_lt _ hs)
  rw [Nat.mul_comm, Nat.div_add_mod] at h2
  rw [← h2]; exact hu
theorem run_append_srcF (hE : E.Ok P) (w : World) (lo : Nat) (ty : TypeId) {v u : Value} {xs ys : List α} {B : Nat} (hown : OwnF E w lo v xs) (hu : RdF E w B u ys) (hl : xs.length + ys.length ≤ 1073741824) (hbase : lo ≤ w.heap.size) :
    ∃ v' w', (Builtin.append_ #[E.t, E.t] ty #[v, u]).run P w = .ok v' w' ∧ OwnF E w' lo v' (xs ++ ys) ∧ w.grownBy w' v.ownBlock ∧ (v'.ownBlock = v.ownBlock ∨ v'.ownBlock = some w.heap.size) := by
  obtain ⟨i, hi, hzz⟩ := Option.map_eq_some_iff.1 hE.info
  simp only [Prod.mk.injEq] at hzz
  obtain ⟨hz, hsz, hby⟩ := hzz
  obtain ⟨A, c, rfl, _, _, hr⟩ := hu
  have hgo : ∀ ad, (∀ j u, (ys.flatMap E.f)[j]? = some u → w.cell? (ad.add j) = some u) → ∃ v' w', (Builtin.append_ #[E.t, E.t] ty #[v, .slice (some ad) ys.length c]).run P w = .ok v' w' ∧ OwnF E w' lo v' (xs ++ ys) ∧ w.grownBy w' v.ownBlock ∧ (v'.ownBlock = v.ownBlock ∨ v'.ownBlock = some w.heap.size) := fun ad hcells => by
    have h5 := hE.few
    have h6 : (xs.length + ys.length) * E.b ≤ 1073741824 * 1024 := Nat.mul_le_mul hl h5
    obtain ⟨v', w', hrun, h2, h3, _, h5⟩ := run_append_own_at (P := P) w lo E.t ty E.e i E.z E.s E.b hE.und hi hz hsz hby hE.zs hE.pos v xs.length (xs.flatMap E.f) hown ad ys.length c (ys.flatMap E.f) (flat_length hE.len ys) hcells (fun u hu => by
      obtain ⟨y, _, hy⟩ := List.mem_flatMap.1 hu
      exact hE.one y u hy) (by unfold maxLen; omega) (by omega) hbase
    refine ⟨v', w', hrun, ?_, h3, h5⟩
    unfold OwnF; rw [List.length_append, List.flatMap_append]; exact h2
  cases ys with
  | nil =>
    cases A with
    | none => exact ⟨v, w, run_append_nilsrc w lo E.t ty E.e i E.s hE.und hi v xs.length _ hown c, by simpa using hown, World.grownBy.refl w _, .inl rfl⟩
    | some ad => exact hgo ad (fun j u hu => by simp at hu)
  | cons y ys =>
    obtain ⟨ad, rfl, _, _⟩ := hr 0 y rfl
    refine hgo ad fun j u hu => ?_
    obtain ⟨x, h1, h2⟩ := flat_back hE.len hE.pos (y :: ys) j u hu
    obtain ⟨ad', e, _, h3⟩ := hr _ x h1
    obtain rfl := Option.some.inj e
    have := h3 _ u h2
    rwa [Nat.mul_comm, Nat.div_add_mod] at this
def GrewS (wr w' : World) (v v' : Value) : Prop := wr.grownBy w' v.ownBlock ∧ (v'.ownBlock = v.ownBlock ∨ v'.ownBlock = some wr.heap.size)
theorem acc_src {w wr w' : World} {lo : Nat} {v v' : Value} {xs zs : List α} (H : Acc E w lo wr v xs) (h2 : OwnF E w' lo v' zs) (h3 : wr.grownBy w' v.ownBlock) : Acc E w lo w' v' zs := by
  obtain ⟨h1, h4, h5, h6⟩ := H
  exact ⟨h2, h4.grown h3 h4.size fun k hk => by have := (h1.lt k hk).1; omega, h5, by have := h3.size; omega⟩
theorem wpList_pushSrcF (hE : E.Ok P) {ops : Array Oper} {rest : List Oper} {o : Oper} {a : Act} {Q : Exit → Act → World → Prop} (hgd : o.guard = none) (s x : Operand)
    (ho : o.op = .call { callee := .builtin .append, args := #[s, x], argTypes := #[E.t, E.t] }) {w wr : World} {lo : Nat} {v : Value} {xs : List α} (H : Acc E w lo wr v xs) (hs : a.eval s = v)
    (ys : List α) (B : Nat) (u : Value) (hr : RdF E wr B u ys) (hx : a.eval x = u) (hl : xs.length + ys.length ≤ 1073741824)
    (h : ∀ v' w', Hid (Acc E w lo w' v' (xs ++ ys)) → Hid (GrewS wr w' v v') → wpList P ops Q rest (a.put o.dst v') w') :
    wpList P ops Q (o :: rest) a wr := by
  refine wpList_plain hgd fun K hK => ?_
  obtain ⟨v', w', hrun, h2, h3, h4⟩ := run_append_srcF hE wr lo o.type H.1 hr hl H.2.2.2
  unfold Oper.wp execOp
  simp only [ho, resolve, invoke, builtin, Sem.run_bind, Sem.run_pure, Result.andThen_ok, List.map_toArray, List.map_cons, List.map_nil, hs, hx, hrun]
  exact hK _ _ (h v' w' (acc_src H h2 h3) ⟨h3, h4⟩)
theorem step_pushSrcF (hE : E.Ok P) {ops : Array Oper} {o : Oper} {a : Act} {K : Act → World → Prop} {Q : Exit → Act → World → Prop} {X : Prop} (hgd : o.guard = none) (s x : Operand)
    (ho : o.op = .call { callee := .builtin .append, args := #[s, x], argTypes := #[E.t, E.t] }) {w wr : World} {lo : Nat} {v : Value} {xs : List α} (H : Acc E w lo wr v xs) (hs : a.eval s = v)
    (ys : List α) (B : Nat) (u : Value) (hr : RdF E wr B u ys) (hx : a.eval x = u) (hl : xs.length + ys.length ≤ 1073741824)
    (h : ∀ v' w', Hid (Acc E w lo w' v' (xs ++ ys)) → Hid (GrewS wr w' v v') → K (a.put o.dst v') w') :
    if Region.wanted o (yielded ops a.tmps) = true then Oper.wp P o a wr K Q else X := by
  have hw : Region.wanted o (yielded ops a.tmps) = true := by unfold Region.wanted; rw [hgd]
  rw [if_pos hw]
  obtain ⟨v', w', hrun, h2, h3, h4⟩ := run_append_srcF hE wr lo o.type H.1 hr hl H.2.2.2
  unfold Oper.wp execOp
  simp only [ho, resolve, invoke, builtin, Sem.run_bind, Sem.run_pure, Result.andThen_ok, List.map_toArray, List.map_cons, List.map_nil, hs, hx, hrun]
  exact h v' w' (acc_src H h2 h3) ⟨h3, h4⟩
end
end Go.Proofs.YtehnbalbpfmijaaGreatDoor

namespace Go.Proofs.YtehnbalbpfmijaaGreatDoor
open Go.RowKit
set_option linter.unusedVariables false

theorem infoDomRow : (Tryz.prog.info? 24).map (fun i => (i.zero, i.size, i.bytes)) = some (some (.slice none 0 0), 1, 24) := by kernel_rfl
abbrev eDD : El Sl := elSl 24 47
theorem okDD : eDD.Ok Tryz.prog := okSl Tryz.underlying47 infoDomRow

/-- All tilings of s that continue hd, behind a list. -/
def lstE : Nat → Nat → List Lk → List (List Lk) → List (List Lk)
  | 0, _, _, x => x
  | d + 1, s, hd, x =>
    if s = 0 then x ++ [hd]
    else
      let x1 := if fitB s (dOf (fstN s) false) then lstE d (minN s (dM (dOf (fstN s) false))) (hd ++ [dOf (fstN s) false]) x else x
      if fitB s (dOf (fstN s) true) then lstE d (minN s (dM (dOf (fstN s) true))) (hd ++ [dOf (fstN s) true]) x1 else x1
theorem lstE_le : ∀ (d s : Nat) (hd : List Lk) (x : List (List Lk)), x.length ≤ (lstE d s hd x).length
  | 0, _, _, _ => Nat.le_refl _
  | d + 1, s, hd, x => by
    rw [lstE]
    split
    · simp
    · have h1 := lstE_le d (minN s (dM (dOf (fstN s) false))) (hd ++ [dOf (fstN s) false]) x
      dsimp only
      split
      · refine Nat.le_trans ?_ (lstE_le d _ _ _)
        split
        · exact h1
        · exact Nat.le_refl _
      · split
        · exact h1
        · exact Nat.le_refl _

abbrev cbL (n0 : Nat) : Value := .func (.func 41) #[] #[.pointer (some ⟨n0, 0, none⟩)]
def llay (n0 o0 lo n : Nat) : TLay := ⟨n0, n + 2, o0, n + 1, lo, n + 4⟩
/-- Where things lie. -/
structure LPl (n0 o0 lo n : Nat) : Prop where
  a : lo ≤ n0
  b : lo ≤ o0
  c : n0 < n
  d : o0 < n
  e : n0 ≠ o0
theorem LPl.ok {n0 o0 lo n : Nat} (h : LPl n0 o0 lo n) : (llay n0 o0 lo n).Ok := by
  obtain ⟨a, b, c, d, e⟩ := h
  constructor <;> simp only [llay] <;> omega
structure CL (w0 wr : World) (n0 o0 lo n : Nat) (os : List (List Lk)) (vo vw : Value) (hd : List Lk) : Prop where
  pl : LPl n0 o0 lo n
  cc : wr.heap[n]? = some (.cells #[cbL n0] 71 (0, 0))
  cr : wr.heap[n + 3]? = some (.cells #[reV n] 96 (0, 0))
  ts : ∃ ho ss, TS elDomino eDD w0 (llay n0 o0 lo n) wr vo vw ho ss hd os

/-- How the closure leaves the rest. -/
structure EFL (n0 n : Nat) (wr w' : World) (vo vw vo' vw' : Value) : Prop where
  k : ∀ k, k < wr.heap.size → k ≠ n0 → k ≠ n + 2 → vo.ownBlock ≠ some k → vw.ownBlock ≠ some k → w'.heap[k]? = wr.heap[k]?
  o : ∀ g, vo'.ownBlock = some g → vo.ownBlock = some g ∨ wr.heap.size ≤ g
  w : ∀ g, vw'.ownBlock = some g → vw.ownBlock = some g ∨ wr.heap.size ≤ g
  s : wr.heap.size ≤ w'.heap.size
section
variable {w0 wr w1 w2 : World} {n0 o0 lo n : Nat} {os : List (List Lk)} {vo vo1 vo2 vw vw1 vw2 v' : Value} {hd : List Lk} {y : Lk}
theorem EFL.refl : EFL n0 n wr wr vo vw vo vw := ⟨fun _ _ _ _ _ _ => rfl, fun _ h => .inl h, fun _ h => .inl h, Nat.le_refl _⟩
theorem EFL.trans (h : EFL n0 n wr w1 vo vw vo1 vw1) (h' : EFL n0 n w1 w2 vo1 vw1 vo2 vw2) : EFL n0 n wr w2 vo vw vo2 vw2 := by
  obtain ⟨a1, a2, a3, a4⟩ := h
  obtain ⟨b1, b2, b3, b4⟩ := h'
  refine ⟨fun k k1 k2 k3 k4 k5 => (b1 k (by omega) k2 k3 (fun e => ?_) (fun e => ?_)).trans (a1 k k1 k2 k3 k4 k5), fun g hg => ?_, fun g hg => ?_, by omega⟩
  · rcases a2 k e with e | e
    · exact k4 e
    · omega
  · rcases a3 k e with e | e
    · exact k5 e
    · omega
  · rcases b2 g hg with e | e
    · exact a2 g e
    · exact .inr (by omega)
  · rcases b3 g hg with e | e
    · exact a3 g e
    · exact .inr (by omega)
theorem EFL.below (h : Below wr.heap.size wr w1) : EFL n0 n wr w1 vo vw vo vw := ⟨fun k k1 _ _ _ _ => h.block k k1, fun _ h => .inl h, fun _ h => .inl h, h.size⟩
theorem EFL.cellw (u : Value) (hv : vw1.ownBlock = vw.ownBlock) : EFL n0 n wr (wr.setCell ⟨n + 2, 0, none⟩ u) vo vw vo vw1 :=
  ⟨fun k _ _ k3 _ _ => Below.heap_setCell _ _ _ _ (by show k ≠ n + 2; exact k3), fun _ h => .inl h, fun g hg => .inl (by rw [← hv]; exact hg), by simp⟩
theorem EFL.grewW (u : Value) (h : Grew wr w2 vw v') : EFL n0 n wr (w2.setCell ⟨n + 2, 0, none⟩ u) vo vw vo v' := by
  obtain ⟨g1, g, g2, g3, g4⟩ := h
  refine ⟨fun k k1 k2 k3 k4 k5 => (Below.heap_setCell _ _ _ _ (by show k ≠ n + 2; exact k3)).trans (g1.block k k1 fun e => k5 e.symm), fun _ h => .inl h, fun g' hg => ?_, by simpa using g1.size⟩
  rw [g2] at hg
  obtain rfl := Option.some.inj hg
  exact g3
theorem EFL.grewO (u : Value) (h : Grew wr w2 vo v') : EFL n0 n wr (w2.setCell ⟨n0, 0, none⟩ u) vo vw v' vw := by
  obtain ⟨g1, g, g2, g3, g4⟩ := h
  refine ⟨fun k k1 k2 k3 k4 k5 => (Below.heap_setCell _ _ _ _ (by show k ≠ n0; exact k2)).trans (g1.block k k1 fun e => k4 e.symm), fun g' hg => ?_, fun _ h => .inl h, by simpa using g1.size⟩
  rw [g2] at hg
  obtain rfl := Option.some.inj hg
  exact g3
theorem CL.env (h : CL w0 wr n0 o0 lo n os vo vw hd) (hf : EFL n0 n wr w1 vo vw vo1 vw1) : w1.heap[n]? = some (.cells #[cbL n0] 71 (0, 0)) ∧ w1.heap[n + 3]? = some (.cells #[reV n] 96 (0, 0)) := by
  obtain ⟨⟨a, b, c, d, e⟩, h1, h2, ho, ss, h3⟩ := h
  have hbo := h3.bo
  have hbw := h3.bw
  simp only [llay] at hbo hbw
  exact ⟨(hf.k _ (lt_of_block h1) (by omega) (by omega) (fun q => by have := hbo _ q; omega) (fun q => by have := hbw _ q; omega)).trans h1,
    (hf.k _ (lt_of_block h2) (by omega) (by omega) (fun q => by have := hbo _ q; omega) (fun q => by have := hbw _ q; omega)).trans h2⟩
theorem CL.below (h : CL w0 wr n0 o0 lo n os vo vw hd) (hb : Below wr.heap.size wr w1) : CL w0 w1 n0 o0 lo n os vo vw hd := by
  obtain ⟨ho, ss, h3⟩ := h.ts
  exact ⟨h.pl, (h.env (EFL.below hb)).1, (h.env (EFL.below hb)).2, ho, ss, h3.below hb⟩
theorem CL.big (h : CL w0 wr n0 o0 lo n os vo vw hd) : Below w0.heap.size w0 wr := by obtain ⟨ho, ss, h3⟩ := h.ts; exact h3.big
theorem CL.aw (h : CL w0 wr n0 o0 lo n os vo vw hd) : Acc elDomino w0 lo wr vw hd := by obtain ⟨ho, ss, h3⟩ := h.ts; exact h3.aw
theorem CL.cw (h : CL w0 wr n0 o0 lo n os vo vw hd) : wr.heap[n + 2]? = some (.cells #[vw] 24 (0, 0)) := by obtain ⟨ho, ss, h3⟩ := h.ts; exact h3.cw
theorem CL.bw (h : CL w0 wr n0 o0 lo n os vo vw hd) : ∀ g, vw.ownBlock = some g → g = n + 1 ∨ n + 4 ≤ g := by obtain ⟨ho, ss, h3⟩ := h.ts; exact h3.bw
theorem CL.bo (h : CL w0 wr n0 o0 lo n os vo vw hd) : ∀ g, vo.ownBlock = some g → g = o0 ∨ n + 4 ≤ g := by obtain ⟨ho, ss, h3⟩ := h.ts; exact h3.bo
theorem CL.lto (h : CL w0 wr n0 o0 lo n os vo vw hd) : ∀ g, vo.ownBlock = some g → g < wr.heap.size := by obtain ⟨ho, ss, h3⟩ := h.ts; exact fun g hg => (h3.ao.1.lt g hg).2
theorem CL.push (h : CL w0 wr n0 o0 lo n os vo vw hd) (HA : Acc elDomino w0 lo w2 v' (hd ++ [y])) (HG : Grew wr w2 vw v') :
    CL w0 (w2.setCell ⟨n + 2, 0, none⟩ v') n0 o0 lo n os vo v' (hd ++ [y]) ∧ (∃ u, w2.heap[n + 2]? = some (.cells #[u] 24 (0, 0))) := by
  obtain ⟨ho, ss, h3⟩ := h.ts
  obtain ⟨p1, _, p3⟩ := h3.pushOwn h.pl.ok HA HG
  obtain ⟨e1, e2⟩ := h.env (EFL.grewW (n0 := n0) (n := n) (vo := vo) v' HG)
  exact ⟨⟨h.pl, e1, e2, ho, ss, p1⟩, p3⟩
theorem CL.pop (h : CL w0 wr n0 o0 lo n os vo vw (hd ++ [y])) :
    ∃ g c, vw = .slice (some ⟨g, 0, none⟩) (hd.length + 1) c ∧ hd.length + 1 ≤ c ∧ c ≤ maxLen ∧ Hid (CL w0 (wr.setCell ⟨n + 2, 0, none⟩ (.slice (some ⟨g, 0, none⟩) hd.length c)) n0 o0 lo n os vo (.slice (some ⟨g, 0, none⟩) hd.length c) hd) := by
  obtain ⟨ho, ss, h3⟩ := h.ts
  obtain ⟨g, c, rfl, h1, h2, p1, _⟩ := h3.popOwn (fun _ => rfl) h.pl.ok
  obtain ⟨e1, e2⟩ := h.env (EFL.cellw (n0 := n0) (n := n) (vo := vo) (.slice (some ⟨g, 0, none⟩) hd.length c) (vw1 := .slice (some ⟨g, 0, none⟩) hd.length c) rfl)
  exact ⟨g, c, rfl, h1, h2, h.pl, e1, e2, ho, ss, p1⟩
end

set_option maxRecDepth 100000 in
set_option maxHeartbeats 4000000 in
theorem copyDominoes_any (v : Value) (ls : List Lk) (B : Nat) (w : World) (h : RdF elDomino w B v ls) (hB : B ≤ w.heap.size) (hl : ls.length ≤ 1048576) :
    Calls Tryz.prog 42 #[v] w fun e w' => ∃ u, e = .returned u ∧ OwnF elDomino w' w.heap.size u ls ∧ Below w.heap.size w w' := by
  have HR := Lib.hid h
  obtain ⟨A, c, rfl, q1, q2, _⟩ := id h
  unfold maxLen at q2
  have HACC : Hid (Acc elDomino w w.heap.size (w.alloc (.cells #[] 51)) (.slice (some ⟨w.heap.size, 0, none⟩) 0 0) []) := Acc.start w
  have HRA : Hid (RdF elDomino (w.alloc (.cells #[] 51)) B (.slice A ls.length c) ls) := h.below (((Below.refl _ _).alloc (Nat.le_refl _) _).mono hB)
  clear h
  go_enter Tryz.func42, Tryz.ntmps42
  go_wp2_with (at_builtin; refine wpList_pushSrcF okDomino rfl _ _ rfl HACC.out rfl ls _ _ HRA.out rfl (by simp; omega) ?_; intro u1 w1 HA1 HG1; rw [List.nil_append] at HA1; have HO1 := Lib.hid HA1.out.1; have HB1 := Lib.hid HA1.out.2.1; obtain ⟨A2, k2, hu2, _⟩ := HA1.out.1.rd okDomino; subst hu2)
  go_ret
  exact ⟨_, rfl, HO1.out, HB1.out⟩

/-- The callback adds a copy. -/
def BPostL (w0 wr : World) (n0 o0 lo n : Nat) (os : List (List Lk)) (vo vw : Value) (hd : List Lk) (e : Ending) (w' : World) : Prop := e = .returned (.tuple #[]) ∧ ∃ vo', CL w0 w' n0 o0 lo n (os ++ [hd]) vo' vw hd ∧ EFL n0 n wr w' vo vw vo' vw
set_option maxRecDepth 100000 in
set_option maxHeartbeats 4000000 in
theorem backl_any (w0 : World) (n0 o0 lo n : Nat) (os : List (List Lk)) (vo vw : Value) (hd : List Lk) (wr : World) (h : CL w0 wr n0 o0 lo n os vo vw hd) (hos : os.length ≤ 1000000) (hl : hd.length ≤ 1000) :
    Calls Tryz.prog 41 #[vw, .pointer (some ⟨n0, 0, none⟩)] wr (BPostL w0 wr n0 o0 lo n os vo vw hd) := by
  have H := Lib.hid h
  obtain ⟨pl, hcc, hcr, ho, ss, hT⟩ := h
  have HPL := Lib.hid pl
  have HT := Lib.hid hT
  obtain ⟨Ao, co, rfl, r1, r2⟩ := hT.leno okDD
  unfold maxLen at r2
  have c0 : wr.cell? ⟨n0, 0, none⟩ = some (.slice Ao ss.length co) := hT.cello
  have HS0 : Hid (n + 4 ≤ wr.heap.size) := Nat.le_trans hT.lh hT.hs
  have HSS : Hid (ss.length = os.length) := hT.el.1
  have hbd : Below wr.heap.size wr wr.drew := (Below.refl _ _).drew
  have HRD := Lib.hid ((hT.aw.1.rd okDomino).below hbd)
  have HCD := Lib.hid (copyDominoes_any _ hd _ _ HRD.out (Nat.le_refl _) (by omega))
  have HBD := Lib.hid hbd
  clear hT hcc hcr pl hbd
  go_enter Tryz.func41, Tryz.ntmps41
  go_region_law (first
    | (go_simp; go_at_call 42; refine HCD.out.mono ?_; rintro e w2 ⟨u2, rfl, ho2, hb2⟩; obtain ⟨A2, k2, hu2, _⟩ := ho2.rd okDomino; subst hu2; have HO2 := Lib.hid ho2; have HB2 := Lib.hid (HBD.out.trans hb2); have HT2 := Lib.hid (HT.out.below HB2.out); have f1 : w2.cell? ⟨n0, 0, none⟩ = some (.slice Ao ss.length co) := HT2.out.cello; have f3 : (w2.alloc (.cells #[.slice A2 hd.length k2] 24)).cell? ⟨n0, 0, none⟩ = some (.slice Ao ss.length co) := ((((Below.refl w2.heap.size w2).alloc (Nat.le_refl _) _).cell (p := ⟨n0, 0, none⟩) (by have h1 := HS0.out; have h2 := HB2.out.size; have h3 := HPL.out.c; show n0 < _; omega)).trans f1); clear ho2 hb2)
    | (refine step_push okDD (by rfl) _ _ (by rfl) HT2.out.ao (by rfl) (A2, hd.length, k2) _ (by rfl) _ (by rfl) (by rfl) (by have h1 := HSS.out; omega) ?_; intro v3 w3 HA3 HG3; obtain ⟨A3, k3, hv3, _⟩ := HA3.out.1.rd okDD; rw [show (ss ++ [((A2, hd.length, k2) : Sl)]).length = ss.length + 1 by simp] at hv3; subst hv3; have HP3 := Lib.hid (HT2.out.pushOut HPL.out.ok (p := wr.heap.size) (s := (A2, hd.length, k2)) (y := hd) HT.out.hs HB2.out.size HO2.out (fun g hg => (HT.out.aw.1.lt g hg).2) (fun g hg => (HT.out.ao.1.lt g hg).2) HA3.out HG3.out); have HE3 := Lib.hid (EFL.grewO (n0 := n0) (n := n) (vw := vw) (.slice A3 (ss.length + 1) k3) HG3.out); obtain ⟨u9, hk9⟩ := HP3.out.2.2; have hk9 : w3.heap[n0]? = some (.cells #[u9] 47 (0, 0)) := hk9; have ck := cell_of_one hk9; have fk := free_of_one hk9; clear hk9))
  all_goals
    go_wp2_with fail
    go_end0
    refine ⟨rfl, .slice A3 (ss.length + 1) k3, ?_, (EFL.below HB2.out).trans HE3.out⟩
    obtain ⟨e1, e2⟩ := H.out.env ((EFL.below HB2.out).trans HE3.out)
    exact ⟨HPL.out, e1, e2, _, _, HP3.out.1⟩

def EPostL (w0 wr : World) (n0 o0 lo n : Nat) (os : List (List Lk)) (vo vw : Value) (hd : List Lk) (e : Ending) (w' : World) : Prop := e = .returned (.tuple #[]) ∧ ∃ vo' vw', CL w0 w' n0 o0 lo n os vo' vw' hd ∧ EFL n0 n wr w' vo vw vo' vw'
/-- One call of each's closure. -/
def EachAtL (w0 : World) (n0 o0 lo n d s : Nat) (hd : List Lk) : Prop := ∀ (wr : World) (x : List (List Lk)) (vo vw : Value), CL w0 wr n0 o0 lo n x vo vw hd → (lstE d s hd x).length ≤ 1000000 →
  Calls Tryz.prog 69 #[.int .u64 (s : Int), .pointer (some ⟨n, 0, none⟩), .pointer (some ⟨n + 2, 0, none⟩), .pointer (some ⟨n + 3, 0, none⟩)] wr
    (EPostL w0 wr n0 o0 lo n (lstE d s hd x) vo vw hd)
theorem eachl_end (w0 : World) (n0 o0 lo n d : Nat) (hd : List Lk) (hl : hd.length ≤ 1000) : EachAtL w0 n0 o0 lo n (d + 1) 0 hd := by
  intro wr x vo vw h hO
  have hx := lstE_le (d + 1) 0 hd x
  have HC : Hid (lstE (d + 1) 0 hd x = x ++ [hd]) := by unfold Hid; rw [lstE, if_pos rfl]
  rw [HC.out]
  clear HC
  have HK := Lib.hid (backl_any w0 n0 o0 lo n x vo vw hd wr h (by omega) hl)
  have c0 : wr.cell? ⟨n, 0, none⟩ = some (cbL n0) := cell_of_one h.cc
  have c1 : wr.cell? ⟨n + 2, 0, none⟩ = some vw := cell_of_one h.cw
  obtain ⟨A, c, rfl, _, _, _⟩ := h.aw.1.rd okDomino
  clear h hO hx hl
  go_enter Tryz.func69, Tryz.ntmps69
  go_wp2_with fail
  refine HK.out.mono ?_
  rintro e w1 ⟨rfl, vo1, h1, h2⟩
  have H1 := Lib.hid h1
  have H2 := Lib.hid h2
  clear h1 h2
  go_wp2_with fail
  go_end0
  exact ⟨rfl, _, _, H1.out, H2.out⟩
end Go.Proofs.YtehnbalbpfmijaaGreatDoor
