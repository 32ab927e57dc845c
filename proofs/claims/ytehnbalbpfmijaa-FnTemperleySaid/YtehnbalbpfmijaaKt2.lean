/- What the claim's walk rests on: parts Flat, IntS, Duo, Tri, Dom, TriDomino, Covered. -/
import Derived.Test.YtehnbalbpfmijaaKt1
import Derived.Laws.MakeOwn
import Derived.IntWalk
import Derived.StillTailTactics
import Derived.Deep.RegionHeld3
import Derived.Deep.RegionLaw
import Derived.Deep.QuietTactic
import Derived.BigQuiet
namespace Go.Proofs.Ytehnbalbpfmijaa
open Go.RowKit

/-- A kind of element: its type, the slice's type, cells, bytes, zero, and the cells of one. -/
structure El (α : Type) where
  e : TypeId
  t : TypeId
  s : Nat
  b : Nat
  z : Value
  f : α → List Value
structure El.Ok {α : Type} (E : El α) (P : Program) : Prop where
  und : P.underlying E.t = some (.slice E.e)
  info : (P.info? E.e).map (fun i => (i.zero, i.size, i.bytes)) = some (some E.z, E.s, E.b)
  zs : E.z.cells.size = E.s
  pos : 0 < E.s
  few : E.b ≤ 1024
  len : ∀ x, (E.f x).length = E.s
  one : ∀ x, ∀ u ∈ E.f x, u.oneCell' = true

section
variable {α : Type} {E : El α} {P : Program}
theorem flat_length (h : ∀ x, (E.f x).length = E.s) : ∀ xs : List α, (xs.flatMap E.f).length = xs.length * E.s
  | [] => by simp
  | x :: xs => by rw [List.flatMap_cons, List.length_append, flat_length h xs, h, List.length_cons, Nat.succ_mul]; omega
theorem flat_get (h : ∀ x, (E.f x).length = E.s) : ∀ (xs : List α) (j i : Nat) (x : α), xs[j]? = some x → i < E.s → (xs.flatMap E.f)[j * E.s + i]? = (E.f x)[i]?
  | [], j, i, x, hx, _ => by simp at hx
  | y :: ys, 0, i, x, hx, hi => by
    simp only [List.getElem?_cons_zero, Option.some.injEq] at hx
    subst hx
    rw [List.flatMap_cons, Nat.zero_mul, Nat.zero_add, List.getElem?_append_left (by rw [h]; exact hi)]
  | y :: ys, j + 1, i, x, hx, hi => by
    rw [List.getElem?_cons_succ] at hx
    rw [List.flatMap_cons, List.getElem?_append_right (by rw [h, Nat.succ_mul]; omega), h, show (j + 1) * E.s + i - E.s = j * E.s + i by rw [Nat.succ_mul]; omega]
    exact flat_get h ys j i x hx hi
theorem flat_set (h : ∀ x, (E.f x).length = E.s) : ∀ (xs : List α) (j i : Nat) (x x' : α) (u : Value), xs[j]? = some x → i < E.s → E.f x' = (E.f x).set i u → (xs.set j x').flatMap E.f = (xs.flatMap E.f).set (j * E.s + i) u
  | [], j, i, x, x', u, hx, _, _ => by simp at hx
  | y :: ys, 0, i, x, x', u, hx, hi, he => by
    simp only [List.getElem?_cons_zero, Option.some.injEq] at hx
    subst hx
    rw [List.set_cons_zero, List.flatMap_cons, List.flatMap_cons, he, Nat.zero_mul, Nat.zero_add, List.set_append_left _ _ (by rw [h]; exact hi)]
  | y :: ys, j + 1, i, x, x', u, hx, hi, he => by
    rw [List.getElem?_cons_succ] at hx
    rw [List.set_cons_succ, List.flatMap_cons, List.flatMap_cons, List.set_append_right _ _ (by rw [h, Nat.succ_mul]; omega), h, show (j + 1) * E.s + i - E.s = j * E.s + i by rw [Nat.succ_mul]; omega,
      flat_set h ys j i x x' u hx hi he]

/-- v reads as the elements xs, below block B. -/
def RdF (E : El α) (w : World) (B : Nat) (v : Value) (xs : List α) : Prop :=
  ∃ A c, v = .slice A xs.length c ∧ xs.length ≤ c ∧ c ≤ maxLen ∧ ∀ j x, xs[j]? = some x → ∃ ad, A = some ad ∧ ad.block < B ∧ ∀ i u, (E.f x)[i]? = some u → w.cell? (ad.add (j * E.s + i)) = some u
theorem RdF.keep {w w' : World} {B : Nat} {v : Value} {xs : List α} (h : RdF E w B v xs) (hk : ∀ p : Addr, p.block < B → w'.cell? p = w.cell? p) : RdF E w' B v xs := by
  obtain ⟨A, c, e, h1, h2, h3⟩ := h
  refine ⟨A, c, e, h1, h2, fun j x hx => ?_⟩
  obtain ⟨ad, e2, hb, hc⟩ := h3 j x hx
  exact ⟨ad, e2, hb, fun i u hu => (hk _ (by rw [addBlock]; exact hb)).trans (hc i u hu)⟩
theorem RdF.below {w w' : World} {B : Nat} {v : Value} {xs : List α} (h : RdF E w B v xs) (hb : Below B w w') : RdF E w' B v xs := h.keep fun _ hp => hb.cell hp
theorem RdF.more {w : World} {B B' : Nat} {v : Value} {xs : List α} (h : RdF E w B v xs) (hB : B ≤ B') : RdF E w B' v xs := by
  obtain ⟨A, c, e, h1, h2, h3⟩ := h
  refine ⟨A, c, e, h1, h2, fun j x hx => ?_⟩
  obtain ⟨ad, e2, hb, hc⟩ := h3 j x hx
  exact ⟨ad, e2, by omega, hc⟩

/-- v owns a row of the elements xs in a block from lo on. -/
def OwnF (E : El α) (w : World) (lo : Nat) (v : Value) (xs : List α) : Prop := w.ownsRow lo E.e E.s v xs.length (xs.flatMap E.f)
section
variable {w w' : World} {lo lo' : Nat} {v : Value} {xs : List α}
theorem OwnF.lt (h : OwnF E w lo v xs) : ∀ k, v.ownBlock = some k → lo ≤ k ∧ k < w.heap.size := World.ownsRow.lt h
theorem OwnF.kept {row : Option Nat} (h : OwnF E w lo v xs) (hg : w.grownBy w' row) (hne : ∀ k, v.ownBlock = some k → some k = row → False) : OwnF E w' lo v xs :=
  World.ownsRow.kept h hg (by
    cases e : v.ownBlock
    · exact .inl rfl
    · exact .inr (fun e2 => hne _ e e2))
theorem OwnF.below (h : OwnF E w lo v xs) (hb : Below w.heap.size w w') : OwnF E w' lo v xs :=
  h.kept (row := none) ⟨hb.os, hb.tape, hb.output, hb.size, fun k hk _ => hb.block k hk⟩ fun _ _ e => by simp at e
theorem OwnF.mono (h : OwnF E w lo v xs) (hl : lo' ≤ lo) : OwnF E w lo' v xs := by
  refine ⟨h.1, ?_⟩
  rcases h.2 with h2 | ⟨g, cap, cur, e, hb, r⟩
  · exact .inl h2
  · exact .inr ⟨g, cap, cur, e, by omega, r⟩
theorem OwnF.rd (hE : E.Ok P) (h : OwnF E w lo v xs) : RdF E w w.heap.size v xs := by
  rcases h.2 with ⟨rfl, h0⟩ | ⟨g, cap, cur, rfl, hb, hh, hn, hm, hs, ht⟩
  · have : xs = [] := List.eq_nil_of_length_eq_zero h0
    subst this
    exact ⟨none, 0, rfl, Nat.le_refl _, Nat.zero_le _, fun j x hx => by simp at hx⟩
  · refine ⟨some ⟨g, 0, none⟩, cap, rfl, hn, hm, fun j x hx => ⟨_, rfl, (World.ownsRow.lt h g rfl).2, fun i u hu => ?_⟩⟩
    refine World.ownsRow.cells h rfl _ _ ?_
    have hi : i < E.s := by have := (List.getElem?_eq_some_iff.1 hu).1; rw [hE.len] at this; exact this
    rw [flat_get hE.len xs j i x hx hi]; exact hu
theorem OwnF.nil : OwnF E w lo (.slice none 0 0) ([] : List α) := by simpa [OwnF] using World.ownsRow_nil w lo E.e E.s
theorem OwnF.empty (hlo : lo ≤ w.heap.size) : OwnF E (w.alloc (.cells #[] E.e)) lo (.slice (some ⟨w.heap.size, 0, none⟩) 0 0) ([] : List α) := by
  simpa [OwnF] using World.ownsRow_lit (base := lo) (e := E.e) (size := E.s) w #[] 0 hlo (by simp [maxLen]) (by simp)
/-- One cell of one element is written. -/
theorem OwnF.store (hE : E.Ok P) {g cap : Nat} {x x' : α} {j i : Nat} {u : Value} (h : OwnF E w lo (.slice (some ⟨g, 0, none⟩) xs.length cap) xs) (hx : xs[j]? = some x) (hi : i < E.s) (he : E.f x' = (E.f x).set i u) :
    OwnF E (w.setCell ⟨g, j * E.s + i, none⟩ u) lo (.slice (some ⟨g, 0, none⟩) (xs.set j x').length cap) (xs.set j x') ∧ w.grownBy (w.setCell ⟨g, j * E.s + i, none⟩ u) (some g) ∧ lo ≤ g := by
  obtain ⟨h1, h2⟩ := World.ownsRow.stored h (j * E.s + i) u
  refine ⟨?_, h2, (World.ownsRow.lt h g rfl).1⟩
  unfold OwnF
  rw [flat_set hE.len xs j i x x' u hx hi he, List.length_set]
  exact h1
end

/-- A slice of the call's own that grows: w is the world at the call, wr the world now. -/
def Acc (E : El α) (w : World) (lo : Nat) (wr : World) (v : Value) (xs : List α) : Prop := OwnF E wr lo v xs ∧ Below w.heap.size w wr ∧ w.heap.size ≤ lo ∧ lo ≤ wr.heap.size
theorem Acc.nil (w : World) : Acc E w w.heap.size w (.slice none 0 0) ([] : List α) := ⟨OwnF.nil, Below.refl _ _, Nat.le_refl _, Nat.le_refl _⟩
theorem Acc.start (w : World) : Acc E w w.heap.size (w.alloc (.cells #[] E.e)) (.slice (some ⟨w.heap.size, 0, none⟩) 0 0) ([] : List α) :=
  ⟨OwnF.empty (Nat.le_refl _), (Below.refl _ _).alloc (Nat.le_refl _) _, Nat.le_refl _, by simp⟩
theorem Acc.startAt {w wr : World} {lo : Nat} (hb : Below w.heap.size w wr) (h1 : w.heap.size ≤ lo) (h2 : lo ≤ wr.heap.size) : Acc E w lo (wr.alloc (.cells #[] E.e)) (.slice (some ⟨wr.heap.size, 0, none⟩) 0 0) ([] : List α) :=
  ⟨OwnF.empty h2, hb.alloc hb.size _, h1, by simp; omega⟩
theorem Acc.below {w wr w1 : World} {lo : Nat} {v : Value} {xs : List α} (h : Acc E w lo wr v xs) (hb : Below wr.heap.size wr w1) : Acc E w lo w1 v xs :=
  ⟨h.1.below hb, h.2.1.trans (hb.mono h.2.1.size), h.2.2.1, Nat.le_trans h.2.2.2 hb.size⟩
/-- How a growing slice of the call's own leaves the rest: only its own row, in the block it had, may have been written. -/
def Grew (wr w1 : World) (v v' : Value) : Prop := wr.grownBy w1 v.ownBlock ∧ ∃ g, v'.ownBlock = some g ∧ (v.ownBlock = some g ∨ wr.heap.size ≤ g) ∧ g < w1.heap.size

theorem wpList_pushes (hE : E.Ok P) {ops : Array Oper} {rest : List Oper} {o : Oper} {a : Act} {Q : Exit → Act → World → Prop} (hgd : o.guard = none) (s x : Operand)
    (ho : o.op = .call { callee := .builtin .append, args := #[s, x], argTypes := #[E.t, E.t] }) {w wr : World} {lo : Nat} {v : Value} {xs : List α} (H : Acc E w lo wr v xs) (hs : a.eval s = v)
    (ys : List α) (m : Nat) (hm : m = ys.length) (hpos : 0 < m) (cs : Array Value) (hcs : cs.toList = ys.flatMap E.f) (h0 : Nat) (hx : a.eval x = .slice (some ⟨h0, 0, none⟩) m m) (hh : wr.heap.size = h0) (hl : xs.length + m ≤ 1073741824)
    (h : ∀ v' w', Hid (Acc E w lo w' v' (xs ++ ys)) → Hid (Grew wr w' v v') → wpList P ops Q rest (a.put o.dst v') w') :
    wpList P ops Q (o :: rest) a (wr.alloc (.cells cs E.e)) := by
  subst hm hh
  obtain ⟨i, hi, hzz⟩ := Option.map_eq_some_iff.1 hE.info
  simp only [Prod.mk.injEq] at hzz
  obtain ⟨hz, hsz, hby⟩ := hzz
  obtain ⟨h1, h2, h3, h4⟩ := H
  have hal := (Below.refl wr.heap.size wr).alloc (Nat.le_refl _) (.cells cs E.e)
  have hown := h1.below hal
  refine wpList_append_lies (P := P) _ hgd s x E.t ho lo E.e i E.z E.s E.b hE.und hi hz hsz hby hE.zs hE.pos v xs.length (xs.flatMap E.f) hs hown ⟨wr.heap.size, 0, none⟩ ys.length ys.length (ys.flatMap E.f) hx
    (flat_length hE.len ys) (by rw [← hcs]; exact World.news_of_block (heap_alloc_new wr _)) (fun u hu => ?_) hpos (by unfold maxLen; omega) ?_ (by simp; omega) (wr.heap.size + 1) (by simp) ?_
  · obtain ⟨y, _, hy⟩ := List.mem_flatMap.1 hu
    exact hE.one y u hy
  · have h5 := hE.few
    have : (xs.length + ys.length) * E.b ≤ 1073741824 * 1024 := Nat.mul_le_mul hl h5
    omega
  · intro g cap w' hown' hg hat hlt
    have hg2 : wr.grownBy w' v.ownBlock := ⟨hg.os, hg.tape, hg.output, Nat.le_trans (by simp) hg.size, fun k hk hne => (hg.block k (by simp; omega) hne).trans (Below.heap_alloc _ _ _ hk)⟩
    refine h (.slice (some ⟨g, 0, none⟩) (xs.length + ys.length) cap) w' ⟨?_, ?_, h3, ?_⟩ ⟨hg2, g, rfl, ?_, hlt⟩
    · unfold OwnF; rw [List.length_append, List.flatMap_append]; exact hown'
    · exact h2.grown hg2 h2.size fun k hk => by have := (h1.lt k hk).1; omega
    · have := hg2.size; omega
    · rcases hat with hat | hat
      · exact .inl hat
      · exact .inr (by omega)
theorem step_pushes (hE : E.Ok P) {ops : Array Oper} {o : Oper} {a : Act} {K : Act → World → Prop} {Q : Exit → Act → World → Prop} {X : Prop} (hgd : o.guard = none) (s x : Operand)
    (ho : o.op = .call { callee := .builtin .append, args := #[s, x], argTypes := #[E.t, E.t] }) {w wr : World} {lo : Nat} {v : Value} {xs : List α} (H : Acc E w lo wr v xs) (hs : a.eval s = v)
    (ys : List α) (m : Nat) (hm : m = ys.length) (hpos : 0 < m) (cs : Array Value) (hcs : cs.toList = ys.flatMap E.f) (h0 : Nat) (hx : a.eval x = .slice (some ⟨h0, 0, none⟩) m m) (hh : wr.heap.size = h0) (hl : xs.length + m ≤ 1073741824)
    (h : ∀ v' w', Hid (Acc E w lo w' v' (xs ++ ys)) → Hid (Grew wr w' v v') → K (a.put o.dst v') w') :
    if Region.wanted o (yielded ops a.tmps) = true then Oper.wp P o a (wr.alloc (.cells cs E.e)) K Q else X := by
  subst hm hh
  obtain ⟨i, hi, hzz⟩ := Option.map_eq_some_iff.1 hE.info
  simp only [Prod.mk.injEq] at hzz
  obtain ⟨hz, hsz, hby⟩ := hzz
  obtain ⟨h1, h2, h3, h4⟩ := H
  have hal := (Below.refl wr.heap.size wr).alloc (Nat.le_refl _) (.cells cs E.e)
  have hown := h1.below hal
  refine step_append_lies (P := P) _ hgd s x E.t ho lo E.e i E.z E.s E.b hE.und hi hz hsz hby hE.zs hE.pos v xs.length (xs.flatMap E.f) hs hown ⟨wr.heap.size, 0, none⟩ ys.length ys.length (ys.flatMap E.f) hx
    (flat_length hE.len ys) (by rw [← hcs]; exact World.news_of_block (heap_alloc_new wr _)) (fun u hu => ?_) hpos (by unfold maxLen; omega) ?_ (by simp; omega) (wr.heap.size + 1) (by simp) ?_
  · obtain ⟨y, _, hy⟩ := List.mem_flatMap.1 hu
    exact hE.one y u hy
  · have h5 := hE.few
    have : (xs.length + ys.length) * E.b ≤ 1073741824 * 1024 := Nat.mul_le_mul hl h5
    omega
  · intro g cap w' hown' hg hat hlt
    have hg2 : wr.grownBy w' v.ownBlock := ⟨hg.os, hg.tape, hg.output, Nat.le_trans (by simp) hg.size, fun k hk hne => (hg.block k (by simp; omega) hne).trans (Below.heap_alloc _ _ _ hk)⟩
    refine h (.slice (some ⟨g, 0, none⟩) (xs.length + ys.length) cap) w' ⟨?_, ?_, h3, ?_⟩ ⟨hg2, g, rfl, ?_, hlt⟩
    · unfold OwnF; rw [List.length_append, List.flatMap_append]; exact hown'
    · exact h2.grown hg2 h2.size fun k hk => by have := (h1.lt k hk).1; omega
    · have := hg2.size; omega
    · rcases hat with hat | hat
      · exact .inl hat
      · exact .inr (by omega)
theorem step_push (hE : E.Ok P) {ops : Array Oper} {o : Oper} {a : Act} {K : Act → World → Prop} {Q : Exit → Act → World → Prop} {X : Prop} (hgd : o.guard = none) (s x : Operand)
    (ho : o.op = .call { callee := .builtin .append, args := #[s, x], argTypes := #[E.t, E.t] }) {w wr : World} {lo : Nat} {v : Value} {xs : List α} (H : Acc E w lo wr v xs) (hs : a.eval s = v)
    (y : α) (cs : Array Value) (hcs : cs.toList = E.f y) (h0 : Nat) (hx : a.eval x = .slice (some ⟨h0, 0, none⟩) 1 1) (hh : wr.heap.size = h0) (hl : xs.length + 1 ≤ 1073741824)
    (h : ∀ v' w', Hid (Acc E w lo w' v' (xs ++ [y])) → Hid (Grew wr w' v v') → K (a.put o.dst v') w') :
    if Region.wanted o (yielded ops a.tmps) = true then Oper.wp P o a (wr.alloc (.cells cs E.e)) K Q else X :=
  step_pushes hE hgd s x ho H hs [y] 1 rfl (Nat.lt_succ_self _) cs (by rw [hcs]; simp) h0 hx hh hl h
theorem wpList_push (hE : E.Ok P) {ops : Array Oper} {rest : List Oper} {o : Oper} {a : Act} {Q : Exit → Act → World → Prop} (hgd : o.guard = none) (s x : Operand)
    (ho : o.op = .call { callee := .builtin .append, args := #[s, x], argTypes := #[E.t, E.t] }) {w wr : World} {lo : Nat} {v : Value} {xs : List α} (H : Acc E w lo wr v xs) (hs : a.eval s = v)
    (y : α) (cs : Array Value) (hcs : cs.toList = E.f y) (h0 : Nat) (hx : a.eval x = .slice (some ⟨h0, 0, none⟩) 1 1) (hh : wr.heap.size = h0) (hl : xs.length + 1 ≤ 1073741824)
    (h : ∀ v' w', Hid (Acc E w lo w' v' (xs ++ [y])) → Hid (Grew wr w' v v') → wpList P ops Q rest (a.put o.dst v') w') :
    wpList P ops Q (o :: rest) a (wr.alloc (.cells cs E.e)) :=
  wpList_pushes hE hgd s x ho H hs [y] 1 rfl (Nat.lt_succ_self _) cs (by rw [hcs]; simp) h0 hx hh hl h
/-- append of a whole slice. -/
theorem wpList_pushSrc (hE : E.Ok P) (hs1 : E.s = 1) {ops : Array Oper} {rest : List Oper} {o : Oper} {a : Act} {Q : Exit → Act → World → Prop} (hgd : o.guard = none) (s x : Operand)
    (ho : o.op = .call { callee := .builtin .append, args := #[s, x], argTypes := #[E.t, E.t] }) {w wr : World} {lo : Nat} {v : Value} {xs : List α} (H : Acc E w lo wr v xs) (hs : a.eval s = v)
    (ys : List α) (B : Nat) (A : Option Addr) (m c : Nat) (hr : Rd wr B A (ys.flatMap E.f)) (hx : a.eval x = .slice A m c) (hm : m = ys.length) (hl : xs.length + ys.length ≤ 1073741824)
    (h : ∀ v' w', Hid (Acc E w lo w' v' (xs ++ ys)) → Hid (wr.grownBy w' v.ownBlock ∧ (v'.ownBlock = v.ownBlock ∨ v'.ownBlock = some wr.heap.size)) → wpList P ops Q rest (a.put o.dst v') w') :
    wpList P ops Q (o :: rest) a wr := by
  obtain ⟨i, hi, hzz⟩ := Option.map_eq_some_iff.1 hE.info
  simp only [Prod.mk.injEq] at hzz
  obtain ⟨hz, hsz, hby⟩ := hzz
  obtain ⟨h1, h2, h3, h4⟩ := H
  have hown : wr.ownsRow lo E.e 1 v xs.length (xs.flatMap E.f) := by have := h1; unfold OwnF at this; rwa [hs1] at this
  have hly : (ys.flatMap E.f).length = ys.length := by rw [flat_length hE.len, hs1, Nat.mul_one]
  refine wpList_append_src wr hgd s x E.t ho lo E.e i E.z E.b hE.und hi hz (by rw [hsz, hs1]) hby (by rw [hE.zs, hs1]) v xs.length (xs.flatMap E.f) hs hown B A c m (ys.flatMap E.f) hx (by rw [hly, hm]) hr (fun u hu => ?_) (by unfold maxLen; omega) ?_ h4 ?_
  · obtain ⟨y, _, hy⟩ := List.mem_flatMap.1 hu
    exact hE.one y u hy
  · rw [hly]
    have h5 := hE.few
    have : (xs.length + ys.length) * E.b ≤ 1073741824 * 1024 := Nat.mul_le_mul hl h5
    omega
  · intro v' w' hown' hg hat
    refine h v' w' ⟨?_, h2.grown hg h2.size fun k hk => by have := (h1.lt k hk).1; omega, h3, by have := hg.size; omega⟩ ⟨hg, hat⟩
    unfold OwnF
    rw [List.length_append, List.flatMap_append, hs1, ← hly]
    exact hown'
end

/-- Integers, rows of one cell each (whatever their values). -/
def elInt : El Int := ⟨3, 31, 1, 8, .int .i64 0, fun z => [.int .i64 z]⟩
theorem okInt : elInt.Ok Try.prog := ⟨Try.underlying31, infoInt, rfl, by decide, by decide, fun _ => rfl, fun x u hu => by simp [elInt] at hu; subst hu; rfl⟩
theorem ownF_int {w : World} {lo : Nat} {v : Value} {zs : List Int} : OwnF elInt w lo v zs ↔ OwnI w lo v zs := by
  unfold OwnF OwnI
  have : zs.flatMap elInt.f = zs.map (Value.int .i64) := by
    induction zs with
    | nil => rfl
    | cons z zs ih => rw [List.flatMap_cons, ih]; rfl
  rw [this]; exact Iff.rfl
end Go.Proofs.Ytehnbalbpfmijaa

namespace Go.Proofs.Ytehnbalbpfmijaa
open Go.RowKit

def szZ (n left : Int) : Int := if left - n < 0 then -1 else left - n

theorem beq_drop (xs ys : List Int) (k : Nat) (h1 : k < xs.length) (h2 : k < ys.length) : (xs.drop k == ys.drop k) = (xs[k] == ys[k] && xs.drop (k + 1) == ys.drop (k + 1)) := by
  rw [List.drop_eq_getElem_cons h1, List.drop_eq_getElem_cons h2]; rfl
theorem beq_len (xs ys : List Int) (h : xs.length ≠ ys.length) : (xs == ys) = false := by
  rw [beq_eq_false_iff_ne]; rintro rfl; exact h rfl

end Go.Proofs.Ytehnbalbpfmijaa

namespace Go.Proofs.Ytehnbalbpfmijaa
open Go.RowKit

def duoC (l : Int × Int) : List Value := [.int .i64 l.1, .int .i64 l.2]
theorem duoC_one : ∀ (x : Int × Int), ∀ u ∈ duoC x, u.oneCell' = true := fun x u hu => by simp [duoC] at hu; rcases hu with rfl | rfl <;> rfl
def elCell : El (Int × Int) := ⟨44, 36, 2, 16, .agg #[.int .i64 0, .int .i64 0], duoC⟩
theorem okCell : elCell.Ok Try.prog := ⟨Try.underlying36, by kernel_rfl, rfl, by decide, by decide, fun _ => rfl, duoC_one⟩
def dx (ls : List (Int × Int)) (j : Nat) : Int := (ls.getD j (0, 0)).1
def dy (ls : List (Int × Int)) (j : Nat) : Int := (ls.getD j (0, 0)).2
theorem duo_get (ls : List (Int × Int)) (j : Nat) (h : j < ls.length) : ls[j]? = some (dx ls j, dy ls j) := by simp [dx, dy, h]
theorem addOne2 (a : Addr) : (⟨a.block, a.off + 1, none⟩ : Addr) = a.add 1 := by simp [Addr.add]
theorem RdD.of {E : El (Int × Int)} {w : World} {B : Nat} {v : Value} {ls : List (Int × Int)} (hs : E.s = 2) (hf : ∀ l, E.f l = duoC l) (h : RdF E w B v ls) :
    ∃ A c, v = .slice A ls.length c ∧ ls.length ≤ c ∧ c ≤ maxLen ∧ Hid (∀ j, j < ls.length → ∃ ad, A = some ad ∧ ad.block < B ∧ w.cell? (ad.add (j * 2)) = some (.int .i64 (dx ls j)) ∧
      w.cell? ⟨(ad.add (j * 2)).block, (ad.add (j * 2)).off + 1, none⟩ = some (.int .i64 (dy ls j))) := by
  obtain ⟨A, c, e, h1, h2, h3⟩ := h
  refine ⟨A, c, e, h1, h2, fun j hj => ?_⟩
  obtain ⟨ad, e2, hb, hc⟩ := h3 j _ (duo_get ls j hj)
  rw [hf, hs] at hc
  refine ⟨ad, e2, hb, hc 0 _ rfl, ?_⟩
  rw [addOne2, addAdd]; exact hc 1 _ rfl

abbrev FourS (w w' : World) (p q : Addr) (x y : Int) : Prop :=
  w'.cell? p = some (.int .i64 x) ∧ w'.cell? ⟨p.block, p.off + 1, none⟩ = some (.int .i64 y) ∧
  w'.cell? q = some (.int .i64 x) ∧ w'.cell? ⟨q.block, q.off + 1, none⟩ = some (.int .i64 y) ∧ w.heap.size ≤ w'.heap.size ∧ Below w.heap.size w w'
theorem keepFourB {w W0 w1 : World} {p q : Addr} {x y : Int} (hb : Below W0.heap.size W0 w1) (hp : p.block < w.heap.size) (hq : q.block < w.heap.size) (h : FourS w W0 p q x y) : FourS w w1 p q x y := by
  obtain ⟨h1, h2, h4, h5, h7, h8⟩ := h
  exact ⟨(hb.cell (by omega)).trans h1, (hb.cell (p := ⟨p.block, p.off + 1, none⟩) (by show p.block < _; omega)).trans h2, (hb.cell (by omega)).trans h4, (hb.cell (p := ⟨q.block, q.off + 1, none⟩) (by show q.block < _; omega)).trans h5, Nat.le_trans h7 hb.size, h8.trans (hb.mono h7)⟩
theorem drewFourB {w W0 : World} {p q : Addr} {x y : Int} (h : FourS w W0 p q x y) : FourS w W0.drew p q x y := by
  obtain ⟨h1, h2, h4, h5, h7, h8⟩ := h
  exact ⟨h1, h2, h4, h5, h7, h8.drew⟩

/-! ### The marks -/
def duoMk (k : Int) (i : Nat) : Int × Int := (k + 2 * (i : Int), k + 2 * (i : Int) + 1)
def duoIota (k : Int) (n : Nat) : List (Int × Int) := (List.range n).map (duoMk k)
theorem duoIota_length (k : Int) (n : Nat) : (duoIota k n).length = n := by simp [duoIota]
theorem duoIota_x (k : Int) (n j : Nat) (h : j < n) : dx (duoIota k n) j = k + 2 * (j : Int) := by simp [dx, duoIota, h, duoMk]
theorem duoIota_y (k : Int) (n j : Nat) (h : j < n) : dy (duoIota k n) j = k + 2 * (j : Int) + 1 := by simp [dy, duoIota, h, duoMk]
def duoTo (ls : List (Int × Int)) (k : Int) (j : Nat) : List (Int × Int) := (List.range ls.length).map fun (i : Nat) => if i < j then duoMk k i else ls.getD i (0, 0)
theorem duoTo_length (ls : List (Int × Int)) (k : Int) (j : Nat) : (duoTo ls k j).length = ls.length := by simp [duoTo]
theorem duoTo_zero (ls : List (Int × Int)) (k : Int) : duoTo ls k 0 = ls := by
  apply List.ext_getElem
  · exact duoTo_length _ _ _
  · intro i h1 h2; simp [duoTo, h2]
theorem duoTo_all (ls : List (Int × Int)) (k : Int) : duoTo ls k ls.length = duoIota k ls.length := by
  unfold duoTo duoIota
  apply List.map_congr_left
  intro i hi
  rw [if_pos (by simpa using hi)]
theorem duoTo_set (ls : List (Int × Int)) (k : Int) (j : Nat) (_h : j < ls.length) : (duoTo ls k j).set j (k + 2 * (j : Int), k + 2 * (j : Int) + 1) = duoTo ls k (j + 1) := by
  apply List.ext_getElem
  · simp [duoTo]
  · intro i h1 h2
    rw [List.getElem_set]
    by_cases e : j = i
    · subst e; simp [duoTo, duoMk]
    · by_cases e2 : i < j
      · simp [duoTo, e, e2, show i < j + 1 by omega]
      · simp [duoTo, e, e2, show ¬ i < j + 1 by omega]
/-- One struct is written, field by field. -/
theorem duoStore {P : Program} {E : El (Int × Int)} (hE : E.Ok P) (hs : E.s = 2) (hf : ∀ l, E.f l = duoC l) {w : World} {lo g cap : Nat} {ls : List (Int × Int)} (h : OwnF E w lo (.slice (some ⟨g, 0, none⟩) ls.length cap) ls) {j : Nat} (hj : j < ls.length) :
    w.cell? ⟨g, j * 2, none⟩ = some (.int .i64 (dx ls j)) ∧ w.cell? ⟨g, j * 2 + 1, none⟩ = some (.int .i64 (dy ls j)) ∧ (∀ o, w.frozen? ⟨g, o, none⟩ = false) ∧
      ∀ (a b : Int), OwnF E ((w.setCell ⟨g, j * 2, none⟩ (.int .i64 a)).setCell ⟨g, j * 2 + 1, none⟩ (.int .i64 b)) lo (.slice (some ⟨g, 0, none⟩) (ls.set j (a, b)).length cap) (ls.set j (a, b)) ∧
        w.grownBy ((w.setCell ⟨g, j * 2, none⟩ (.int .i64 a)).setCell ⟨g, j * 2 + 1, none⟩ (.int .i64 b)) (some g) := by
  have hc : ∀ i u, (duoC (dx ls j, dy ls j))[i]? = some u → w.cell? ⟨g, j * 2 + i, none⟩ = some u := fun i u hu => by
    have hi : i < 2 := (List.getElem?_eq_some_iff.1 hu).1
    have := World.ownsRow.cellAt h (j * 2 + i) (by rw [hs]; omega)
    rw [this, ← hs, flat_get hE.len ls j i _ (duo_get ls j hj) (by omega), hf]; exact hu
  refine ⟨hc 0 _ rfl, hc 1 _ rfl, World.ownsRow.frozenAt h, fun a b => ?_⟩
  obtain ⟨s1, t1, _⟩ := OwnF.store hE (x' := (a, dy ls j)) (u := .int .i64 a) h (duo_get ls j hj) (i := 0) (by omega) (by rw [hf, hf]; rfl)
  obtain ⟨s2, t2, _⟩ := OwnF.store hE (x' := (a, b)) (x := (a, dy ls j)) (u := .int .i64 b) s1 (j := j) (by simp [hj]) (i := 1) (by omega) (by rw [hf, hf]; rfl)
  rw [hs] at s2 t1 t2
  simp only [List.set_set, Nat.add_zero] at s2 t1 t2
  exact ⟨s2, t1.trans t2⟩
end Go.Proofs.Ytehnbalbpfmijaa

namespace Go.Proofs.Ytehnbalbpfmijaa
open Go.RowKit

abbrev Lk := Int × Int × Bool
abbrev triV (x y : Int) (d : Bool) : Value := .agg #[.int .i64 x, .int .i64 y, .bool d]
def triC (l : Lk) : List Value := [.int .i64 l.1, .int .i64 l.2.1, .bool l.2.2]
theorem triC_one : ∀ (x : Lk), ∀ u ∈ triC x, u.oneCell' = true := fun x u hu => by simp [triC] at hu; rcases hu with rfl | rfl | rfl <;> rfl
def elLink : El Lk := ⟨68, 53, 3, 24, .agg #[.int .i64 0, .int .i64 0, .bool false], triC⟩
theorem okLink : elLink.Ok Try.prog := ⟨Try.underlying53, by kernel_rfl, rfl, by decide, by decide, fun _ => rfl, triC_one⟩
def elDomino : El Lk := ⟨46, 28, 3, 24, .agg #[.int .i64 0, .int .i64 0, .bool false], triC⟩
theorem okDomino : elDomino.Ok Try.prog := ⟨Try.underlying28, by kernel_rfl, rfl, by decide, by decide, fun _ => rfl, triC_one⟩

def lx (ls : List Lk) (j : Nat) : Int := (ls.getD j (0, 0, false)).1
def ly (ls : List Lk) (j : Nat) : Int := (ls.getD j (0, 0, false)).2.1
def ld (ls : List Lk) (j : Nat) : Bool := (ls.getD j (0, 0, false)).2.2
theorem lk_get (ls : List Lk) (j : Nat) (h : j < ls.length) : ls[j]? = some (lx ls j, ly ls j, ld ls j) := by simp [lx, ly, ld, h]

/-- Three cells one behind the other. -/
def Three (w : World) (p : Addr) (x y : Int) (d : Bool) : Prop :=
  w.cell? p = some (.int .i64 x) ∧ w.cell? ⟨p.block, p.off + 1, none⟩ = some (.int .i64 y) ∧ w.cell? ⟨p.block, p.off + 2, none⟩ = some (.bool d)
theorem addTwo (a : Addr) : (⟨a.block, a.off + 2, none⟩ : Addr) = a.add 2 := by simp [Addr.add]
theorem addOne' (a : Addr) : (⟨a.block, a.off + 1, none⟩ : Addr) = a.add 1 := by simp [Addr.add]
theorem RdT.of {E : El Lk} {w : World} {B : Nat} {v : Value} {ls : List Lk} (hs : E.s = 3) (hf : ∀ l, E.f l = triC l) (h : RdF E w B v ls) :
    ∃ A c, v = .slice A ls.length c ∧ ls.length ≤ c ∧ c ≤ maxLen ∧ Hid (∀ j, j < ls.length → ∃ ad, A = some ad ∧ ad.block < B ∧ w.cell? (ad.add (j * 3)) = some (.int .i64 (lx ls j)) ∧
      w.cell? ⟨(ad.add (j * 3)).block, (ad.add (j * 3)).off + 1, none⟩ = some (.int .i64 (ly ls j)) ∧ w.cell? ⟨(ad.add (j * 3)).block, (ad.add (j * 3)).off + 2, none⟩ = some (.bool (ld ls j))) := by
  obtain ⟨A, c, e, h1, h2, h3⟩ := h
  refine ⟨A, c, e, h1, h2, fun j hj => ?_⟩
  obtain ⟨ad, e2, hb, hc⟩ := h3 j _ (lk_get ls j hj)
  rw [hf, hs] at hc
  refine ⟨ad, e2, hb, hc 0 _ rfl, ?_, ?_⟩
  · rw [addOne', addAdd]; exact hc 1 _ rfl
  · rw [addTwo, addAdd]; exact hc 2 _ rfl

/-- Two structs side by side. -/
def Six (w : World) (p q : Addr) (x y : Int) (d : Bool) : Prop :=
  w.cell? p = some (.int .i64 x) ∧ w.cell? ⟨p.block, p.off + 1, none⟩ = some (.int .i64 y) ∧ w.cell? ⟨p.block, p.off + 2, none⟩ = some (.bool d) ∧
  w.cell? q = some (.int .i64 x) ∧ w.cell? ⟨q.block, q.off + 1, none⟩ = some (.int .i64 y) ∧ w.cell? ⟨q.block, q.off + 2, none⟩ = some (.bool d)
theorem Six.below {w w1 : World} {p q : Addr} {x y : Int} {d : Bool} {B : Nat} (hb : Below B w w1) (hp : p.block < B) (hq : q.block < B) (h : Six w p q x y d) : Six w1 p q x y d :=
  ⟨(hb.cell hp).trans h.1, (hb.cell (p := ⟨p.block, p.off + 1, none⟩) hp).trans h.2.1, (hb.cell (p := ⟨p.block, p.off + 2, none⟩) hp).trans h.2.2.1,
    (hb.cell hq).trans h.2.2.2.1, (hb.cell (p := ⟨q.block, q.off + 1, none⟩) hq).trans h.2.2.2.2.1, (hb.cell (p := ⟨q.block, q.off + 2, none⟩) hq).trans h.2.2.2.2.2⟩
/-- The same, in one chain, with what the loop keeps beside. -/
abbrev SixS (w w' : World) (p q : Addr) (x y : Int) (d : Bool) : Prop :=
  w'.cell? p = some (.int .i64 x) ∧ w'.cell? ⟨p.block, p.off + 1, none⟩ = some (.int .i64 y) ∧ w'.cell? ⟨p.block, p.off + 2, none⟩ = some (.bool d) ∧
  w'.cell? q = some (.int .i64 x) ∧ w'.cell? ⟨q.block, q.off + 1, none⟩ = some (.int .i64 y) ∧ w'.cell? ⟨q.block, q.off + 2, none⟩ = some (.bool d) ∧ w.heap.size ≤ w'.heap.size ∧ Below w.heap.size w w'
theorem SixS.mk' {w w' : World} {p q : Addr} {x y : Int} {d : Bool} (h : Six w' p q x y d) (h2 : w.heap.size ≤ w'.heap.size) (h3 : Below w.heap.size w w') : SixS w w' p q x y d :=
  ⟨h.1, h.2.1, h.2.2.1, h.2.2.2.1, h.2.2.2.2.1, h.2.2.2.2.2, h2, h3⟩
theorem keepSix0 {w wr : World} {p q : Addr} {x y : Int} {d : Bool} (hb : Below w.heap.size w wr) (hp : p.block < w.heap.size) (hq : q.block < w.heap.size) (h : Six w p q x y d) : SixS w wr p q x y d := SixS.mk' (h.below hb hp hq) hb.size hb
theorem keepSix {w W0 w1 : World} {p q : Addr} {x y : Int} {d : Bool} (hb : Below W0.heap.size W0 w1) (hp : p.block < w.heap.size) (hq : q.block < w.heap.size) (h : SixS w W0 p q x y d) : SixS w w1 p q x y d := by
  obtain ⟨h1, h2, h3, h4, h5, h6, h7, h8⟩ := h
  exact SixS.mk' (Six.below hb (by omega) (by omega) ⟨h1, h2, h3, h4, h5, h6⟩) (Nat.le_trans h7 hb.size) (h8.trans (hb.mono h7))
theorem drewSix {w W0 : World} {p q : Addr} {x y : Int} {d : Bool} (h : SixS w W0 p q x y d) : SixS w W0.drew p q x y d := by
  obtain ⟨h1, h2, h3, h4, h5, h6, h7, h8⟩ := h
  exact ⟨h1, h2, h3, h4, h5, h6, h7, h8.drew⟩

/-! ### The marks -/
def triMk (k : Int) (i : Nat) : Lk := (k + 3 * (i : Int), k + 3 * (i : Int) + 1, (k + 3 * (i : Int) + 1 + 1) % 3 == 0)
def triIota (k : Int) (n : Nat) : List Lk := (List.range n).map (triMk k)
theorem triIota_length (k : Int) (n : Nat) : (triIota k n).length = n := by simp [triIota]
theorem triIota_x (k : Int) (n j : Nat) (h : j < n) : lx (triIota k n) j = k + 3 * (j : Int) := by simp [lx, triIota, h, triMk]
theorem triIota_y (k : Int) (n j : Nat) (h : j < n) : ly (triIota k n) j = k + 3 * (j : Int) + 1 := by simp [ly, triIota, h, triMk]
theorem triIota_d (k : Int) (n j : Nat) (h : j < n) : ld (triIota k n) j = ((k + 3 * (j : Int) + 1 + 1) % 3 == 0) := by simp [ld, triIota, h, triMk]
def triTo (ls : List Lk) (k : Int) (j : Nat) : List Lk := (List.range ls.length).map fun (i : Nat) => if i < j then triMk k i else ls.getD i (0, 0, false)
theorem triTo_length (ls : List Lk) (k : Int) (j : Nat) : (triTo ls k j).length = ls.length := by simp [triTo]
theorem triTo_zero (ls : List Lk) (k : Int) : triTo ls k 0 = ls := by
  apply List.ext_getElem
  · exact triTo_length _ _ _
  · intro i h1 h2; simp [triTo, h2]
theorem triTo_all (ls : List Lk) (k : Int) : triTo ls k ls.length = triIota k ls.length := by
  unfold triTo triIota
  apply List.map_congr_left
  intro i hi
  rw [if_pos (by simpa using hi)]
theorem triTo_set (ls : List Lk) (k : Int) (j : Nat) (_h : j < ls.length) : (triTo ls k j).set j (k + 3 * (j : Int), k + 3 * (j : Int) + 1, (k + 3 * (j : Int) + 1 + 1) % 3 == 0) = triTo ls k (j + 1) := by
  apply List.ext_getElem
  · simp [triTo]
  · intro i h1 h2
    rw [List.getElem_set]
    by_cases e : j = i
    · subst e; simp [triTo, triMk]
    · by_cases e2 : i < j
      · simp [triTo, e, e2, show i < j + 1 by omega]
      · simp [triTo, e, e2, show ¬ i < j + 1 by omega]

/-- One struct is written, field by field. -/
theorem triStore {P : Program} {E : El Lk} (hE : E.Ok P) (hs : E.s = 3) (hf : ∀ l, E.f l = triC l) {w : World} {lo g cap : Nat} {ls : List Lk} (h : OwnF E w lo (.slice (some ⟨g, 0, none⟩) ls.length cap) ls) {j : Nat} (hj : j < ls.length) :
    w.cell? ⟨g, j * 3, none⟩ = some (.int .i64 (lx ls j)) ∧ w.cell? ⟨g, j * 3 + 1, none⟩ = some (.int .i64 (ly ls j)) ∧ w.cell? ⟨g, j * 3 + 2, none⟩ = some (.bool (ld ls j)) ∧ (∀ o, w.frozen? ⟨g, o, none⟩ = false) ∧
      ∀ (a b : Int) (d : Bool), OwnF E (((w.setCell ⟨g, j * 3, none⟩ (.int .i64 a)).setCell ⟨g, j * 3 + 1, none⟩ (.int .i64 b)).setCell ⟨g, j * 3 + 2, none⟩ (.bool d)) lo (.slice (some ⟨g, 0, none⟩) (ls.set j (a, b, d)).length cap) (ls.set j (a, b, d)) ∧
        w.grownBy (((w.setCell ⟨g, j * 3, none⟩ (.int .i64 a)).setCell ⟨g, j * 3 + 1, none⟩ (.int .i64 b)).setCell ⟨g, j * 3 + 2, none⟩ (.bool d)) (some g) := by
  have hc : ∀ i u, (triC (lx ls j, ly ls j, ld ls j))[i]? = some u → w.cell? ⟨g, j * 3 + i, none⟩ = some u := fun i u hu => by
    have hi : i < 3 := (List.getElem?_eq_some_iff.1 hu).1
    have := World.ownsRow.cellAt h (j * 3 + i) (by rw [hs]; omega)
    rw [this, ← hs, flat_get hE.len ls j i _ (lk_get ls j hj) (by omega), hf]; exact hu
  refine ⟨hc 0 _ rfl, hc 1 _ rfl, hc 2 _ rfl, World.ownsRow.frozenAt h, fun a b d => ?_⟩
  obtain ⟨s1, t1, _⟩ := OwnF.store hE (x' := (a, ly ls j, ld ls j)) (u := .int .i64 a) h (lk_get ls j hj) (i := 0) (by omega) (by rw [hf, hf]; rfl)
  obtain ⟨s2, t2, _⟩ := OwnF.store hE (x' := (a, b, ld ls j)) (x := (a, ly ls j, ld ls j)) (u := .int .i64 b) s1 (j := j) (by simp [hj]) (i := 1) (by omega) (by rw [hf, hf]; rfl)
  obtain ⟨s3, t3, _⟩ := OwnF.store hE (x' := (a, b, d)) (x := (a, b, ld ls j)) (u := .bool d) s2 (j := j) (by simp [hj]) (i := 2) (by omega) (by rw [hf, hf]; rfl)
  rw [hs] at s3 t1 t2 t3
  simp only [List.set_set, Nat.add_zero] at s3 t1 t2 t3
  exact ⟨s3, (t1.trans t2).trans t3⟩
end Go.Proofs.Ytehnbalbpfmijaa

namespace Go.Proofs.Ytehnbalbpfmijaa
open Go.RowKit
set_option linter.unusedVariables false

/-- The second cell of a domino. -/
def sndX (x : Int) (d : Bool) : Int := if d then x else wrap64 (x + 1)
def sndY (y : Int) (d : Bool) : Int := if d then wrap64 (y + 1) else y
def domB (x y : Int) (d : Bool) : Bool := spotB 7 x y && spotB 7 (sndX x d) (sndY y d)

set_option maxHeartbeats 1000000 in
/-- Two result variables of two cells each are written, in either order. -/
theorem two_stores {w V : World} {a b : Nat} {p q r t : Value} {ty : TypeId} {p' q' r' t' : Value} (K1 : V.heap[a]? = some (.cells #[p', q'] ty (0, 0))) (K2 : V.heap[b]? = some (.cells #[r', t'] ty (0, 0))) (hab : a ≠ b) (ha : w.heap.size ≤ a) (hb : w.heap.size ≤ b) (HB : Below w.heap.size w V) :
    ∀ X, X = (((V.setCell ⟨a, 0, none⟩ p).setCell ⟨a, 1, none⟩ q).setCell ⟨b, 0, none⟩ r).setCell ⟨b, 1, none⟩ t → X.cell? ⟨a, 0, none⟩ = some p ∧ X.cell? ⟨a, 1, none⟩ = some q ∧ X.cell? ⟨b, 0, none⟩ = some r ∧ X.cell? ⟨b, 1, none⟩ = some t ∧ Below w.heap.size w X := by
  rintro X rfl
  have h1 := blk_setCell (k := 1) (blk_setCell (k := 0) K1 p) q
  have h1' : ((((V.setCell ⟨a, 0, none⟩ p).setCell ⟨a, 1, none⟩ q).setCell ⟨b, 0, none⟩ r).setCell ⟨b, 1, none⟩ t).heap[a]? = some (.cells ((#[p', q'].setIfInBounds 0 p).setIfInBounds 1 q) ty (0, 0)) :=
    (Below.heap_setCell _ _ _ _ (by simpa using hab)).trans ((Below.heap_setCell _ _ _ _ (by simpa using hab)).trans h1)
  have h2 : ((V.setCell ⟨a, 0, none⟩ p).setCell ⟨a, 1, none⟩ q).heap[b]? = some (.cells #[r', t'] ty (0, 0)) :=
    (Below.heap_setCell _ _ _ _ (by simpa using Ne.symm hab)).trans ((Below.heap_setCell _ _ _ _ (by simpa using Ne.symm hab)).trans K2)
  have h2' := blk_setCell (k := 1) (blk_setCell (k := 0) h2 r) t
  exact ⟨by rw [blk_cell h1']; rfl, by rw [blk_cell h1']; rfl, by rw [blk_cell h2']; rfl, by rw [blk_cell h2']; rfl, (((HB.setCell ha _).setCell ha _).setCell hb _).setCell hb _⟩

set_option maxRecDepth 100000 in
set_option maxHeartbeats 4000000 in
theorem ends_any (x y : Int) (d : Bool) (w : World) :
    Calls Try.prog 161 #[triV x y d] w fun e w' => e = .returned (.tuple #[spotV x y, spotV (sndX x d) (sndY y d)]) ∧ Below w.heap.size w w' := by
  cases d
  · go_enter Try.func161, Try.ntmps161
    go_wp2_with fail
    obtain ⟨W, hW, k0, k1, k2, hb⟩ := three_alloc w (.cells #[.int .i64 x, .int .i64 y, .bool false] 46) (.cells #[.int .i64 0, .int .i64 0] 44) (.cells #[.int .i64 0, .int .i64 0] 44)
    rw [← hW]
    have c0 : W.drew.cell? ⟨w.heap.size, 0, none⟩ = some (.int .i64 x) := by show W.cell? _ = _; rw [blk_cell k0]; rfl
    have c1 : W.drew.cell? ⟨w.heap.size, 1, none⟩ = some (.int .i64 y) := by show W.cell? _ = _; rw [blk_cell k0]; rfl
    have d0 : W.cell? ⟨w.heap.size + 1, 0, none⟩ = some (.int .i64 0) := by rw [blk_cell k1]; rfl
    have d1 : W.cell? ⟨w.heap.size + 1, 1, none⟩ = some (.int .i64 0) := by rw [blk_cell k1]; rfl
    have d2 : W.cell? ⟨w.heap.size + 1 + 1, 0, none⟩ = some (.int .i64 0) := by rw [blk_cell k2]; rfl
    have d3 : W.cell? ⟨w.heap.size + 1 + 1, 1, none⟩ = some (.int .i64 0) := by rw [blk_cell k2]; rfl
    have f0 : ∀ o, W.frozen? ⟨w.heap.size + 1, o, none⟩ = false := fun o => blk_free k1
    have f2 : ∀ o, W.frozen? ⟨w.heap.size + 1 + 1, o, none⟩ = false := fun o => blk_free k2
    have g0 : W.cell? ⟨w.heap.size, 0, none⟩ = some (.int .i64 x) := by rw [blk_cell k0]; rfl
    have g1 : W.cell? ⟨w.heap.size, 1, none⟩ = some (.int .i64 y) := by rw [blk_cell k0]; rfl
    have T1 := Lib.hid (two_stores (w := w) (V := W.drew) (p := .int .i64 x) (q := .int .i64 y) (r := .int .i64 (sndX x false)) (t := .int .i64 (y)) k1 k2 (by omega) (by omega) (by omega) hb.drew)
    have hw1 : IntKind.i64.wrap (x + 1) = sndX x false := by rw [IntWalk.i64_left]; rfl
    clear hW k0 k1 k2 hb
    go_region_held3 (fun w' => w'.cell? ⟨w.heap.size, 0, none⟩ = some (.int .i64 x) ∧ w'.cell? ⟨w.heap.size, 1, none⟩ = some (.int .i64 y))
      (first
        | exact ⟨c0, c1⟩
        | (refine ⟨?_, ?_⟩ <;> go_simp))
      (first
        | fail)
    go_wp2_with fail
    generalize hX : ((((W.setCell ⟨w.heap.size + 1, 0, none⟩ (.int .i64 x)).setCell ⟨w.heap.size + 1, 1, none⟩ (.int .i64 y)).setCell ⟨w.heap.size + 1 + 1, 0, none⟩ (.int .i64 (sndX x false))).setCell ⟨w.heap.size + 1 + 1, 1, none⟩ (.int .i64 (y))).drew = X
    obtain ⟨r0, r1, r2, r3, r4⟩ := T1.out X hX.symm
    refine bodyPost_ret (v := .tuple #[spotV x y, spotV (sndX x false) (y)]) (by simp [results, Try.results161, go_sem, r0, r1, r2, r3]) rfl ⟨rfl, r4⟩
  · go_enter Try.func161, Try.ntmps161
    go_wp2_with fail
    obtain ⟨W, hW, k0, k1, k2, hb⟩ := three_alloc w (.cells #[.int .i64 x, .int .i64 y, .bool true] 46) (.cells #[.int .i64 0, .int .i64 0] 44) (.cells #[.int .i64 0, .int .i64 0] 44)
    rw [← hW]
    have c0 : W.drew.cell? ⟨w.heap.size, 0, none⟩ = some (.int .i64 x) := by show W.cell? _ = _; rw [blk_cell k0]; rfl
    have c1 : W.drew.cell? ⟨w.heap.size, 1, none⟩ = some (.int .i64 y) := by show W.cell? _ = _; rw [blk_cell k0]; rfl
    have d0 : W.cell? ⟨w.heap.size + 1, 0, none⟩ = some (.int .i64 0) := by rw [blk_cell k1]; rfl
    have d1 : W.cell? ⟨w.heap.size + 1, 1, none⟩ = some (.int .i64 0) := by rw [blk_cell k1]; rfl
    have d2 : W.cell? ⟨w.heap.size + 1 + 1, 0, none⟩ = some (.int .i64 0) := by rw [blk_cell k2]; rfl
    have d3 : W.cell? ⟨w.heap.size + 1 + 1, 1, none⟩ = some (.int .i64 0) := by rw [blk_cell k2]; rfl
    have f0 : ∀ o, W.frozen? ⟨w.heap.size + 1, o, none⟩ = false := fun o => blk_free k1
    have f2 : ∀ o, W.frozen? ⟨w.heap.size + 1 + 1, o, none⟩ = false := fun o => blk_free k2
    have g0 : W.cell? ⟨w.heap.size, 0, none⟩ = some (.int .i64 x) := by rw [blk_cell k0]; rfl
    have g1 : W.cell? ⟨w.heap.size, 1, none⟩ = some (.int .i64 y) := by rw [blk_cell k0]; rfl
    have T1 := Lib.hid (two_stores (w := w) (V := W.drew) (p := .int .i64 x) (q := .int .i64 y) (r := .int .i64 (x)) (t := .int .i64 (sndY y true)) k1 k2 (by omega) (by omega) (by omega) hb.drew)
    have hw1 : IntKind.i64.wrap (y + 1) = sndY y true := by rw [IntWalk.i64_left]; rfl
    clear hW k0 k1 k2 hb
    go_region_held3 (fun w' => w'.cell? ⟨w.heap.size, 0, none⟩ = some (.int .i64 x) ∧ w'.cell? ⟨w.heap.size, 1, none⟩ = some (.int .i64 y))
      (first
        | exact ⟨c0, c1⟩
        | (refine ⟨?_, ?_⟩ <;> go_simp))
      (first
        | fail)
    go_wp2_with fail
    generalize hX : ((((W.setCell ⟨w.heap.size + 1, 0, none⟩ (.int .i64 x)).setCell ⟨w.heap.size + 1, 1, none⟩ (.int .i64 y)).setCell ⟨w.heap.size + 1 + 1, 0, none⟩ (.int .i64 (x))).setCell ⟨w.heap.size + 1 + 1, 1, none⟩ (.int .i64 (sndY y true))).drew = X
    obtain ⟨r0, r1, r2, r3, r4⟩ := T1.out X hX.symm
    refine bodyPost_ret (v := .tuple #[spotV x y, spotV (x) (sndY y true)]) (by simp [results, Try.results161, go_sem, r0, r1, r2, r3]) rfl ⟨rfl, r4⟩
end Go.Proofs.Ytehnbalbpfmijaa

namespace Go.Proofs.Ytehnbalbpfmijaa
open Go.RowKit
set_option linter.unusedVariables false

/-- The number of a domino in the order. -/
def domM (x y : Nat) (d : Bool) : Nat := 2 ^ cix x y ||| (if d then 2 ^ cix x (y + 1) else 2 ^ cix (x + 1) y)
theorem domB_iff (x y : Int) (d : Bool) : domB x y d = true ↔ (0 ≤ x ∧ 0 ≤ y) ∧ if d then x ≤ 7 ∧ y ≤ 6 else x ≤ 6 ∧ y ≤ 7 := by
  unfold domB sndX sndY
  simp only [Bool.and_eq_true, spotB_iff]
  cases d
  · simp only [Bool.false_eq_true, if_false]
    constructor
    · rintro ⟨⟨⟨a, b⟩, c, e⟩, ⟨f, g⟩, h, i⟩
      have : wrap64 (x + 1) = x + 1 := IntWalk.wrap64_in _ (by omega)
      omega
    · rintro ⟨⟨a, b⟩, c, e⟩
      have : wrap64 (x + 1) = x + 1 := IntWalk.wrap64_in _ (by omega)
      omega
  · simp only [if_true]
    constructor
    · rintro ⟨⟨⟨a, b⟩, c, e⟩, ⟨f, g⟩, h, i⟩
      have : wrap64 (y + 1) = y + 1 := IntWalk.wrap64_in _ (by omega)
      omega
    · rintro ⟨⟨a, b⟩, c, e⟩
      have : wrap64 (y + 1) = y + 1 := IntWalk.wrap64_in _ (by omega)
      omega

set_option maxRecDepth 100000 in
set_option maxHeartbeats 2000000 in
theorem DominoOk_any (x y : Int) (d : Bool) (w : World) :
    Calls Try.prog 129 #[triV x y d] w fun e w' => e = .returned (.bool (domB x y d)) ∧ Below w.heap.size w w' := by
  have HF : Hid ((spotB 7 x y && spotB 7 (sndX x d) (sndY y d)) = domB x y d) := rfl
  generalize domB x y d = r at *
  have HB0 : Hid (Below w.heap.size w (w.alloc (.cells #[.int .i64 x, .int .i64 y, .bool d] 46))) := (Below.refl _ _).alloc (Nat.le_refl _) _
  generalize hx2 : sndX x d = x2 at *
  generalize hy2 : sndY y d = y2 at *
  have HX2 := Lib.hid hx2; have HY2 := Lib.hid hy2
  clear hx2 hy2
  cases c1 : spotB 7 x y
  all_goals cases c2 : spotB 7 x2 y2
  all_goals
    rw [c1, c2] at HF
    go_enter Try.func129, Try.ntmps129
    go_wp2_with fail
    refine (ends_any x y d _).mono ?_
    rintro e w1 ⟨rfl, hb1⟩
    rw [HX2.out, HY2.out]
    have HB1 := Lib.hid (HB0.out.trans (hb1.mono HB0.out.size))
    clear hb1
    go_wp2_with fail
    obtain ⟨W, hW, k1, k2, hb2⟩ := two_alloc w1 (.cells #[.int .i64 x, .int .i64 y] 44) (.cells #[.int .i64 x2, .int .i64 y2] 44)
    rw [← hW]
    have HB2 := Lib.hid (HB1.out.trans (hb2.mono HB1.out.size))
    have K2 := Lib.hid k2
    clear hW hb2 k1 k2
    refine (CellOk_any _ _ _).mono ?_
    rintro e w3 ⟨rfl, hb3⟩
    rw [c1]
    have k3 := blk_below K2.out hb3
    have HB3 := Lib.hid (HB2.out.trans (hb3.mono HB2.out.size))
    have e2 : w3.cell? ⟨w1.heap.size + 1, 0, none⟩ = some (.int .i64 x2) := by rw [blk_cell k3]; rfl
    have e3 : w3.cell? ⟨w1.heap.size + 1, 1, none⟩ = some (.int .i64 y2) := by rw [blk_cell k3]; rfl
    clear k3 hb3
    go_wp2_with fail
    first
      | (go_ret; exact ⟨ret_bool HF.out, HB3.out⟩)
      | (refine (CellOk_any _ _ _).mono ?_
         rintro e w4 ⟨rfl, hb4⟩
         rw [c2]
         go_wp2_with fail
         go_ret
         exact ⟨ret_bool HF.out, HB3.out.trans (hb4.mono HB3.out.size)⟩)

/-- Two cells of two numbers each, in a world that grows. -/
abbrev TwoC (W w' : World) (a b : Nat) (x y x2 y2 : Int) : Prop := w'.cell? ⟨a, 0, none⟩ = some (.int .i64 x) ∧ w'.cell? ⟨a, 1, none⟩ = some (.int .i64 y) ∧ w'.cell? ⟨b, 0, none⟩ = some (.int .i64 x2) ∧ w'.cell? ⟨b, 1, none⟩ = some (.int .i64 y2) ∧ W.heap.size ≤ w'.heap.size ∧ Below W.heap.size W w'
theorem TwoC.keep {W W0 w1 : World} {a b : Nat} {x y x2 y2 : Int} (hb : Below W0.heap.size W0 w1) (ha : a < W.heap.size) (hbb : b < W.heap.size) (h : TwoC W W0 a b x y x2 y2) : TwoC W w1 a b x y x2 y2 := by
  obtain ⟨h1, h2, h3, h4, h5, h6⟩ := h
  exact ⟨(hb.cell (by simp; omega)).trans h1, (hb.cell (by simp; omega)).trans h2, (hb.cell (by simp; omega)).trans h3, (hb.cell (by simp; omega)).trans h4, Nat.le_trans h5 hb.size, h6.trans (hb.mono h5)⟩
theorem TwoC.drew {W W0 : World} {a b : Nat} {x y x2 y2 : Int} (h : TwoC W W0 a b x y x2 y2) : TwoC W W0.drew a b x y x2 y2 := ⟨h.1, h.2.1, h.2.2.1, h.2.2.2.1, h.2.2.2.2.1, h.2.2.2.2.2.drew⟩
theorem orU (a b : Nat) (ha : a < 18446744073709551616) (hb : b < 18446744073709551616) : a ||| b < 18446744073709551616 := Nat.or_lt_two_pow (n := 64) ha hb
theorem domM_lt (x y : Nat) (d : Bool) (h : domB x y d = true) : domM x y d < 18446744073709551616 := by
  have hd := (domB_iff _ _ _).1 h
  have hp : ∀ k, k ≤ 63 → 2 ^ k < 18446744073709551616 := fun k hk => Nat.pow_lt_pow_right (a := 2) (m := k) (n := 64) (by omega) (by omega)
  unfold domM
  refine orU _ _ (hp _ (by unfold cix; cases d <;> simp at hd <;> omega)) ?_
  cases d
  · simp at hd ⊢; exact hp _ (by unfold cix; omega)
  · simp at hd ⊢; exact hp _ (by unfold cix; omega)
set_option maxRecDepth 100000 in
set_option maxHeartbeats 2000000 in
theorem dset_any (x y : Nat) (d : Bool) (w : World) (h : domB x y d = true) :
    Calls Try.prog 130 #[triV x y d] w fun e w' => e = .returned (.int .u64 (domM x y d : Nat)) ∧ Below w.heap.size w w' := by
  have hd := (domB_iff _ _ _).1 h
  obtain ⟨x2, y2, hx2, hy2, b1, b2, b3, b4, HM⟩ : ∃ x2 y2 : Nat, sndX x d = (x2 : Int) ∧ sndY y d = (y2 : Int) ∧ x ≤ 7 ∧ y ≤ 7 ∧ x2 ≤ 7 ∧ y2 ≤ 7 ∧ Hid ((0 ||| 2 ^ cix x y) ||| 2 ^ cix x2 y2 = domM x y d) := by
    cases d
    · simp at hd
      refine ⟨x + 1, y, ?_, rfl, by omega, by omega, by omega, by omega, ?_⟩
      · have : wrap64 ((x : Int) + 1) = (x : Int) + 1 := IntWalk.wrap64_in _ (by omega)
        simp [sndX, this]
      · unfold Hid domM; simp
    · simp at hd
      refine ⟨x, y + 1, rfl, ?_, by omega, by omega, by omega, by omega, ?_⟩
      · have : wrap64 ((y : Int) + 1) = (y : Int) + 1 := IntWalk.wrap64_in _ (by omega)
        simp [sndY, this]
      · unfold Hid domM; simp
  have HX2 := Lib.hid hx2; have HY2 := Lib.hid hy2
  have hk : cix x y ≤ 63 := by unfold cix; omega
  have hT : 0 ||| 2 ^ cix x y < 18446744073709551616 := with_lt (by omega) hk
  have HB0 : Hid (Below w.heap.size w (w.alloc (.cells #[.int .i64 (x : Int), .int .i64 (y : Int), .bool d] 46))) := (Below.refl _ _).alloc (Nat.le_refl _) _
  clear hx2 hy2 hd h
  go_enter Try.func130, Try.ntmps130
  go_wp2_with fail
  refine (ends_any x y d _).mono ?_
  rintro e w1 ⟨rfl, hb1⟩
  rw [HX2.out, HY2.out]
  have HB1 := Lib.hid (HB0.out.trans (hb1.mono HB0.out.size))
  clear hb1
  go_wp2_with fail
  obtain ⟨W, hW, k1, k2, hb2⟩ := two_alloc w1 (.cells #[.int .i64 (x : Int), .int .i64 (y : Int)] 44) (.cells #[.int .i64 (x2 : Int), .int .i64 (y2 : Int)] 44)
  rw [← hW]
  have HB2 := Lib.hid (HB1.out.trans (hb2.mono HB1.out.size))
  have HS : Hid (TwoC W W w1.heap.size (w1.heap.size + 1) x y x2 y2) :=
    ⟨by rw [blk_cell k1]; rfl, by rw [blk_cell k1]; rfl, by rw [blk_cell k2]; rfl, by rw [blk_cell k2]; rfl, Nat.le_refl _, Below.refl _ _⟩
  have L1 := Lib.hid (lt_of_block k1)
  have L2 := Lib.hid (lt_of_block k2)
  clear hW hb2 k1 k2
  obtain ⟨T1, HT1⟩ : ∃ T1 : Nat, Hid ((0 ||| 2 ^ cix x y : Nat) = T1) := ⟨_, rfl⟩
  rw [HT1.out] at HM hT
  have hC1 : Hid (∀ V, Calls Try.prog 80 #[.int .u64 0, spotV x y] V fun e w' => e = .returned (.int .u64 (T1 : Int)) ∧ Below V.heap.size V w') := fun V => by
    have h1 := with_yes 0 x y (by omega) b1 b2 V
    rw [HT1.out] at h1
    exact h1
  have hC2 : Hid (∀ V, Calls Try.prog 80 #[.int .u64 (T1 : Int), spotV x2 y2] V fun e w' => e = .returned (.int .u64 (domM x y d : Nat)) ∧ Below V.heap.size V w') := fun V => by
    have h1 := with_yes T1 x2 y2 hT b3 b4 V
    rw [HM.out] at h1
    exact h1
  go_region_held3 (fun w' => TwoC W w' w1.heap.size (w1.heap.size + 1) x y x2 y2)
      (first
        | exact HS.out.drew
        | exact TwoC.keep hb4 L1.out L2.out (by assumption))
      (first
        | (go_at_call 80; (with_reducible refine (hC1.out _).mono ?_); rintro e w4 ⟨rfl, hb4⟩)
        | (go_at_call 80; (with_reducible refine (hC2.out _).mono ?_); rintro e w4 ⟨rfl, hb4⟩))
  have HB4 := Lib.hid (HB2.out.trans ((show TwoC W w4 w1.heap.size (w1.heap.size + 1) x y x2 y2 from by assumption).2.2.2.2.2.mono HB2.out.size))
  go_wp2_with fail
  go_ret
  exact ⟨rfl, HB4.out⟩

/-- The number of a domino in the order. -/
def domO (x y : Nat) (d : Bool) : Nat := 2 * cix x y + if d then 1 else 0
set_option maxRecDepth 100000 in
set_option maxHeartbeats 2000000 in
theorem order_any (x y : Nat) (d : Bool) (w : World) (h : domB x y d = true) :
    Calls Try.prog 136 #[triV x y d] w fun e w' => e = .returned (.int .i64 (domO x y d : Nat)) ∧ Below w.heap.size w w' := by
  have hd := (domB_iff _ _ _).1 h
  have b1 : x ≤ 7 := by cases d <;> simp at hd <;> omega
  have b2 : y ≤ 7 := by cases d <;> simp at hd <;> omega
  have hk : cix x y ≤ 63 := by unfold cix; omega
  have HM : Hid (2 * ((cix x y : Nat) : Int) + (if d then 1 else 0) = ((domO x y d : Nat) : Int)) := by unfold Hid domO; cases d <;> simp
  obtain ⟨k, HK⟩ : ∃ k, Hid (cix x y = k) := ⟨_, rfl⟩
  rw [HK.out] at hk HM
  clear hd h
  obtain ⟨W, hW, k1, hb⟩ := one_alloc w (.cells #[.int .i64 (x : Int), .int .i64 (y : Int), .bool d] 46)
  have HBW := Lib.hid hb
  have HK1 := Lib.hid k1
  have HWW := Lib.hid hW
  clear hW k1 hb
  go_enter Try.func136, Try.ntmps136
  go_wp2_with fail
  rw [← HWW.out]
  refine (CellIndex_yes x y b1 b2 _).mono ?_
  rintro e w1 ⟨rfl, hb1⟩
  rw [HK.out]
  have k2 := blk_below HK1.out hb1
  have HB := Lib.hid (HBW.out.trans (hb1.mono HBW.out.size))
  have e1 : w1.cell? ⟨w.heap.size, 2, none⟩ = some (.bool d) := by rw [blk_cell k2]; rfl
  clear k2 hb1
  cases d
  all_goals
    go_wp2_with fail
    go_ret
    exact ⟨ret_int (by have := HM.out; simp at this; omega), HB.out⟩
end Go.Proofs.Ytehnbalbpfmijaa

namespace Go.Proofs.Ytehnbalbpfmijaa
open Go.RowKit
set_option linter.unusedVariables false

/-- A domino is ahead of another one. -/
def domLt (a b : Lk) : Bool := domB a.1 a.2.1 a.2.2 && domB b.1 b.2.1 b.2.2 && decide (domO a.1.toNat a.2.1.toNat a.2.2 < domO b.1.toNat b.2.1.toNat b.2.2)
theorem order_Z (x y : Int) (d : Bool) (w : World) (h : domB x y d = true) :
    Calls Try.prog 136 #[triV x y d] w fun e w' => e = .returned (.int .i64 (domO x.toNat y.toNat d : Nat)) ∧ Below w.heap.size w w' := by
  have hd := (domB_iff _ _ _).1 h
  obtain ⟨a, rfl⟩ := Int.eq_ofNat_of_zero_le hd.1.1
  obtain ⟨b, rfl⟩ := Int.eq_ofNat_of_zero_le hd.1.2
  exact order_any a b d w h
abbrev triO (x y : Int) (d : Bool) (t : TypeId) : Obj := .cells #[.int .i64 x, .int .i64 y, .bool d] t
/-- Two structs of three fields, in a world that grows. -/
abbrev TwoT (W w' : World) (a b : Nat) (p q : Lk) : Prop :=
  w'.cell? ⟨a, 0, none⟩ = some (.int .i64 p.1) ∧ w'.cell? ⟨a, 1, none⟩ = some (.int .i64 p.2.1) ∧ w'.cell? ⟨a, 2, none⟩ = some (.bool p.2.2) ∧
  w'.cell? ⟨b, 0, none⟩ = some (.int .i64 q.1) ∧ w'.cell? ⟨b, 1, none⟩ = some (.int .i64 q.2.1) ∧ w'.cell? ⟨b, 2, none⟩ = some (.bool q.2.2) ∧ W.heap.size ≤ w'.heap.size ∧ Below W.heap.size W w'
theorem TwoT.keep {W W0 w1 : World} {a b : Nat} {p q : Lk} (hb : Below W0.heap.size W0 w1) (ha : a < W.heap.size) (hbb : b < W.heap.size) (h : TwoT W W0 a b p q) : TwoT W w1 a b p q := by
  obtain ⟨h1, h2, h3, h4, h5, h6, h7, h8⟩ := h
  exact ⟨(hb.cell (by simp; omega)).trans h1, (hb.cell (by simp; omega)).trans h2, (hb.cell (by simp; omega)).trans h3, (hb.cell (by simp; omega)).trans h4, (hb.cell (by simp; omega)).trans h5, (hb.cell (by simp; omega)).trans h6, Nat.le_trans h7 hb.size, h8.trans (hb.mono h7)⟩
theorem TwoT.drew {W W0 : World} {a b : Nat} {p q : Lk} (h : TwoT W W0 a b p q) : TwoT W W0.drew a b p q := ⟨h.1, h.2.1, h.2.2.1, h.2.2.2.1, h.2.2.2.2.1, h.2.2.2.2.2.1, h.2.2.2.2.2.2.1, h.2.2.2.2.2.2.2.drew⟩
theorem TwoT.of {w W : World} {a b : Nat} {p q : Lk} {t t' : TypeId} (k1 : W.heap[a]? = some (triO p.1 p.2.1 p.2.2 t)) (k2 : W.heap[b]? = some (triO q.1 q.2.1 q.2.2 t')) : TwoT W W a b p q :=
  ⟨by rw [blk_cell k1]; rfl, by rw [blk_cell k1]; rfl, by rw [blk_cell k1]; rfl, by rw [blk_cell k2]; rfl, by rw [blk_cell k2]; rfl, by rw [blk_cell k2]; rfl, Nat.le_refl _, Below.refl _ _⟩

set_option maxRecDepth 100000 in
set_option maxHeartbeats 4000000 in
theorem Before_any (x y : Int) (d : Bool) (x' y' : Int) (d' : Bool) (w : World) :
    Calls Try.prog 166 #[triV x y d, triV x' y' d'] w fun e w' => e = .returned (.bool (domLt (x, y, d) (x', y', d'))) ∧ Below w.heap.size w w' := by
  obtain ⟨W, hW, k1, k2, hb⟩ := two_alloc w (triO x y d 46) (triO x' y' d' 46)
  have HW := Lib.hid hW
  have HB := Lib.hid hb
  have HS := Lib.hid (TwoT.of (w := w) (p := (x, y, d)) (q := (x', y', d')) k1 k2)
  have L1 := Lib.hid (lt_of_block k1)
  have L2 := Lib.hid (lt_of_block k2)
  clear hW k1 k2 hb
  cases h1 : domB x y d
  · have HF : Hid (false = domLt (x, y, d) (x', y', d')) := by unfold Hid domLt; simp [h1]
    generalize domLt (x, y, d) (x', y', d') = r at *
    have H1 := Lib.hid h1; clear h1
    go_enter Try.func166, Try.ntmps166
    go_wp2_with fail
    rw [← HW.out]
    obtain ⟨f1, f2, f3, f4, f5, f6, _, _⟩ := HS.out
    go_region_law (first
      | (go_simp; go_at_call 129; refine (DominoOk_any _ _ _ _).mono ?_; rintro e w1 ⟨rfl, hb1⟩; rw [H1.out]))
    all_goals
      go_wp2_with fail
      go_ret
      exact ⟨ret_bool HF.out, HB.out.trans ((Below.refl _ W).drew.trans (hb1.mono (Nat.le_refl _)) |>.mono HB.out.size)⟩
  · have H1 := Lib.hid h1
    cases h2 : domB x' y' d'
    · have HF : Hid (false = domLt (x, y, d) (x', y', d')) := by unfold Hid domLt; simp [h2]
      generalize domLt (x, y, d) (x', y', d') = r at *
      have H2 := Lib.hid h2; clear h1 h2
      go_enter Try.func166, Try.ntmps166
      go_wp2_with fail
      rw [← HW.out]
      obtain ⟨f1, f2, f3, f4, f5, f6, _, _⟩ := HS.out
      have HT0 := Lib.hid HS.out.drew
      go_region_law (first
        | (go_simp; go_at_call 129; (with_reducible refine (DominoOk_any x y d _).mono ?_); rintro e w1 ⟨rfl, hb1⟩; rw [H1.out]; have HT1 := Lib.hid (TwoT.keep hb1 L1.out L2.out HT0.out); obtain ⟨g1, g2, g3, g4, g5, g6, _, _⟩ := HT1.out)
        | (go_simp; go_at_call 129; (with_reducible refine (DominoOk_any x' y' d' _).mono ?_); rintro e w2 ⟨rfl, hb2⟩; rw [H2.out]; have HT2 := Lib.hid (TwoT.keep hb2 L1.out L2.out HT1.out)))
      all_goals
        go_wp2_with fail
        go_ret
        exact ⟨ret_bool HF.out, HB.out.trans (HT2.out.2.2.2.2.2.2.2.mono HB.out.size)⟩
    · have HF : Hid (decide (domO x.toNat y.toNat d < domO x'.toNat y'.toNat d') = domLt (x, y, d) (x', y', d')) := by unfold Hid domLt; simp [h1, h2]
      have H2 := Lib.hid h2
      have hC1 := Lib.hid fun V => order_Z x y d V h1
      have hC2 := Lib.hid fun V => order_Z x' y' d' V h2
      generalize domLt (x, y, d) (x', y', d') = r at *
      generalize domO x.toNat y.toNat d = n1 at *
      generalize domO x'.toNat y'.toNat d' = n2 at *
      clear h1 h2
      go_enter Try.func166, Try.ntmps166
      go_wp2_with fail
      rw [← HW.out]
      go_region_held3 (fun w' => TwoT W w' w.heap.size (w.heap.size + 1) (x, y, d) (x', y', d'))
        (first
          | exact HS.out.drew
          | exact TwoT.keep hb1 L1.out L2.out (by assumption))
        (first
          | (go_at_call 129; (with_reducible refine (DominoOk_any x y d _).mono ?_); rintro e w1 ⟨rfl, hb1⟩; rw [H1.out])
          | (go_at_call 129; (with_reducible refine (DominoOk_any x' y' d' _).mono ?_); rintro e w1 ⟨rfl, hb1⟩; rw [H2.out])
          | (go_at_call 136; (with_reducible refine (hC1.out _).mono ?_); rintro e w1 ⟨rfl, hb1⟩)
          | (go_at_call 136; (with_reducible refine (hC2.out _).mono ?_); rintro e w1 ⟨rfl, hb1⟩))
      have HB4 := Lib.hid (HB.out.trans ((show TwoT W w1 w.heap.size (w.heap.size + 1) (x, y, d) (x', y', d') from by assumption).2.2.2.2.2.2.2.mono HB.out.size))
      go_wp2_with fail
      go_ret
      exact ⟨ret_bool HF.out, HB4.out⟩
end Go.Proofs.Ytehnbalbpfmijaa

namespace Go.Proofs.Ytehnbalbpfmijaa
open Go.RowKit

theorem eqDomino_self (x y : Int) (d : Bool) (w : World) :
    Calls Try.prog 103 #[triV x y d, triV x y d] w fun e w' => e = .returned (.bool true) ∧ Below w.heap.size w w' := by
  have h1 : (x != x) = false := by simp
  have h2 : (y != y) = false := by simp
  cases d
  all_goals
    go_enter Try.func103, Try.ntmps103
    go_wp2
    go_ret
    exact ⟨rfl, ((Below.refl _ _).alloc (by (try simp) <;> omega) _).alloc (by (try simp) <;> omega) _⟩

set_option maxHeartbeats 2000000 in
theorem eqDominoS_self (u v : Value) (ls : List Lk) (B C : Nat) (w : World) (hu : RdF elDomino w B u ls) (hv : RdF elDomino w C v ls) (hB : B ≤ w.heap.size) (hC : C ≤ w.heap.size) :
    Calls Try.prog 37 #[u, v] w fun e w' => e = .returned (.bool true) ∧ Below w.heap.size w w' := by
  obtain ⟨A, c, rfl, g1, g2, G3⟩ := RdT.of (E := elDomino) rfl (fun _ => rfl) hu
  obtain ⟨A', c', rfl, g1', g2', G3'⟩ := RdT.of (E := elDomino) rfl (fun _ => rfl) hv
  unfold maxLen at g2 g2'
  clear hu hv
  go_enter Try.func37, Try.ntmps37
  go_wp2_with fail
  go_loopw [5] (fun i wr => ∃ k : Nat, k ≤ ls.length ∧ i = .int .i64 k ∧ Below w.heap.size w wr) (fun i _ => ls.length - (intOf i).toNat)
  case atStart => exact ⟨0, Nat.zero_le _, rfl, Below.refl _ _⟩
  case round =>
    obtain ⟨k, hk, rfl, hd⟩ := hrel
    by_cases hlt : k < ls.length
    · obtain ⟨ad, rfl, hb, hx, hy, hz⟩ := G3.out k hlt
      obtain ⟨ad', rfl, hb', hx', hy', hz'⟩ := G3'.out k hlt
      have hk0 : (0 : Int) ≤ (k : Int) := by omega
      have hk1 : (k : Int) < (ls.length : Int) := by omega
      have HS := Lib.hid (keepSix0 hd (show (ad.add (k * 3)).block < w.heap.size by rw [addBlock]; omega) (show (ad'.add (k * 3)).block < w.heap.size by rw [addBlock]; omega) ⟨hx, hy, hz, hx', hy', hz'⟩)
      have L1 := Lib.hid (show (ad.add (k * 3)).block < w.heap.size by rw [addBlock]; omega)
      have L2 := Lib.hid (show (ad'.add (k * 3)).block < w.heap.size by rw [addBlock]; omega)
      clear hx hy hz hx' hy' hz'
      go_wp2_with fail
      go_region_held3 (fun w' => SixS w w' (ad.add (k * 3)) (ad'.add (k * 3)) (lx ls k) (ly ls k) (ld ls k))
        (first
          | exact keepSix hb1 L1.out L2.out (by assumption)
          | exact drewSix HS.out)
        (first
          | (go_at_call 103; refine (eqDomino_self _ _ _ _).mono ?_; rintro e w1 ⟨rfl, hb1⟩))
      have hd2 := (show SixS w w1 _ _ _ _ _ from by assumption).2.2.2.2.2.2.2
      go_wp2_with fail
      go_roundw
      case rel => exact ⟨k + 1, by omega, by go_num, hd2⟩
      case measure => simp [intOf]; omega
    · go_wp2_with fail
      go_ret
      exact ⟨rfl, hd⟩

def MarkDominoPost (w : World) (lo : Nat) (v : Value) (n : Nat) (k : Int) (e : Ending) (w' : World) : Prop :=
  e = .returned (.int .i64 (k + 3 * (n : Int))) ∧ OwnF elDomino w' lo v (triIota k n) ∧ w.grownBy w' v.ownBlock

set_option maxHeartbeats 2000000 in
theorem markDominoS_any (v : Value) (ls : List Lk) (lo : Nat) (k : Int) (w : World) (h : OwnF elDomino w lo v ls) (hl : ls.length ≤ 1048576) (h1 : 0 ≤ k) (h2 : k ≤ 1099511627776) :
    Calls Try.prog 40 #[v, .int .i64 k] w (MarkDominoPost w lo v ls.length k) := by
  rcases Nat.eq_zero_or_pos ls.length with h0 | hpos
  · obtain ⟨A, c, hv, _, _, _⟩ := h.rd okDomino
    have hz : ls = [] := List.eq_nil_of_length_eq_zero h0
    subst hz
    have HH := Lib.hid h
    clear h
    rw [hv] at HH ⊢
    clear hv
    go_enter Try.func40, Try.ntmps40
    go_wp2_with fail
    go_loopw [1, 5] (fun a i wr => a = .int .i64 k ∧ i = .int .i64 0 ∧ w = wr) (fun _ _ _ => 0)
    case atStart => exact ⟨rfl, rfl, rfl⟩
    case round =>
      obtain ⟨rfl, rfl, rfl⟩ := hrel
      go_wp2_with fail
      go_ret
      exact ⟨ret_int (by simp), (show OwnF elDomino w lo (.slice A 0 c) [] from HH.out), World.grownBy.refl w _⟩
  · obtain ⟨g, cap, hv, hlo, hgl⟩ := World.ownsRow.form h hpos
    obtain ⟨A0, c0, e0, q1, q2, _⟩ := h.rd okDomino
    rw [hv] at e0
    obtain rfl : cap = c0 := by simp only [Value.slice.injEq] at e0; exact e0.2.2
    unfold maxLen at q2
    have HH := Lib.hid h
    clear h e0
    rw [hv] at HH ⊢
    clear hv
    go_enter Try.func40, Try.ntmps40
    go_wp2_with fail
    go_loopw [1, 5] (fun a i wr => ∃ j : Nat, j ≤ ls.length ∧ a = .int .i64 (k + 3 * (j : Int)) ∧ i = .int .i64 j ∧ Hid (OwnF elDomino wr lo (.slice (some ⟨g, 0, none⟩) (triTo ls k j).length cap) (triTo ls k j)) ∧ w.grownBy wr (some g)) (fun _ i _ => ls.length - (intOf i).toNat)
    case atStart => exact ⟨0, Nat.zero_le _, by simp, rfl, by (unfold Hid; rw [triTo_zero]; exact HH.out), World.grownBy.refl w _⟩
    case round =>
      obtain ⟨j, hj, rfl, rfl, HO, hgr⟩ := hrel
      by_cases hlt : j < ls.length
      · obtain ⟨hc0, hc1, hc2, hfr, ht⟩ := triStore okDomino rfl (fun _ => rfl) HO.out (j := j) (by rw [triTo_length]; exact hlt)
        obtain ⟨hst1, hst2⟩ := ht (k + 3 * (j : Int)) (k + 3 * (j : Int) + 1) ((k + 3 * (j : Int) + 1 + 1) % 3 == 0)
        rw [triTo_set ls k j hlt] at hst1
        have HN := Lib.hid hst1
        have HG := Lib.hid (hgr.trans hst2)
        clear hst1 hst2 ht
        have hk0 : (0 : Int) ≤ (j : Int) := by omega
        have hk1 : (j : Int) < (ls.length : Int) := by omega
        go_wp2_with fail
        go_roundw
        case rel => exact ⟨j + 1, by omega, by simp; omega, by go_num, HN, HG.out⟩
        case measure => simp [intOf]; omega
      · have HJ : Hid (j = ls.length) := by unfold Hid; omega
        go_wp2_with fail
        go_ret
        refine ⟨ret_int (by rw [HJ.out]), ?_, hgr⟩
        have ho := HO.out
        rw [triTo_length, HJ.out, triTo_all] at ho
        exact ho

set_option maxHeartbeats 2000000 in
theorem heldDominoS_any (v : Value) (n : Nat) (k : Int) (B : Nat) (w : World) (h : RdF elDomino w B v (triIota k n)) (hl : n ≤ 1048576) (h1 : 0 ≤ k) (h2 : k ≤ 1099511627776) :
    Calls Try.prog 41 #[v, .int .i64 k] w fun e w' => e = .returned (.int .i64 (k + 3 * (n : Int))) ∧ w = w' := by
  obtain ⟨A, c, rfl, g1, g2, G3⟩ := RdT.of (E := elDomino) rfl (fun _ => rfl) h
  rw [triIota_length] at *
  unfold maxLen at g2
  clear h
  go_enter Try.func41, Try.ntmps41
  go_wp2_with fail
  go_loop [1, 5] (fun a i => ∃ j : Nat, j ≤ n ∧ a = .int .i64 (k + 3 * (j : Int)) ∧ i = .int .i64 j) (fun _ i => n - (intOf i).toNat)
  case atStart => exact ⟨0, Nat.zero_le _, by simp, rfl⟩
  case round =>
    obtain ⟨j, hj, rfl, rfl⟩ := hrel
    by_cases hlt : j < n
    · obtain ⟨ad, rfl, hb, hx, hy, hz⟩ := G3.out j hlt
      rw [triIota_x _ _ _ hlt] at hx
      rw [triIota_y _ _ _ hlt] at hy
      rw [triIota_d _ _ _ hlt] at hz
      have hne : (k + 3 * (j : Int) != k + 3 * (j : Int)) = false := by simp
      have hne2 : (k + 3 * (j : Int) + 1 != k + 3 * (j : Int) + 1) = false := by simp
      go_wp2_with fail
      go_round
      case rel => exact ⟨j + 1, by omega, by simp; omega, by go_num⟩
      case measure => simp [intOf]; omega
    · have HJ : Hid (j = n) := by unfold Hid; omega
      go_wp2_with fail
      go_ret
      exact ⟨ret_int (by rw [HJ.out]), rfl⟩
end Go.Proofs.Ytehnbalbpfmijaa

namespace Go.Proofs.Ytehnbalbpfmijaa
open Go.RowKit
set_option linter.unusedVariables false

/-- Domino j of a list, and its cells. -/
def dAt (ls : List Lk) (j : Nat) : Lk := (lx ls j, ly ls j, ld ls j)
def domL (l : Lk) : Bool := domB l.1 l.2.1 l.2.2
def dM (l : Lk) : Nat := domM l.1.toNat l.2.1.toNat l.2.2
def covTo (ls : List Lk) : Nat → Nat
  | 0 => 0
  | k + 1 => if domL (dAt ls k) then covTo ls k ||| dM (dAt ls k) else covTo ls k
theorem dset_Z (x y : Int) (d : Bool) (w : World) (h : domB x y d = true) :
    Calls Try.prog 130 #[triV x y d] w fun e w' => e = .returned (.int .u64 (dM (x, y, d) : Nat)) ∧ Below w.heap.size w w' := by
  have hd := (domB_iff _ _ _).1 h
  obtain ⟨a, rfl⟩ := Int.eq_ofNat_of_zero_le hd.1.1
  obtain ⟨b, rfl⟩ := Int.eq_ofNat_of_zero_le hd.1.2
  exact dset_any a b d w h
theorem dM_lt {l : Lk} (h : domL l = true) : dM l < 18446744073709551616 := by
  obtain ⟨x, y, d⟩ := l
  have hd := (domB_iff _ _ _).1 h
  obtain ⟨a, rfl⟩ := Int.eq_ofNat_of_zero_le hd.1.1
  obtain ⟨b, rfl⟩ := Int.eq_ofNat_of_zero_le hd.1.2
  exact domM_lt a b d h
theorem covTo_lt (ls : List Lk) : ∀ k, covTo ls k < 18446744073709551616
  | 0 => by simp [covTo]
  | k + 1 => by
    rw [covTo]
    split
    · rename_i h; exact orU _ _ (covTo_lt ls k) (dM_lt h)
    · exact covTo_lt ls k
/-- One struct of three fields, in a world that grows. -/
abbrev OneT (W w' : World) (a : Nat) (x y : Int) (d : Bool) : Prop := w'.cell? ⟨a, 0, none⟩ = some (.int .i64 x) ∧ w'.cell? ⟨a, 1, none⟩ = some (.int .i64 y) ∧ w'.cell? ⟨a, 2, none⟩ = some (.bool d) ∧ W.heap.size ≤ w'.heap.size ∧ Below W.heap.size W w'
theorem OneT.keep {W W0 w1 : World} {a : Nat} {x y : Int} {d : Bool} (hb : Below W0.heap.size W0 w1) (ha : a < W.heap.size) (h : OneT W W0 a x y d) : OneT W w1 a x y d := by
  obtain ⟨h1, h2, h3, h7, h8⟩ := h
  exact ⟨(hb.cell (by simp; omega)).trans h1, (hb.cell (by simp; omega)).trans h2, (hb.cell (by simp; omega)).trans h3, Nat.le_trans h7 hb.size, h8.trans (hb.mono h7)⟩
theorem OneT.drew {W W0 : World} {a : Nat} {x y : Int} {d : Bool} (h : OneT W W0 a x y d) : OneT W W0.drew a x y d := ⟨h.1, h.2.1, h.2.2.1, h.2.2.2.1, h.2.2.2.2.drew⟩
theorem OneT.of {W : World} {a : Nat} {x y : Int} {d : Bool} {t : TypeId} (k1 : W.heap[a]? = some (triO x y d t)) : OneT W W a x y d :=
  ⟨by rw [blk_cell k1]; rfl, by rw [blk_cell k1]; rfl, by rw [blk_cell k1]; rfl, Nat.le_refl _, Below.refl _ _⟩

set_option maxRecDepth 100000 in
set_option maxHeartbeats 4000000 in
theorem covered_any (v : Value) (ls : List Lk) (B : Nat) (w : World) (h : RdF elDomino w B v ls) (hB : B ≤ w.heap.size) :
    Calls Try.prog 76 #[v] w fun e w' => e = .returned (.int .u64 (covTo ls ls.length : Nat)) ∧ Below w.heap.size w w' := by
  obtain ⟨A, c, rfl, g1, g2, G3⟩ := RdT.of (E := elDomino) rfl (fun _ => rfl) h
  unfold maxLen at g2
  clear h
  go_enter Try.func76, Try.ntmps76
  go_wp2_with fail
  go_loopw [3, 8] (fun s i wr => ∃ k : Nat, k ≤ ls.length ∧ i = .int .i64 k ∧ s = .int .u64 (covTo ls k : Nat) ∧ Hid (Below w.heap.size w wr)) (fun _ i _ => ls.length - (intOf i).toNat)
  case atStart => exact ⟨0, Nat.zero_le _, rfl, rfl, Below.refl _ _⟩
  case round =>
    obtain ⟨k, hk, rfl, rfl, HB⟩ := hrel
    by_cases hlt : k < ls.length
    · obtain ⟨ad, rfl, hbl, hx, hy, hz⟩ := G3.out k hlt
      have hbl2 : (ad.add (k * 3)).block < w.heap.size := by rw [addBlock]; omega
      have hx' := (HB.out.cell (p := ad.add (k * 3)) hbl2).trans hx
      have hy' := (HB.out.cell (p := ⟨(ad.add (k * 3)).block, (ad.add (k * 3)).off + 1, none⟩) hbl2).trans hy
      have hz' := (HB.out.cell (p := ⟨(ad.add (k * 3)).block, (ad.add (k * 3)).off + 2, none⟩) hbl2).trans hz
      have HT : Hid (covTo ls (k + 1) = if domB (lx ls k) (ly ls k) (ld ls k) then covTo ls k ||| dM (lx ls k, ly ls k, ld ls k) else covTo ls k) := rfl
      have HCL := Lib.hid (covTo_lt ls k)
      have HDL := Lib.hid (fun h => dM_lt (l := (lx ls k, ly ls k, ld ls k)) h)
      have HDS := Lib.hid (fun V h => dset_Z (lx ls k) (ly ls k) (ld ls k) V h)
      generalize lx ls k = x at *
      generalize ly ls k = y at *
      generalize ld ls k = d at *
      clear hx hy hz
      go_wp2_with fail
      obtain ⟨W, hW, k1, hbW⟩ := one_alloc wr (triO x y d 46)
      rw [← hW]
      have hT0 := OneT.of k1
      have HT0 := Lib.hid hT0
      have L1 := Lib.hid (lt_of_block k1)
      have HBW := Lib.hid (HB.out.trans (hbW.mono HB.out.size))
      clear hW k1 hbW hx' hy' hz' hT0
      refine (DominoOk_any x y d _).mono ?_
      rintro e w1 ⟨rfl, hb1⟩
      have hT1 := OneT.keep hb1 L1.out HT0.out
      have HB1 := Lib.hid (HBW.out.trans (hb1.mono HBW.out.size))
      obtain ⟨f1, f2, f3, _, _⟩ := hT1
      clear hb1
      cases hd : domB x y d
      · have HE : Hid (covTo ls (k + 1) = covTo ls k) := by unfold Hid; rw [HT.out, hd]; rfl
        clear HT
        go_wp2_with fail
        go_roundw
        case rel => exact ⟨k + 1, by omega, by go_num, by rw [HE.out], HB1⟩
        case measure => simp [intOf]; omega
      · have HE : Hid (covTo ls (k + 1) = covTo ls k ||| dM (x, y, d)) := by unfold Hid; rw [HT.out, hd]; rfl
        have HD1 := Lib.hid hd
        have HO := Lib.hid (u64_or_nat _ _ HCL.out (HDL.out hd))
        clear HT hd
        go_wp2_with fail
        refine (HDS.out _ HD1.out).mono ?_
        rintro e w2 ⟨rfl, hb2⟩
        have HB2 := Lib.hid (HB1.out.trans (hb2.mono HB1.out.size))
        go_wp2_with fail
        go_roundw
        case rel => exact ⟨k + 1, by omega, by go_num, by rw [HE.out, HO.out], HB2⟩
        case measure => simp [intOf]; omega
    · have HK : Hid (k = ls.length) := by unfold Hid; omega
      go_wp2_with fail
      go_ret
      exact ⟨congrArg (fun n : Nat => Ending.returned (.int .u64 (covTo ls n : Int))) HK.out, HB.out⟩
end Go.Proofs.Ytehnbalbpfmijaa
