/- Slices whose elements take a fixed number of plain cells: what they read as, how such a slice of the call's own grows and is written. No function of the program is named here. -/
import Derived.Test.YtiecphhenpapoaaOwnS
import Derived.Test.YtiecphhenpapoaaAppend
import Derived.Test.YtiecphhenpapoaaGrown
namespace Go.Proofs.Ytiecphhenpapoaa
open Go.RowKit

/-- A kind of element: its type, the slice's type, cells, bytes, zero, and the cells of one. -/
structure El (α : Type) where
  e : TypeId
  t : TypeId
  s : Nat
  b : Nat
  z : Value
  f : α → List Value
structure El.Ok {α : Type} (E : El α) (P : Program) : Prop where
  und : P.underlying E.t = some (.slice E.e)
  info : (P.info? E.e).map (fun i => (i.zero, i.size, i.bytes)) = some (some E.z, E.s, E.b)
  zs : E.z.cells.size = E.s
  pos : 0 < E.s
  few : E.b ≤ 1024
  len : ∀ x, (E.f x).length = E.s
  one : ∀ x, ∀ u ∈ E.f x, u.oneCell' = true

section
variable {α : Type} {E : El α} {P : Program}
theorem flat_length (h : ∀ x, (E.f x).length = E.s) : ∀ xs : List α, (xs.flatMap E.f).length = xs.length * E.s
  | [] => by simp
  | x :: xs => by rw [List.flatMap_cons, List.length_append, flat_length h xs, h, List.length_cons, Nat.succ_mul]; omega
theorem flat_get (h : ∀ x, (E.f x).length = E.s) : ∀ (xs : List α) (j i : Nat) (x : α), xs[j]? = some x → i < E.s → (xs.flatMap E.f)[j * E.s + i]? = (E.f x)[i]?
  | [], j, i, x, hx, _ => by simp at hx
  | y :: ys, 0, i, x, hx, hi => by
    simp only [List.getElem?_cons_zero, Option.some.injEq] at hx
    subst hx
    rw [List.flatMap_cons, Nat.zero_mul, Nat.zero_add, List.getElem?_append_left (by rw [h]; exact hi)]
  | y :: ys, j + 1, i, x, hx, hi => by
    rw [List.getElem?_cons_succ] at hx
    rw [List.flatMap_cons, List.getElem?_append_right (by rw [h, Nat.succ_mul]; omega), h, show (j + 1) * E.s + i - E.s = j * E.s + i by rw [Nat.succ_mul]; omega]
    exact flat_get h ys j i x hx hi
theorem flat_set (h : ∀ x, (E.f x).length = E.s) : ∀ (xs : List α) (j i : Nat) (x x' : α) (u : Value), xs[j]? = some x → i < E.s → E.f x' = (E.f x).set i u → (xs.set j x').flatMap E.f = (xs.flatMap E.f).set (j * E.s + i) u
  | [], j, i, x, x', u, hx, _, _ => by simp at hx
  | y :: ys, 0, i, x, x', u, hx, hi, he => by
    simp only [List.getElem?_cons_zero, Option.some.injEq] at hx
    subst hx
    rw [List.set_cons_zero, List.flatMap_cons, List.flatMap_cons, he, Nat.zero_mul, Nat.zero_add, List.set_append_left _ _ (by rw [h]; exact hi)]
  | y :: ys, j + 1, i, x, x', u, hx, hi, he => by
    rw [List.getElem?_cons_succ] at hx
    rw [List.set_cons_succ, List.flatMap_cons, List.flatMap_cons, List.set_append_right _ _ (by rw [h, Nat.succ_mul]; omega), h, show (j + 1) * E.s + i - E.s = j * E.s + i by rw [Nat.succ_mul]; omega,
      flat_set h ys j i x x' u hx hi he]

/-- v reads as the elements xs, below block B. -/
def RdF (E : El α) (w : World) (B : Nat) (v : Value) (xs : List α) : Prop :=
  ∃ A c, v = .slice A xs.length c ∧ xs.length ≤ c ∧ c ≤ maxLen ∧ ∀ j x, xs[j]? = some x → ∃ ad, A = some ad ∧ ad.block < B ∧ ∀ i u, (E.f x)[i]? = some u → w.cell? (ad.add (j * E.s + i)) = some u
theorem RdF.keep {w w' : World} {B : Nat} {v : Value} {xs : List α} (h : RdF E w B v xs) (hk : ∀ p : Addr, p.block < B → w'.cell? p = w.cell? p) : RdF E w' B v xs := by
  obtain ⟨A, c, e, h1, h2, h3⟩ := h
  refine ⟨A, c, e, h1, h2, fun j x hx => ?_⟩
  obtain ⟨ad, e2, hb, hc⟩ := h3 j x hx
  exact ⟨ad, e2, hb, fun i u hu => (hk _ (by rw [addBlock]; exact hb)).trans (hc i u hu)⟩
theorem RdF.below {w w' : World} {B : Nat} {v : Value} {xs : List α} (h : RdF E w B v xs) (hb : Below B w w') : RdF E w' B v xs := h.keep fun _ hp => hb.cell hp
theorem RdF.more {w : World} {B B' : Nat} {v : Value} {xs : List α} (h : RdF E w B v xs) (hB : B ≤ B') : RdF E w B' v xs := by
  obtain ⟨A, c, e, h1, h2, h3⟩ := h
  refine ⟨A, c, e, h1, h2, fun j x hx => ?_⟩
  obtain ⟨ad, e2, hb, hc⟩ := h3 j x hx
  exact ⟨ad, e2, by omega, hc⟩

/-- v owns a row of the elements xs in a block from lo on. -/
def OwnF (E : El α) (w : World) (lo : Nat) (v : Value) (xs : List α) : Prop := w.ownsRow lo E.e E.s v xs.length (xs.flatMap E.f)
section
variable {w w' : World} {lo lo' : Nat} {v : Value} {xs : List α}
theorem OwnF.lt (h : OwnF E w lo v xs) : ∀ k, v.ownBlock = some k → lo ≤ k ∧ k < w.heap.size := World.ownsRow.lt h
theorem OwnF.kept {row : Option Nat} (h : OwnF E w lo v xs) (hg : w.grownBy w' row) (hne : ∀ k, v.ownBlock = some k → some k = row → False) : OwnF E w' lo v xs :=
  World.ownsRow.kept h hg (by
    cases e : v.ownBlock
    · exact .inl rfl
    · exact .inr (fun e2 => hne _ e e2))
theorem OwnF.below (h : OwnF E w lo v xs) (hb : Below w.heap.size w w') : OwnF E w' lo v xs :=
  h.kept (row := none) ⟨hb.os, hb.tape, hb.output, hb.size, fun k hk _ => hb.block k hk⟩ fun _ _ e => by simp at e
theorem OwnF.mono (h : OwnF E w lo v xs) (hl : lo' ≤ lo) : OwnF E w lo' v xs := by
  refine ⟨h.1, ?_⟩
  rcases h.2 with h2 | ⟨g, cap, cur, e, hb, r⟩
  · exact .inl h2
  · exact .inr ⟨g, cap, cur, e, by omega, r⟩
theorem OwnF.rd (hE : E.Ok P) (h : OwnF E w lo v xs) : RdF E w w.heap.size v xs := by
  rcases h.2 with ⟨rfl, h0⟩ | ⟨g, cap, cur, rfl, hb, hh, hn, hm, hs, ht⟩
  · have : xs = [] := List.eq_nil_of_length_eq_zero h0
    subst this
    exact ⟨none, 0, rfl, Nat.le_refl _, Nat.zero_le _, fun j x hx => by simp at hx⟩
  · refine ⟨some ⟨g, 0, none⟩, cap, rfl, hn, hm, fun j x hx => ⟨_, rfl, (World.ownsRow.lt h g rfl).2, fun i u hu => ?_⟩⟩
    refine World.ownsRow.cells h rfl _ _ ?_
    have hi : i < E.s := by have := (List.getElem?_eq_some_iff.1 hu).1; rw [hE.len] at this; exact this
    rw [flat_get hE.len xs j i x hx hi]; exact hu
theorem OwnF.nil : OwnF E w lo (.slice none 0 0) ([] : List α) := by simpa [OwnF] using World.ownsRow_nil w lo E.e E.s
theorem OwnF.empty (hlo : lo ≤ w.heap.size) : OwnF E (w.alloc (.cells #[] E.e)) lo (.slice (some ⟨w.heap.size, 0, none⟩) 0 0) ([] : List α) := by
  simpa [OwnF] using World.ownsRow_lit (base := lo) (e := E.e) (size := E.s) w #[] 0 hlo (by simp [maxLen]) (by simp)
/-- One cell of one element is written. -/
theorem OwnF.store (hE : E.Ok P) {g cap : Nat} {x x' : α} {j i : Nat} {u : Value} (h : OwnF E w lo (.slice (some ⟨g, 0, none⟩) xs.length cap) xs) (hx : xs[j]? = some x) (hi : i < E.s) (he : E.f x' = (E.f x).set i u) :
    OwnF E (w.setCell ⟨g, j * E.s + i, none⟩ u) lo (.slice (some ⟨g, 0, none⟩) (xs.set j x').length cap) (xs.set j x') ∧ w.grownBy (w.setCell ⟨g, j * E.s + i, none⟩ u) (some g) ∧ lo ≤ g := by
  obtain ⟨h1, h2⟩ := World.ownsRow.stored h (j * E.s + i) u
  refine ⟨?_, h2, (World.ownsRow.lt h g rfl).1⟩
  unfold OwnF
  rw [flat_set hE.len xs j i x x' u hx hi he, List.length_set]
  exact h1
end

/-- A slice of the call's own that grows: w is the world at the call, wr the world now. -/
def Acc (E : El α) (w : World) (lo : Nat) (wr : World) (v : Value) (xs : List α) : Prop := OwnF E wr lo v xs ∧ Below w.heap.size w wr ∧ w.heap.size ≤ lo ∧ lo ≤ wr.heap.size
theorem Acc.nil (w : World) : Acc E w w.heap.size w (.slice none 0 0) ([] : List α) := ⟨OwnF.nil, Below.refl _ _, Nat.le_refl _, Nat.le_refl _⟩
theorem Acc.start (w : World) : Acc E w w.heap.size (w.alloc (.cells #[] E.e)) (.slice (some ⟨w.heap.size, 0, none⟩) 0 0) ([] : List α) :=
  ⟨OwnF.empty (Nat.le_refl _), (Below.refl _ _).alloc (Nat.le_refl _) _, Nat.le_refl _, by simp⟩
theorem Acc.startAt {w wr : World} {lo : Nat} (hb : Below w.heap.size w wr) (h1 : w.heap.size ≤ lo) (h2 : lo ≤ wr.heap.size) : Acc E w lo (wr.alloc (.cells #[] E.e)) (.slice (some ⟨wr.heap.size, 0, none⟩) 0 0) ([] : List α) :=
  ⟨OwnF.empty h2, hb.alloc hb.size _, h1, by simp; omega⟩
theorem Acc.below {w wr w1 : World} {lo : Nat} {v : Value} {xs : List α} (h : Acc E w lo wr v xs) (hb : Below wr.heap.size wr w1) : Acc E w lo w1 v xs :=
  ⟨h.1.below hb, h.2.1.trans (hb.mono h.2.1.size), h.2.2.1, Nat.le_trans h.2.2.2 hb.size⟩
/-- How a growing slice of the call's own leaves the rest: only its own row, in the block it had, may have been written. -/
def Grew (wr w1 : World) (v v' : Value) : Prop := wr.grownBy w1 v.ownBlock ∧ ∃ g, v'.ownBlock = some g ∧ (v.ownBlock = some g ∨ wr.heap.size ≤ g) ∧ g < w1.heap.size

theorem wpList_pushes (hE : E.Ok P) {ops : Array Oper} {rest : List Oper} {o : Oper} {a : Act} {Q : Exit → Act → World → Prop} (hgd : o.guard = none) (s x : Operand)
    (ho : o.op = .call { callee := .builtin .append, args := #[s, x], argTypes := #[E.t, E.t] }) {w wr : World} {lo : Nat} {v : Value} {xs : List α} (H : Acc E w lo wr v xs) (hs : a.eval s = v)
    (ys : List α) (m : Nat) (hm : m = ys.length) (hpos : 0 < m) (cs : Array Value) (hcs : cs.toList = ys.flatMap E.f) (h0 : Nat) (hx : a.eval x = .slice (some ⟨h0, 0, none⟩) m m) (hh : wr.heap.size = h0) (hl : xs.length + m ≤ 1073741824)
    (h : ∀ v' w', Hid (Acc E w lo w' v' (xs ++ ys)) → Hid (Grew wr w' v v') → wpList P ops Q rest (a.put o.dst v') w') :
    wpList P ops Q (o :: rest) a (wr.alloc (.cells cs E.e)) := by
  subst hm hh
  obtain ⟨i, hi, hzz⟩ := Option.map_eq_some_iff.1 hE.info
  simp only [Prod.mk.injEq] at hzz
  obtain ⟨hz, hsz, hby⟩ := hzz
  obtain ⟨h1, h2, h3, h4⟩ := H
  have hal := (Below.refl wr.heap.size wr).alloc (Nat.le_refl _) (.cells cs E.e)
  have hown := h1.below hal
  refine wpList_append_lies (P := P) _ hgd s x E.t ho lo E.e i E.z E.s E.b hE.und hi hz hsz hby hE.zs hE.pos v xs.length (xs.flatMap E.f) hs hown ⟨wr.heap.size, 0, none⟩ ys.length ys.length (ys.flatMap E.f) hx
    (flat_length hE.len ys) (by rw [← hcs]; exact World.news_of_block (heap_alloc_new wr _)) (fun u hu => ?_) hpos (by unfold maxLen; omega) ?_ (by simp; omega) (wr.heap.size + 1) (by simp) ?_
  · obtain ⟨y, _, hy⟩ := List.mem_flatMap.1 hu
    exact hE.one y u hy
  · have h5 := hE.few
    have : (xs.length + ys.length) * E.b ≤ 1073741824 * 1024 := Nat.mul_le_mul hl h5
    omega
  · intro g cap w' hown' hg hat hlt
    have hg2 : wr.grownBy w' v.ownBlock := ⟨hg.os, hg.tape, hg.output, Nat.le_trans (by simp) hg.size, fun k hk hne => (hg.block k (by simp; omega) hne).trans (Below.heap_alloc _ _ _ hk)⟩
    refine h (.slice (some ⟨g, 0, none⟩) (xs.length + ys.length) cap) w' ⟨?_, ?_, h3, ?_⟩ ⟨hg2, g, rfl, ?_, hlt⟩
    · unfold OwnF; rw [List.length_append, List.flatMap_append]; exact hown'
    · exact h2.grown hg2 h2.size fun k hk => by have := (h1.lt k hk).1; omega
    · have := hg2.size; omega
    · rcases hat with hat | hat
      · exact .inl hat
      · exact .inr (by omega)
theorem step_pushes (hE : E.Ok P) {ops : Array Oper} {o : Oper} {a : Act} {K : Act → World → Prop} {Q : Exit → Act → World → Prop} {X : Prop} (hgd : o.guard = none) (s x : Operand)
    (ho : o.op = .call { callee := .builtin .append, args := #[s, x], argTypes := #[E.t, E.t] }) {w wr : World} {lo : Nat} {v : Value} {xs : List α} (H : Acc E w lo wr v xs) (hs : a.eval s = v)
    (ys : List α) (m : Nat) (hm : m = ys.length) (hpos : 0 < m) (cs : Array Value) (hcs : cs.toList = ys.flatMap E.f) (h0 : Nat) (hx : a.eval x = .slice (some ⟨h0, 0, none⟩) m m) (hh : wr.heap.size = h0) (hl : xs.length + m ≤ 1073741824)
    (h : ∀ v' w', Hid (Acc E w lo w' v' (xs ++ ys)) → Hid (Grew wr w' v v') → K (a.put o.dst v') w') :
    if Region.wanted o (yielded ops a.tmps) = true then Oper.wp P o a (wr.alloc (.cells cs E.e)) K Q else X := by
  subst hm hh
  obtain ⟨i, hi, hzz⟩ := Option.map_eq_some_iff.1 hE.info
  simp only [Prod.mk.injEq] at hzz
  obtain ⟨hz, hsz, hby⟩ := hzz
  obtain ⟨h1, h2, h3, h4⟩ := H
  have hal := (Below.refl wr.heap.size wr).alloc (Nat.le_refl _) (.cells cs E.e)
  have hown := h1.below hal
  refine step_append_lies (P := P) _ hgd s x E.t ho lo E.e i E.z E.s E.b hE.und hi hz hsz hby hE.zs hE.pos v xs.length (xs.flatMap E.f) hs hown ⟨wr.heap.size, 0, none⟩ ys.length ys.length (ys.flatMap E.f) hx
    (flat_length hE.len ys) (by rw [← hcs]; exact World.news_of_block (heap_alloc_new wr _)) (fun u hu => ?_) hpos (by unfold maxLen; omega) ?_ (by simp; omega) (wr.heap.size + 1) (by simp) ?_
  · obtain ⟨y, _, hy⟩ := List.mem_flatMap.1 hu
    exact hE.one y u hy
  · have h5 := hE.few
    have : (xs.length + ys.length) * E.b ≤ 1073741824 * 1024 := Nat.mul_le_mul hl h5
    omega
  · intro g cap w' hown' hg hat hlt
    have hg2 : wr.grownBy w' v.ownBlock := ⟨hg.os, hg.tape, hg.output, Nat.le_trans (by simp) hg.size, fun k hk hne => (hg.block k (by simp; omega) hne).trans (Below.heap_alloc _ _ _ hk)⟩
    refine h (.slice (some ⟨g, 0, none⟩) (xs.length + ys.length) cap) w' ⟨?_, ?_, h3, ?_⟩ ⟨hg2, g, rfl, ?_, hlt⟩
    · unfold OwnF; rw [List.length_append, List.flatMap_append]; exact hown'
    · exact h2.grown hg2 h2.size fun k hk => by have := (h1.lt k hk).1; omega
    · have := hg2.size; omega
    · rcases hat with hat | hat
      · exact .inl hat
      · exact .inr (by omega)
theorem step_push (hE : E.Ok P) {ops : Array Oper} {o : Oper} {a : Act} {K : Act → World → Prop} {Q : Exit → Act → World → Prop} {X : Prop} (hgd : o.guard = none) (s x : Operand)
    (ho : o.op = .call { callee := .builtin .append, args := #[s, x], argTypes := #[E.t, E.t] }) {w wr : World} {lo : Nat} {v : Value} {xs : List α} (H : Acc E w lo wr v xs) (hs : a.eval s = v)
    (y : α) (cs : Array Value) (hcs : cs.toList = E.f y) (h0 : Nat) (hx : a.eval x = .slice (some ⟨h0, 0, none⟩) 1 1) (hh : wr.heap.size = h0) (hl : xs.length + 1 ≤ 1073741824)
    (h : ∀ v' w', Hid (Acc E w lo w' v' (xs ++ [y])) → Hid (Grew wr w' v v') → K (a.put o.dst v') w') :
    if Region.wanted o (yielded ops a.tmps) = true then Oper.wp P o a (wr.alloc (.cells cs E.e)) K Q else X :=
  step_pushes hE hgd s x ho H hs [y] 1 rfl (Nat.lt_succ_self _) cs (by rw [hcs]; simp) h0 hx hh hl h
theorem wpList_push (hE : E.Ok P) {ops : Array Oper} {rest : List Oper} {o : Oper} {a : Act} {Q : Exit → Act → World → Prop} (hgd : o.guard = none) (s x : Operand)
    (ho : o.op = .call { callee := .builtin .append, args := #[s, x], argTypes := #[E.t, E.t] }) {w wr : World} {lo : Nat} {v : Value} {xs : List α} (H : Acc E w lo wr v xs) (hs : a.eval s = v)
    (y : α) (cs : Array Value) (hcs : cs.toList = E.f y) (h0 : Nat) (hx : a.eval x = .slice (some ⟨h0, 0, none⟩) 1 1) (hh : wr.heap.size = h0) (hl : xs.length + 1 ≤ 1073741824)
    (h : ∀ v' w', Hid (Acc E w lo w' v' (xs ++ [y])) → Hid (Grew wr w' v v') → wpList P ops Q rest (a.put o.dst v') w') :
    wpList P ops Q (o :: rest) a (wr.alloc (.cells cs E.e)) :=
  wpList_pushes hE hgd s x ho H hs [y] 1 rfl (Nat.lt_succ_self _) cs (by rw [hcs]; simp) h0 hx hh hl h
/-- append of a whole slice. -/
theorem wpList_pushSrc (hE : E.Ok P) (hs1 : E.s = 1) {ops : Array Oper} {rest : List Oper} {o : Oper} {a : Act} {Q : Exit → Act → World → Prop} (hgd : o.guard = none) (s x : Operand)
    (ho : o.op = .call { callee := .builtin .append, args := #[s, x], argTypes := #[E.t, E.t] }) {w wr : World} {lo : Nat} {v : Value} {xs : List α} (H : Acc E w lo wr v xs) (hs : a.eval s = v)
    (ys : List α) (B : Nat) (A : Option Addr) (m c : Nat) (hr : Rd wr B A (ys.flatMap E.f)) (hx : a.eval x = .slice A m c) (hm : m = ys.length) (hl : xs.length + ys.length ≤ 1073741824)
    (h : ∀ v' w', Hid (Acc E w lo w' v' (xs ++ ys)) → Hid (wr.grownBy w' v.ownBlock ∧ (v'.ownBlock = v.ownBlock ∨ v'.ownBlock = some wr.heap.size)) → wpList P ops Q rest (a.put o.dst v') w') :
    wpList P ops Q (o :: rest) a wr := by
  obtain ⟨i, hi, hzz⟩ := Option.map_eq_some_iff.1 hE.info
  simp only [Prod.mk.injEq] at hzz
  obtain ⟨hz, hsz, hby⟩ := hzz
  obtain ⟨h1, h2, h3, h4⟩ := H
  have hown : wr.ownsRow lo E.e 1 v xs.length (xs.flatMap E.f) := by have := h1; unfold OwnF at this; rwa [hs1] at this
  have hly : (ys.flatMap E.f).length = ys.length := by rw [flat_length hE.len, hs1, Nat.mul_one]
  refine wpList_append_src wr hgd s x E.t ho lo E.e i E.z E.b hE.und hi hz (by rw [hsz, hs1]) hby (by rw [hE.zs, hs1]) v xs.length (xs.flatMap E.f) hs hown B A c m (ys.flatMap E.f) hx (by rw [hly, hm]) hr (fun u hu => ?_) (by unfold maxLen; omega) ?_ h4 ?_
  · obtain ⟨y, _, hy⟩ := List.mem_flatMap.1 hu
    exact hE.one y u hy
  · rw [hly]
    have h5 := hE.few
    have : (xs.length + ys.length) * E.b ≤ 1073741824 * 1024 := Nat.mul_le_mul hl h5
    omega
  · intro v' w' hown' hg hat
    refine h v' w' ⟨?_, h2.grown hg h2.size fun k hk => by have := (h1.lt k hk).1; omega, h3, by have := hg.size; omega⟩ ⟨hg, hat⟩
    unfold OwnF
    rw [List.length_append, List.flatMap_append, hs1, ← hly]
    exact hown'
end

/-- Integers, rows of one cell each (whatever their values). -/
def elInt : El Int := ⟨3, 32, 1, 8, .int .i64 0, fun z => [.int .i64 z]⟩
theorem okInt : elInt.Ok Try.prog := ⟨Try.underlying32, infoInt, rfl, by decide, by decide, fun _ => rfl, fun x u hu => by simp [elInt] at hu; subst hu; rfl⟩
theorem ownF_int {w : World} {lo : Nat} {v : Value} {zs : List Int} : OwnF elInt w lo v zs ↔ OwnI w lo v zs := by
  unfold OwnF OwnI
  have : zs.flatMap elInt.f = zs.map (Value.int .i64) := by
    induction zs with
    | nil => rfl
    | cons z zs ih => rw [List.flatMap_cons, ih]; rfl
  rw [this]; exact Iff.rfl
end Go.Proofs.Ytiecphhenpapoaa
