/- Slices whose elements are slices of the call's own, each in an interval of blocks of its own. No function of the program is named here. -/
import Derived.Test.YtpejphholomenaaFlat
import Derived.Test.YtpejphholomenaaAft
import Derived.Test.YtpejphholomenaaRetM
namespace Go.Proofs.Ytpejphholomenaa
open Go.RowKit

/-- A slice value, taken apart. -/
abbrev Sl := Option Addr × Nat × Nat
abbrev slV (s : Sl) : Value := .slice s.1 s.2.1 s.2.2
def elSl (e t : TypeId) : El Sl := ⟨e, t, 1, 24, .slice none 0 0, fun s => [slV s]⟩
theorem okSl {P : Program} {e t : TypeId} (h1 : P.underlying t = some (.slice e)) (h2 : (P.info? e).map (fun i => (i.zero, i.size, i.bytes)) = some (some (.slice none 0 0), 1, 24)) : (elSl e t).Ok P :=
  ⟨h1, h2, rfl, by show 0 < 1; omega, by show 24 ≤ 1024; omega, fun _ => rfl, fun x u hu => by simp [elSl] at hu; subst hu; rfl⟩

/-- A kind of thing that lies in an interval of blocks. -/
structure Kd (α : Type) where
  P : World → Nat → Nat → Value → α → Prop
  keep : ∀ {w w' : World} {lo hi : Nat} {v : Value} {x : α}, P w lo hi v x → w.heap.size ≤ w'.heap.size → (∀ k, lo ≤ k → k < hi → w'.heap[k]? = w.heap[k]?) → P w' lo hi v x
  mono : ∀ {w : World} {lo hi lo' hi' : Nat} {v : Value} {x : α}, P w lo hi v x → lo' ≤ lo → hi ≤ hi' → P w lo' hi' v x

theorem ownsRow_keep {w w' : World} {lo hi : Nat} {e : TypeId} {size n : Nat} {v : Value} {xs : List Value} (h : w.ownsRow lo e size v n xs) (hh : ∀ k, v.ownBlock = some k → k < hi) (hk : ∀ k, lo ≤ k → k < hi → w'.heap[k]? = w.heap[k]?) : w'.ownsRow lo e size v n xs := by
  refine ⟨h.1, ?_⟩
  rcases h.2 with hn | ⟨g, cap, cur, rfl, hb, hgg, rest⟩
  · exact .inl hn
  · exact .inr ⟨g, cap, cur, rfl, hb, (hk g hb (hh g rfl)).trans hgg, rest⟩
theorem ownsRow_mono {w : World} {lo lo' : Nat} {e : TypeId} {size n : Nat} {v : Value} {xs : List Value} (h : w.ownsRow lo e size v n xs) (hl : lo' ≤ lo) : w.ownsRow lo' e size v n xs := World.ownsRow.mono_base h hl

/-- Rows of plain elements. -/
def kdF {α : Type} (E : El α) : Kd (List α) where
  P w lo hi v xs := OwnF E w lo v xs ∧ ∀ k, v.ownBlock = some k → k < hi
  keep h _ hk := ⟨ownsRow_keep h.1 h.2 hk, h.2⟩
  mono h hl hh := ⟨h.1.mono hl, fun k hk => Nat.lt_of_lt_of_le (h.2 k hk) hh⟩
/-- Rows of rows of integers. -/
def kdM : Kd (List (List Int)) where
  P w lo hi v zss := OwnM w lo hi v zss
  keep := fun {w w' lo hi v x} h _ hk => by
    obtain ⟨vs, h1, h2, h3, h4, h5⟩ := h
    exact ⟨vs, ownsRow_keep h1 h5 hk, fun i u hu => ownsRow_keep (h2 i u hu) (fun k hk' => (h4 i u k hu hk').2) hk, h3, h4, h5⟩
  mono := fun {w lo hi lo' hi' v x} h hl hh => by
    obtain ⟨vs, h1, h2, h3, h4, h5⟩ := h.more hh
    exact ⟨vs, ownsRow_mono h1 hl, fun i u hu => (h2 i u hu).mono hl, h3, h4, h5⟩

section
variable {α : Type} {K : Kd α} {E : El Sl}
/-- The elements: each in an interval of its own, none with the block O. -/
def Els (K : Kd α) (w : World) (lo hi : Nat) (O : Option Nat) (ss : List Sl) (xs : List α) : Prop :=
  ss.length = xs.length ∧ ∃ a b : Nat → Nat, (∀ i s x, ss[i]? = some s → xs[i]? = some x → lo ≤ a i ∧ b i ≤ hi ∧ K.P w (a i) (b i) (slV s) x ∧ ∀ g, O = some g → g < a i ∨ b i ≤ g) ∧ ∀ i j, i < j → j < xs.length → b i ≤ a j
theorem Els.nil (w : World) (lo hi : Nat) (O : Option Nat) : Els K w lo hi O [] [] := ⟨rfl, fun _ => 0, fun _ => 0, fun i s x h => by simp at h, fun i j _ h => by simp at h⟩
theorem Els.kept {w w' : World} {lo hi : Nat} {O : Option Nat} {ss : List Sl} {xs : List α} (h : Els K w lo hi O ss xs) (hs : w.heap.size ≤ w'.heap.size) (hk : ∀ k, lo ≤ k → k < hi → O ≠ some k → w'.heap[k]? = w.heap[k]?) : Els K w' lo hi O ss xs := by
  obtain ⟨h1, a, b, h2, h3⟩ := h
  refine ⟨h1, a, b, fun i s x hi hx => ?_, h3⟩
  obtain ⟨p1, p2, p3, p4⟩ := h2 i s x hi hx
  exact ⟨p1, p2, K.keep p3 hs fun k q1 q2 => hk k (by omega) (by omega) (fun e => by have := p4 k e; omega), p4⟩
theorem Els.more {w : World} {lo hi lo' hi' : Nat} {O : Option Nat} {ss : List Sl} {xs : List α} (h : Els K w lo hi O ss xs) (hl : lo' ≤ lo) (hh : hi ≤ hi') : Els K w lo' hi' O ss xs := by
  obtain ⟨h1, a, b, h2, h3⟩ := h
  refine ⟨h1, a, b, fun i s x hi hx => ?_, h3⟩
  obtain ⟨p1, p2, p3, p4⟩ := h2 i s x hi hx
  exact ⟨by omega, by omega, p3, p4⟩

/-- A slice of such slices that grows: w the world at the call, wr the world now; the elements lie from lo on and below hi. -/
def NRel (K : Kd α) (E : El Sl) (w : World) (base lo : Nat) (wr : World) (hi : Nat) (v : Value) (xs : List α) : Prop :=
  ∃ ss, Acc E w base wr v ss ∧ Els K wr lo hi v.ownBlock ss xs ∧ hi ≤ wr.heap.size
theorem Acc.lt {β : Type} {F : El β} {w wr : World} {lo : Nat} {v : Value} {xs : List β} (h : Acc F w lo wr v xs) : ∀ k, v.ownBlock = some k → lo ≤ k ∧ k < wr.heap.size := h.1.lt
theorem NRel.below {w wr w1 : World} {base lo hi : Nat} {v : Value} {xs : List α} (h : NRel K E w base lo wr hi v xs) (hb : Below wr.heap.size wr w1) : NRel K E w base lo w1 hi v xs := by
  obtain ⟨ss, h1, h2, h3⟩ := h
  exact ⟨ss, h1.below hb, h2.kept hb.size fun k _ hk _ => hb.block k (by omega), Nat.le_trans h3 hb.size⟩
/-- It is kept where neither the outer block nor the elements' blocks are written. -/
theorem NRel.kept {w wr w1 : World} {base lo hi : Nat} {v : Value} {xs : List α} (h : NRel K E w base lo wr hi v xs) (hb : Below w.heap.size w w1) (hs : wr.heap.size ≤ w1.heap.size) (ho : ∀ k, v.ownBlock = some k → w1.heap[k]? = wr.heap[k]?) (hk : ∀ k, lo ≤ k → k < hi → w1.heap[k]? = wr.heap[k]?) : NRel K E w base lo w1 hi v xs := by
  obtain ⟨ss, ⟨q1, q2, q3, q4⟩, h2, h3⟩ := h
  refine ⟨ss, ⟨?_, hb, q3, by omega⟩, h2.kept hs fun k p1 p2 _ => hk k p1 p2, by omega⟩
  refine ⟨q1.1, ?_⟩
  rcases q1.2 with hn | ⟨g, cap, cur, rfl, hb', hgg, rest⟩
  · exact .inl hn
  · exact .inr ⟨g, cap, cur, rfl, hb', (ho g rfl).trans hgg, rest⟩
theorem NRel.push {w wr w' : World} {base lo hi a b : Nat} {v v' : Value} {ss : List Sl} {xs : List α} {s : Sl} {x : α} (h2 : Els K wr lo hi v.ownBlock ss xs) (hh : hi ≤ wr.heap.size) (hx : K.P wr a b (slV s) x) (hl : lo ≤ a) (ha : hi ≤ a) (hb : b ≤ wr.heap.size) (hv : ∀ g, v.ownBlock = some g → g < a ∨ b ≤ g)
    (hA : Hid (Acc E w base w' v' (ss ++ [s]))) (hG : Hid (Grew wr w' v v')) : NRel K E w base lo w' w'.heap.size v' (xs ++ [x]) := by
  obtain ⟨g1, g, g2, g3, g4⟩ := hG.out
  have hs := g1.size
  obtain ⟨e1, fa, fb, e2, e3⟩ := h2.kept (w' := w') hs fun k p1 p2 p3 => g1.block k (by omega) (fun e => p3 e.symm)
  have hx' : K.P w' a b (slV s) x := K.keep hx hs fun k p1 p2 => g1.block k (by omega) (fun e => by have := hv k e.symm; omega)
  have hget : ∀ i s' x', (ss ++ [s])[i]? = some s' → (xs ++ [x])[i]? = some x' → (i < xs.length ∧ ss[i]? = some s' ∧ xs[i]? = some x') ∨ (i = xs.length ∧ s' = s ∧ x' = x) := fun i s' x' h1 h2 => by
    by_cases e : i < xs.length
    · rw [List.getElem?_append_left (by omega)] at h1
      rw [List.getElem?_append_left e] at h2
      exact .inl ⟨e, h1, h2⟩
    · rw [List.getElem?_append_right (by omega)] at h1 h2
      by_cases e2 : i = xs.length
      · subst e2; rw [e1] at h1; simp at h1 h2; exact .inr ⟨rfl, h1.symm, h2.symm⟩
      · rw [List.getElem?_eq_none (by simp; omega)] at h2; simp at h2
  refine ⟨_, hA.out, ⟨by simp [e1], fun i => if i < xs.length then fa i else a, fun i => if i < xs.length then fb i else b, fun i s' x' h1 h2 => ?_, fun i j hij hj => ?_⟩, Nat.le_refl _⟩
  · rcases hget i s' x' h1 h2 with ⟨q, r1, r2⟩ | ⟨q, r1, r2⟩
    · simp only [q, if_true]
      obtain ⟨p1, p2, p3, p4⟩ := e2 i s' x' r1 r2
      refine ⟨p1, by omega, p3, fun k hk => ?_⟩
      rw [g2] at hk
      obtain rfl := Option.some.inj hk
      rcases g3 with g3 | g3
      · exact p4 g g3
      · exact .inr (by omega)
    · subst r1 r2
      simp only [show ¬ i < xs.length by omega, if_false]
      refine ⟨hl, by omega, hx', fun k hk => ?_⟩
      rw [g2] at hk
      obtain rfl := Option.some.inj hk
      rcases g3 with g3 | g3
      · exact hv g g3
      · exact .inr (by omega)
  · simp only [List.length_append, List.length_singleton] at hj
    simp only [show i < xs.length by omega, if_true]
    by_cases e : j < xs.length
    · simp only [e, if_true]; exact e3 i j hij e
    · simp only [e, if_false]
      obtain ⟨s', hs'⟩ : ∃ s', ss[i]? = some s' := ⟨_, List.getElem?_eq_getElem (by omega)⟩
      obtain ⟨x', hx'⟩ : ∃ x', xs[i]? = some x' := ⟨_, List.getElem?_eq_getElem (by omega)⟩
      have := (e2 i s' x' hs' hx').2.1
      omega
/-- A whole slice of such slices is appended. -/
theorem NRel.append {w wr w' : World} {base lo hi lo2 hi2 : Nat} {v v' : Value} {O2 : Option Nat} {ss ss2 : List Sl} {xs ys : List α} (h2 : Els K wr lo hi v.ownBlock ss xs) (hh : hi ≤ wr.heap.size) (hy : Els K wr lo2 hi2 O2 ss2 ys) (hl : lo ≤ lo2) (ha : hi ≤ lo2) (hb : hi2 ≤ wr.heap.size) (hv : ∀ g, v.ownBlock = some g → g < lo2 ∨ hi2 ≤ g)
    (hA : Hid (Acc E w base w' v' (ss ++ ss2))) (hG : Hid (wr.grownBy w' v.ownBlock ∧ (v'.ownBlock = v.ownBlock ∨ v'.ownBlock = some wr.heap.size))) : NRel K E w base lo w' w'.heap.size v' (xs ++ ys) := by
  obtain ⟨g1, g3⟩ := hG.out
  have hs := g1.size
  obtain ⟨e1, fa, fb, e2, e3⟩ := h2.kept (w' := w') hs fun k p1 p2 p3 => g1.block k (by omega) (fun e => p3 e.symm)
  obtain ⟨y1, ya, yb, y2, y3⟩ := hy
  have hget : ∀ i s' x', (ss ++ ss2)[i]? = some s' → (xs ++ ys)[i]? = some x' → (i < xs.length ∧ ss[i]? = some s' ∧ xs[i]? = some x') ∨ (xs.length ≤ i ∧ ss2[i - xs.length]? = some s' ∧ ys[i - xs.length]? = some x') := fun i s' x' h1 h2 => by
    by_cases e : i < xs.length
    · rw [List.getElem?_append_left (by omega)] at h1
      rw [List.getElem?_append_left e] at h2
      exact .inl ⟨e, h1, h2⟩
    · rw [List.getElem?_append_right (by omega), e1] at h1
      rw [List.getElem?_append_right (by omega)] at h2
      exact .inr ⟨by omega, h1, h2⟩
  refine ⟨_, hA.out, ⟨by simp [e1, y1], fun i => if i < xs.length then fa i else ya (i - xs.length), fun i => if i < xs.length then fb i else yb (i - xs.length), fun i s' x' h1 h2 => ?_, fun i j hij hj => ?_⟩, Nat.le_refl _⟩
  · rcases hget i s' x' h1 h2 with ⟨q, r1, r2⟩ | ⟨q, r1, r2⟩
    · simp only [q, if_true]
      obtain ⟨p1, p2, p3, p4⟩ := e2 i s' x' r1 r2
      refine ⟨p1, by omega, p3, fun k hk => ?_⟩
      rcases g3 with g3 | g3
      · exact p4 k (by rw [← g3]; exact hk)
      · rw [g3] at hk; obtain rfl := Option.some.inj hk; exact .inr (by omega)
    · simp only [show ¬ i < xs.length by omega, if_false]
      obtain ⟨p1, p2, p3, p4⟩ := y2 _ s' x' r1 r2
      refine ⟨by omega, by omega, K.keep p3 hs fun k q1 q2 => g1.block k (by omega) (fun e => by have := hv k e.symm; omega), fun k hk => ?_⟩
      rcases g3 with g3 | g3
      · have := hv k (by rw [← g3]; exact hk); omega
      · rw [g3] at hk; obtain rfl := Option.some.inj hk; exact .inr (by omega)
  · simp only [List.length_append] at hj
    by_cases e : j < xs.length
    · simp only [e, show i < xs.length by omega, if_true]; exact e3 i j hij e
    · simp only [e, if_false]
      obtain ⟨sj, hsj⟩ : ∃ s', ss2[j - xs.length]? = some s' := ⟨_, List.getElem?_eq_getElem (by omega)⟩
      obtain ⟨xj, hxj⟩ : ∃ x', ys[j - xs.length]? = some x' := ⟨_, List.getElem?_eq_getElem (by omega)⟩
      by_cases ei : i < xs.length
      · simp only [ei, if_true]
        obtain ⟨s', hs'⟩ : ∃ s', ss[i]? = some s' := ⟨_, List.getElem?_eq_getElem (by omega)⟩
        obtain ⟨x', hx'⟩ : ∃ x', xs[i]? = some x' := ⟨_, List.getElem?_eq_getElem (by omega)⟩
        have := (e2 i s' x' hs' hx').2.1
        have := (y2 _ sj xj hsj hxj).1
        omega
      · simp only [ei, if_false]
        exact y3 _ _ (by omega) (by omega)
end

/-! ### Reading -/
/-- v reads as a list of things, each of which reads by R. -/
def RdN {α : Type} (R : World → Nat → Value → α → Prop) (w : World) (B : Nat) (v : Value) (xs : List α) : Prop :=
  ∃ A c, v = .slice A xs.length c ∧ xs.length ≤ c ∧ c ≤ maxLen ∧ ∀ i x, xs[i]? = some x → ∃ (ad : Addr) (s : Sl), A = some ad ∧ ad.block < B ∧ w.cell? (ad.add i) = some (slV s) ∧ R w B (slV s) x
theorem NRel.rdN {α : Type} {K : Kd α} {e t : TypeId} {P : Program} {R : World → Nat → Value → α → Prop} {w wr : World} {base lo hi : Nat} {v : Value} {xs : List α} (hE : (elSl e t).Ok P) (hR : ∀ a b s x, b ≤ wr.heap.size → K.P wr a b (slV s) x → R wr wr.heap.size (slV s) x) (h : NRel K (elSl e t) w base lo wr hi v xs) : RdN R wr wr.heap.size v xs := by
  obtain ⟨ss, ⟨q1, _⟩, ⟨h1, a, b, h2, _⟩, h3⟩ := h
  obtain ⟨A, c, hv, l1, l2, hr⟩ := q1.rd hE
  rw [h1] at hv l1
  refine ⟨A, c, hv, l1, l2, fun i x hx => ?_⟩
  have hi : i < xs.length := (List.getElem?_eq_some_iff.1 hx).1
  have hs : ss[i]? = some (ss[i]'(by omega)) := List.getElem?_eq_getElem (by omega)
  obtain ⟨ad, e1, e2, e3⟩ := hr i _ hs
  obtain ⟨_, p2, p3, _⟩ := h2 i _ x hs hx
  refine ⟨ad, _, e1, e2, ?_, hR _ _ _ _ (by omega) p3⟩
  have := e3 0 _ rfl
  simpa [elSl] using this
theorem RdN.below {α : Type} {R : World → Nat → Value → α → Prop} {w w' : World} {B : Nat} {v : Value} {xs : List α} (hR : ∀ s x, R w B (slV s) x → R w' B (slV s) x) (h : RdN R w B v xs) (hb : Below B w w') : RdN R w' B v xs := by
  obtain ⟨A, c, hv, l1, l2, hr⟩ := h
  refine ⟨A, c, hv, l1, l2, fun i x hx => ?_⟩
  obtain ⟨ad, s, e1, e2, e3, e4⟩ := hr i x hx
  exact ⟨ad, s, e1, e2, (hb.cell (by rw [addBlock]; exact e2)).trans e3, hR s x e4⟩
end Go.Proofs.Ytpejphholomenaa
