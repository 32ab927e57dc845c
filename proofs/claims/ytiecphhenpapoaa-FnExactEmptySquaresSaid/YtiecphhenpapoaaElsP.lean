/- A list of rows of the call's own, and beside it one row that grows and shrinks: what a recursive closure that lists things owns. No function of the program is named here. -/
import Derived.Test.YtiecphhenpapoaaOwnM
import Derived.Test.YtiecphhenpapoaaBlk
namespace Go.Proofs.Ytiecphhenpapoaa
open Go.RowKit
set_option linter.unusedVariables false

section
variable {α : Type} {K : Kd α}
/-- The elements: each in an interval of its own, none with a block of O. -/
def ElsP (K : Kd α) (w : World) (lo hi : Nat) (O : Nat → Prop) (ss : List Sl) (xs : List α) : Prop :=
  ss.length = xs.length ∧ ∃ a b : Nat → Nat, (∀ i s x, ss[i]? = some s → xs[i]? = some x → lo ≤ a i ∧ b i ≤ hi ∧ K.P w (a i) (b i) (slV s) x ∧ ∀ g, O g → g < a i ∨ b i ≤ g) ∧ ∀ i j, i < j → j < xs.length → b i ≤ a j
theorem ElsP.nil (w : World) (lo hi : Nat) (O : Nat → Prop) : ElsP K w lo hi O [] [] := ⟨rfl, fun _ => 0, fun _ => 0, fun i s x h => by simp at h, fun i j _ h => by simp at h⟩
theorem ElsP.kept {w w' : World} {lo hi : Nat} {O : Nat → Prop} {ss : List Sl} {xs : List α} (h : ElsP K w lo hi O ss xs) (hs : w.heap.size ≤ w'.heap.size) (hk : ∀ k, lo ≤ k → k < hi → ¬ O k → w'.heap[k]? = w.heap[k]?) : ElsP K w' lo hi O ss xs := by
  obtain ⟨h1, a, b, h2, h3⟩ := h
  refine ⟨h1, a, b, fun i s x hi hx => ?_, h3⟩
  obtain ⟨p1, p2, p3, p4⟩ := h2 i s x hi hx
  exact ⟨p1, p2, K.keep p3 hs fun k q1 q2 => hk k (by omega) (by omega) (fun e => by have := p4 k e; omega), p4⟩
theorem ElsP.excl {w : World} {lo hi : Nat} {O O' : Nat → Prop} {ss : List Sl} {xs : List α} (h : ElsP K w lo hi O ss xs) (ho : ∀ g, O' g → O g ∨ hi ≤ g ∨ g < lo) : ElsP K w lo hi O' ss xs := by
  obtain ⟨h1, a, b, h2, h3⟩ := h
  refine ⟨h1, a, b, fun i s x hi hx => ?_, h3⟩
  obtain ⟨p1, p2, p3, p4⟩ := h2 i s x hi hx
  refine ⟨p1, p2, p3, fun g hg => ?_⟩
  rcases ho g hg with h | h | h
  · exact p4 g h
  · exact .inr (by omega)
  · exact .inl (by omega)
theorem ElsP.els {w : World} {lo hi : Nat} {O : Nat → Prop} {o : Option Nat} {ss : List Sl} {xs : List α} (h : ElsP K w lo hi O ss xs) (ho : ∀ g, o = some g → O g) : Els K w lo hi o ss xs := by
  obtain ⟨h1, a, b, h2, h3⟩ := h
  refine ⟨h1, a, b, fun i s x hi hx => ?_, h3⟩
  obtain ⟨p1, p2, p3, p4⟩ := h2 i s x hi hx
  exact ⟨p1, p2, p3, fun g hg => p4 g (ho g hg)⟩
theorem ElsP.push {w : World} {lo hi hi' a b : Nat} {O : Nat → Prop} {ss : List Sl} {xs : List α} {s : Sl} {x : α} (h : ElsP K w lo hi O ss xs) (hx : K.P w a b (slV s) x) (hl : lo ≤ a) (ha : hi ≤ a) (hb : b ≤ hi') (hh : hi ≤ hi') (hO : ∀ g, O g → g < a ∨ b ≤ g) : ElsP K w lo hi' O (ss ++ [s]) (xs ++ [x]) := by
  obtain ⟨e1, fa, fb, e2, e3⟩ := h
  refine ⟨by simp [e1], fun i => if i < xs.length then fa i else a, fun i => if i < xs.length then fb i else b, fun i s' x' h1 h2 => ?_, fun i j hij hj => ?_⟩
  · by_cases e : i < xs.length
    · rw [List.getElem?_append_left (by omega)] at h1
      rw [List.getElem?_append_left e] at h2
      simp only [e, if_true]
      obtain ⟨p1, p2, p3, p4⟩ := e2 i s' x' h1 h2
      exact ⟨p1, by omega, p3, p4⟩
    · rw [List.getElem?_append_right (by omega)] at h1 h2
      by_cases e4 : i = xs.length
      · subst e4
        rw [e1] at h1
        simp at h1 h2
        subst h1 h2
        simp only [Nat.lt_irrefl, if_false]
        exact ⟨hl, hb, hx, hO⟩
      · rw [List.getElem?_eq_none (by simp; omega)] at h2; simp at h2
  · simp only [List.length_append, List.length_singleton] at hj
    simp only [show i < xs.length by omega, if_true]
    by_cases e : j < xs.length
    · simp only [e, if_true]; exact e3 i j hij e
    · simp only [e, if_false]
      obtain ⟨s', hs'⟩ : ∃ s', ss[i]? = some s' := ⟨_, List.getElem?_eq_getElem (by omega)⟩
      obtain ⟨x', hx'⟩ : ∃ x', xs[i]? = some x' := ⟨_, List.getElem?_eq_getElem (by omega)⟩
      have := (e2 i s' x' hs' hx').2.1
      omega
end

section
variable {α : Type} {E : El α}
theorem OwnF.same {w w' : World} {lo : Nat} {v : Value} {xs : List α} (h : OwnF E w lo v xs) (hk : ∀ k, v.ownBlock = some k → w'.heap[k]? = w.heap[k]?) : OwnF E w' lo v xs := by
  refine ⟨h.1, ?_⟩
  rcases h.2 with hn | ⟨g, cap, cur, rfl, hb, hgg, rest⟩
  · exact .inl hn
  · exact .inr ⟨g, cap, cur, rfl, hb, (hk g rfl).trans hgg, rest⟩
/-- The last element is cut off. -/
theorem OwnF.pop (hE : ∀ x, (E.f x).length = E.s) {w : World} {lo : Nat} {v : Value} {xs : List α} {x : α} (h : OwnF E w lo v (xs ++ [x])) :
    ∃ g c, v = .slice (some ⟨g, 0, none⟩) (xs.length + 1) c ∧ xs.length + 1 ≤ c ∧ c ≤ maxLen ∧ OwnF E w lo (.slice (some ⟨g, 0, none⟩) xs.length c) xs := by
  rcases h.2 with ⟨_, h0⟩ | ⟨g, cap, cur, hv, hb, hgg, h1, h2, h3, h4⟩
  · simp at h0
  · simp only [List.length_append, List.length_singleton] at hv h1 h4
    refine ⟨g, cap, hv, h1, h2, flat_length hE xs, .inr ⟨g, cap, cur, rfl, hb, hgg, by omega, h2, h3, ?_⟩⟩
    rw [List.flatMap_append] at h4
    have h5 := congrArg (List.take (xs.length * E.s)) h4
    rw [List.take_take, Nat.min_eq_left (Nat.mul_le_mul_right _ (by omega)), List.take_append_of_le_length (by rw [flat_length hE]; exact Nat.le_refl _), List.take_of_length_le (l := xs.flatMap E.f) (by rw [flat_length hE]; exact Nat.le_refl _)] at h5
    exact h5
theorem OwnF.rdFull {P : Program} (hE : E.Ok P) {w : World} {lo : Nat} {v : Value} {xs : List α} (h : OwnF E w lo v xs) : RdF E w w.heap.size v xs := h.rd hE

/-- Where the list and the row lie. -/
structure TLay where
  po : Nat
  pw : Nat
  o0 : Nat
  m0 : Nat
  lo : Nat
  lo2 : Nat
structure TLay.Ok (L : TLay) : Prop where
  o : L.lo ≤ L.o0
  m : L.lo ≤ L.m0
  o2 : L.o0 < L.lo2
  m2 : L.m0 < L.lo2
  p2 : L.po < L.lo2
  w2 : L.pw < L.lo2
  om : L.o0 ≠ L.m0
  pw_ : L.po ≠ L.pw
  po0 : L.po ≠ L.o0
  pm0 : L.po ≠ L.m0
  wo0 : L.pw ≠ L.o0
  wm0 : L.pw ≠ L.m0
  lp : L.lo ≤ L.po
  lw : L.lo ≤ L.pw
/-- All other blocks below stay. -/
def Fix (L : TLay) (w w' : World) : Prop := ∀ k, k < L.lo2 → k ≠ L.po → k ≠ L.pw → k ≠ L.o0 → k ≠ L.m0 → w'.heap[k]? = w.heap[k]?
theorem Fix.refl (L : TLay) (w : World) : Fix L w w := fun _ _ _ _ _ _ => rfl
theorem Fix.trans {L : TLay} {a b c : World} (h : Fix L a b) (h' : Fix L b c) : Fix L a c := fun k h1 h2 h3 h4 h5 => (h' k h1 h2 h3 h4 h5).trans (h k h1 h2 h3 h4 h5)
theorem Fix.below {L : TLay} {a b : World} (h : Below a.heap.size a b) (hl : L.lo2 ≤ a.heap.size) : Fix L a b := fun k h1 _ _ _ _ => h.block k (by omega)

structure TS (E : El α) (ES : El Sl) (w0 : World) (L : TLay) (wr : World) (vo vw : Value) (ho : Nat) (ss : List Sl) (hd : List α) (os : List (List α)) : Prop where
  co : wr.heap[L.po]? = some (.cells #[vo] ES.t (0, 0))
  cw : wr.heap[L.pw]? = some (.cells #[vw] E.t (0, 0))
  ao : Acc ES w0 L.lo wr vo ss
  aw : Acc E w0 L.lo wr vw hd
  el : ElsP (kdF E) wr L.lo2 ho (fun g => vo.ownBlock = some g ∨ vw.ownBlock = some g) ss os
  lh : L.lo2 ≤ ho
  hs : ho ≤ wr.heap.size
  bo : ∀ g, vo.ownBlock = some g → g = L.o0 ∨ L.lo2 ≤ g
  bw : ∀ g, vw.ownBlock = some g → g = L.m0 ∨ L.lo2 ≤ g
  ne : ∀ g, vo.ownBlock = some g → vw.ownBlock ≠ some g
def TSt (E : El α) (ES : El Sl) (w0 : World) (L : TLay) (wr : World) (hd : List α) (os : List (List α)) : Prop := ∃ vo vw ho ss, TS E ES w0 L wr vo vw ho ss hd os

variable {ES : El Sl} {w0 wr w1 w2 : World} {L : TLay} {vo vw v' : Value} {ho : Nat} {ss : List Sl} {hd : List α} {os : List (List α)} {x : α}
theorem TS.below (h : TS E ES w0 L wr vo vw ho ss hd os) (hb : Below wr.heap.size wr w1) : TS E ES w0 L w1 vo vw ho ss hd os :=
  ⟨(hb.block _ (lt_of_block h.co)).trans h.co, (hb.block _ (lt_of_block h.cw)).trans h.cw, h.ao.below hb, h.aw.below hb, h.el.kept hb.size fun k _ hk _ => hb.block k (by have := h.hs; omega), h.lh, Nat.le_trans h.hs hb.size, h.bo, h.bw, h.ne⟩
theorem TS.fix (h : TS E ES w0 L wr vo vw ho ss hd os) (hb : Below wr.heap.size wr w1) : Fix L wr w1 := Fix.below hb (Nat.le_trans h.lh h.hs)
theorem TS.big (h : TS E ES w0 L wr vo vw ho ss hd os) : Below w0.heap.size w0 wr := h.ao.2.1
theorem TS.cello (h : TS E ES w0 L wr vo vw ho ss hd os) : wr.cell? ⟨L.po, 0, none⟩ = some vo := cell_of_one h.co
theorem TS.cellw (h : TS E ES w0 L wr vo vw ho ss hd os) : wr.cell? ⟨L.pw, 0, none⟩ = some vw := cell_of_one h.cw
theorem TS.lenw {P : Program} (hE : E.Ok P) (h : TS E ES w0 L wr vo vw ho ss hd os) : ∃ A c, vw = .slice A hd.length c ∧ hd.length ≤ c ∧ c ≤ maxLen := by
  obtain ⟨A, c, hv, h1, h2, _⟩ := h.aw.1.rd hE; exact ⟨A, c, hv, h1, h2⟩
theorem TS.leno {P : Program} (hE : ES.Ok P) (h : TS E ES w0 L wr vo vw ho ss hd os) : ∃ A c, vo = .slice A ss.length c ∧ ss.length ≤ c ∧ c ≤ maxLen := by
  obtain ⟨A, c, hv, h1, h2, _⟩ := h.ao.1.rd hE; exact ⟨A, c, hv, h1, h2⟩
/-- The row grows by one. -/
theorem TS.pushOwn (hL : L.Ok) (h : TS E ES w0 L wr vo vw ho ss hd os) (HA : Acc E w0 L.lo w2 v' (hd ++ [x])) (HG : Grew wr w2 vw v') :
    TS E ES w0 L (w2.setCell ⟨L.pw, 0, none⟩ v') vo v' ho ss (hd ++ [x]) os ∧ Fix L wr (w2.setCell ⟨L.pw, 0, none⟩ v') ∧ (∃ u, w2.heap[L.pw]? = some (.cells #[u] E.t (0, 0))) := by
  obtain ⟨g1, g, g2, g3, g4⟩ := HG
  have l1 := hL.w2; have l2 := hL.p2; have l3 := hL.o2; have l4 := hL.m2; have l5 := hL.pw_; have l6 := hL.wo0; have l7 := hL.wm0; have l8 := hL.po0; have l9 := hL.pm0; have l10 := hL.om; have l11 := hL.lw
  have hlo := Nat.le_trans h.lh h.hs
  have hsame : ∀ k, k < wr.heap.size → vw.ownBlock ≠ some k → k ≠ L.pw → (w2.setCell ⟨L.pw, 0, none⟩ v').heap[k]? = wr.heap[k]? := fun k k1 k2 k3 =>
    (Below.heap_setCell _ _ _ _ (by show k ≠ L.pw; exact k3)).trans (g1.block k k1 (fun e => k2 e.symm))
  have hpw : w2.heap[L.pw]? = some (.cells #[vw] E.t (0, 0)) := (g1.block L.pw (by omega) (fun e => by have := h.bw L.pw e.symm; omega)).trans h.cw
  have hgb : g = L.m0 ∨ L.lo2 ≤ g := by
    rcases g3 with g3 | g3
    · exact h.bw g g3
    · exact .inr (by omega)
  have hw0 : w0.heap.size ≤ L.pw := Nat.le_trans h.aw.2.2.1 l11
  refine ⟨⟨?_, ?_, ⟨h.ao.1.same fun k hk => ?_, HA.2.1.setCell hw0 _, h.ao.2.2.1, by simpa using HA.2.2.2⟩, ⟨HA.1.same fun k hk => Below.heap_setCell _ _ _ _ ?_, HA.2.1.setCell hw0 _, HA.2.2.1, by simpa using HA.2.2.2⟩, ?_, h.lh, ?_, h.bo, ?_, ?_⟩, ?_, ⟨_, hpw⟩⟩
  · exact (hsame L.po (by omega) (fun e => by have := h.bw _ e; omega) l5).trans h.co
  · exact (blk_setCell hpw _).trans (by simp)
  · exact hsame k ((h.ao.1.lt k hk).2) (h.ne k hk) (by have := h.bo k hk; omega)
  · rw [g2] at hk; obtain rfl := Option.some.inj hk; show g ≠ L.pw; omega
  · refine (h.el.kept (w' := w2.setCell ⟨L.pw, 0, none⟩ v') (by simpa using g1.size) fun k k1 k2 k3 => hsame k (by have := h.hs; omega) (fun e => k3 (.inr e)) (by omega)).excl fun k hk => ?_
    rcases hk with hk | hk
    · exact .inl (.inl hk)
    · rw [g2] at hk
      obtain rfl := Option.some.inj hk
      rcases g3 with g3 | g3
      · exact .inl (.inr g3)
      · exact .inr (.inl (by have := h.hs; omega))
  · simpa using Nat.le_trans h.hs g1.size
  · intro k hk; rw [g2] at hk; obtain rfl := Option.some.inj hk; exact hgb
  · intro k hk e
    rw [g2] at e
    obtain rfl := Option.some.inj e
    rcases g3 with g3 | g3
    · exact h.ne g hk g3
    · have := (h.ao.1.lt g hk).2; omega
  · intro k k1 k2 k3 k4 k5
    exact hsame k (by omega) (fun e => by have := h.bw k e; omega) k3
/-- The row's last element is cut off. -/
theorem TS.popOwn (hE : ∀ x, (E.f x).length = E.s) (hL : L.Ok) (h : TS E ES w0 L wr vo vw ho ss (hd ++ [x]) os) :
    ∃ g c, vw = .slice (some ⟨g, 0, none⟩) (hd.length + 1) c ∧ hd.length + 1 ≤ c ∧ c ≤ maxLen ∧
      Hid (TS E ES w0 L (wr.setCell ⟨L.pw, 0, none⟩ (.slice (some ⟨g, 0, none⟩) hd.length c)) vo (.slice (some ⟨g, 0, none⟩) hd.length c) ho ss hd os ∧ Fix L wr (wr.setCell ⟨L.pw, 0, none⟩ (.slice (some ⟨g, 0, none⟩) hd.length c))) := by
  obtain ⟨g, c, rfl, h1, h2, h3⟩ := h.aw.1.pop hE
  have l1 := hL.w2; have l2 := hL.p2; have l3 := hL.o2; have l4 := hL.m2; have l5 := hL.pw_; have l6 := hL.wo0; have l7 := hL.wm0; have l8 := hL.po0; have l9 := hL.pm0; have l10 := hL.om; have l11 := hL.lw
  have hw0 : w0.heap.size ≤ L.pw := Nat.le_trans h.aw.2.2.1 l11
  have hb := h.bw g rfl
  have hsame : ∀ k, k ≠ L.pw → (wr.setCell ⟨L.pw, 0, none⟩ (.slice (some ⟨g, 0, none⟩) hd.length c)).heap[k]? = wr.heap[k]? := fun k k3 => Below.heap_setCell _ _ _ _ k3
  refine ⟨g, c, rfl, h1, h2, ⟨?_, ?_, ⟨h.ao.1.same fun k hk => hsame k (by have := h.bo k hk; omega), h.ao.2.1.setCell hw0 _, h.ao.2.2.1, by simpa using h.ao.2.2.2⟩, ⟨h3.same fun k hk => hsame k ?_, h.aw.2.1.setCell hw0 _, h.aw.2.2.1, by simpa using h.aw.2.2.2⟩, ?_, h.lh, by simpa using h.hs, h.bo, h.bw, h.ne⟩, fun k k1 k2 k3 k4 k5 => hsame k k3⟩
  · exact (hsame _ l5).trans h.co
  · exact (blk_setCell h.cw _).trans (by simp)
  · simp only [Value.ownBlock, Option.some.injEq] at hk; subst hk; omega
  · exact h.el.kept (by simp) fun k k1 k2 k3 => hsame k (by omega)
/-- A row is added to the list. -/
theorem TS.pushOut {p : Nat} {s : Sl} {y : List α} (hL : L.Ok) (h : TS E ES w0 L wr vo vw ho ss hd os) (hp : ho ≤ p) (hpw : p ≤ wr.heap.size) (hx : OwnF E wr p (slV s) y) (hvw : ∀ g, vw.ownBlock = some g → g < p) (hvo : ∀ g, vo.ownBlock = some g → g < p)
    (HA : Acc ES w0 L.lo w2 v' (ss ++ [s])) (HG : Grew wr w2 vo v') :
    TS E ES w0 L (w2.setCell ⟨L.po, 0, none⟩ v') v' vw w2.heap.size (ss ++ [s]) hd (os ++ [y]) ∧ Fix L wr (w2.setCell ⟨L.po, 0, none⟩ v') ∧ (∃ u, w2.heap[L.po]? = some (.cells #[u] ES.t (0, 0))) := by
  obtain ⟨g1, g, g2, g3, g4⟩ := HG
  have l1 := hL.w2; have l2 := hL.p2; have l3 := hL.o2; have l4 := hL.m2; have l5 := hL.pw_; have l6 := hL.wo0; have l7 := hL.wm0; have l8 := hL.po0; have l9 := hL.pm0; have l10 := hL.om; have l11 := hL.lp
  have hlo := Nat.le_trans h.lh h.hs
  have hsz := g1.size
  have hlh := h.lh
  have hsame : ∀ k, k < wr.heap.size → vo.ownBlock ≠ some k → k ≠ L.po → (w2.setCell ⟨L.po, 0, none⟩ v').heap[k]? = wr.heap[k]? := fun k k1 k2 k3 =>
    (Below.heap_setCell _ _ _ _ (by show k ≠ L.po; exact k3)).trans (g1.block k k1 (fun e => k2 e.symm))
  have hpo : w2.heap[L.po]? = some (.cells #[vo] ES.t (0, 0)) := (g1.block L.po (by omega) (fun e => by have := h.bo L.po e.symm; omega)).trans h.co
  have hgb : g = L.o0 ∨ L.lo2 ≤ g := by
    rcases g3 with g3 | g3
    · exact h.bo g g3
    · exact .inr (by omega)
  have hw0 : w0.heap.size ≤ L.po := Nat.le_trans h.ao.2.2.1 l11
  refine ⟨⟨?_, ?_, ⟨HA.1.same fun k hk => Below.heap_setCell _ _ _ _ ?_, HA.2.1.setCell hw0 _, HA.2.2.1, by simpa using HA.2.2.2⟩, ⟨h.aw.1.same fun k hk => ?_, HA.2.1.setCell hw0 _, h.aw.2.2.1, by simpa using HA.2.2.2⟩, ?_, by omega, by simp, ?_, h.bw, ?_⟩, ?_, ⟨_, hpo⟩⟩
  · exact (blk_setCell hpo _).trans (by simp)
  · exact (hsame L.pw (by omega) (fun e => by have := h.bo _ e; omega) (Ne.symm l5)).trans h.cw
  · rw [g2] at hk; obtain rfl := Option.some.inj hk; show g ≠ L.po; omega
  · exact hsame k ((h.aw.1.lt k hk).2) (fun e => h.ne k e hk) (by have := h.bw k hk; omega)
  · have e1 := (h.el.kept (w' := w2.setCell ⟨L.po, 0, none⟩ v') (by simpa using hsz) fun k k1 k2 k3 => hsame k (by have := h.hs; omega) (fun e => k3 (.inl e)) (by omega)).excl (O' := fun g => v'.ownBlock = some g ∨ vw.ownBlock = some g) fun k hk => ?_
    · refine e1.push (a := p) (b := wr.heap.size) ⟨hx.same fun k hk => ?_, fun k hk => (hx.lt k hk).2⟩ (by omega) hp (by simpa using hsz) (by simpa using Nat.le_trans h.hs hsz) fun k hk => ?_
      · have := hx.lt k hk
        exact hsame k this.2 (fun e => by have := hvo k e; omega) (by omega)
      · rcases hk with hk | hk
        · rw [g2] at hk
          obtain rfl := Option.some.inj hk
          rcases g3 with g3 | g3
          · exact .inl (hvo g g3)
          · exact .inr g3
        · exact .inl (hvw k hk)
    · rcases hk with hk | hk
      · rw [g2] at hk
        obtain rfl := Option.some.inj hk
        rcases g3 with g3 | g3
        · exact .inl (.inl g3)
        · exact .inr (.inl (by have := h.hs; omega))
      · exact .inl (.inr hk)
  · intro k hk; rw [g2] at hk; obtain rfl := Option.some.inj hk; exact hgb
  · intro k hk e
    rw [g2] at hk
    obtain rfl := Option.some.inj hk
    rcases g3 with g3 | g3
    · exact h.ne g g3 e
    · have := (h.aw.1.lt g e).2; omega
  · intro k k1 k2 k3 k4 k5
    exact hsame k (by omega) (fun e => by have := h.bo k e; omega) k2
/-- The list alone. -/
theorem TS.nrel (h : TS E ES w0 L wr vo vw ho ss hd os) : NRel (kdF E) ES w0 L.lo L.lo2 wr ho vo os := ⟨ss, h.ao, h.el.els fun g hg => .inl hg, h.hs⟩
end
def RetN {α : Type} (K : Kd α) (E : El Sl) (w : World) (xs : List α) (e : Ending) (w' : World) : Prop := ∃ v hi, e = .returned v ∧ NRel K E w w.heap.size w.heap.size w' hi v xs
end Go.Proofs.Ytiecphhenpapoaa
