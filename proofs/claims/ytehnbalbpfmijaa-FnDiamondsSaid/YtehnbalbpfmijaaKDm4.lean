/- What the claim's walk rests on: parts ElsP, Diam, SortL, CopyIn. -/
import Derived.Test.YtehnbalbpfmijaaKDm3
import Derived.Test.YtehnbalbpfmijaaKDm1
import Derived.Test.YtehnbalbpfmijaaKDm2
import Derived.Laws.CopyOwn
namespace Go.Proofs.Ytehnbalbpfmijaa
open Go.RowKit
set_option linter.unusedVariables false

section
variable {α : Type} {K : Kd α}
/-- The elements: each in an interval of its own, none with a block of O. -/
def ElsP (K : Kd α) (w : World) (lo hi : Nat) (O : Nat → Prop) (ss : List Sl) (xs : List α) : Prop :=
  ss.length = xs.length ∧ ∃ a b : Nat → Nat, (∀ i s x, ss[i]? = some s → xs[i]? = some x → lo ≤ a i ∧ b i ≤ hi ∧ K.P w (a i) (b i) (slV s) x ∧ ∀ g, O g → g < a i ∨ b i ≤ g) ∧ ∀ i j, i < j → j < xs.length → b i ≤ a j
theorem ElsP.nil (w : World) (lo hi : Nat) (O : Nat → Prop) : ElsP K w lo hi O [] [] := ⟨rfl, fun _ => 0, fun _ => 0, fun i s x h => by simp at h, fun i j _ h => by simp at h⟩
theorem ElsP.kept {w w' : World} {lo hi : Nat} {O : Nat → Prop} {ss : List Sl} {xs : List α} (h : ElsP K w lo hi O ss xs) (hs : w.heap.size ≤ w'.heap.size) (hk : ∀ k, lo ≤ k → k < hi → ¬ O k → w'.heap[k]? = w.heap[k]?) : ElsP K w' lo hi O ss xs := by
  obtain ⟨h1, a, b, h2, h3⟩ := h
  refine ⟨h1, a, b, fun i s x hi hx => ?_, h3⟩
  obtain ⟨p1, p2, p3, p4⟩ := h2 i s x hi hx
  exact ⟨p1, p2, K.keep p3 hs fun k q1 q2 => hk k (by omega) (by omega) (fun e => by have := p4 k e; omega), p4⟩
theorem ElsP.excl {w : World} {lo hi : Nat} {O O' : Nat → Prop} {ss : List Sl} {xs : List α} (h : ElsP K w lo hi O ss xs) (ho : ∀ g, O' g → O g ∨ hi ≤ g ∨ g < lo) : ElsP K w lo hi O' ss xs := by
  obtain ⟨h1, a, b, h2, h3⟩ := h
  refine ⟨h1, a, b, fun i s x hi hx => ?_, h3⟩
  obtain ⟨p1, p2, p3, p4⟩ := h2 i s x hi hx
  refine ⟨p1, p2, p3, fun g hg => ?_⟩
  rcases ho g hg with h | h | h
  · exact p4 g h
  · exact .inr (by omega)
  · exact .inl (by omega)
theorem ElsP.els {w : World} {lo hi : Nat} {O : Nat → Prop} {o : Option Nat} {ss : List Sl} {xs : List α} (h : ElsP K w lo hi O ss xs) (ho : ∀ g, o = some g → O g) : Els K w lo hi o ss xs := by
  obtain ⟨h1, a, b, h2, h3⟩ := h
  refine ⟨h1, a, b, fun i s x hi hx => ?_, h3⟩
  obtain ⟨p1, p2, p3, p4⟩ := h2 i s x hi hx
  exact ⟨p1, p2, p3, fun g hg => p4 g (ho g hg)⟩
theorem ElsP.push {w : World} {lo hi hi' a b : Nat} {O : Nat → Prop} {ss : List Sl} {xs : List α} {s : Sl} {x : α} (h : ElsP K w lo hi O ss xs) (hx : K.P w a b (slV s) x) (hl : lo ≤ a) (ha : hi ≤ a) (hb : b ≤ hi') (hh : hi ≤ hi') (hO : ∀ g, O g → g < a ∨ b ≤ g) : ElsP K w lo hi' O (ss ++ [s]) (xs ++ [x]) := by
  obtain ⟨e1, fa, fb, e2, e3⟩ := h
  refine ⟨by simp [e1], fun i => if i < xs.length then fa i else a, fun i => if i < xs.length then fb i else b, fun i s' x' h1 h2 => ?_, fun i j hij hj => ?_⟩
  · by_cases e : i < xs.length
    · rw [List.getElem?_append_left (by omega)] at h1
      rw [List.getElem?_append_left e] at h2
      simp only [e, if_true]
      obtain ⟨p1, p2, p3, p4⟩ := e2 i s' x' h1 h2
      exact ⟨p1, by omega, p3, p4⟩
    · rw [List.getElem?_append_right (by omega)] at h1 h2
      by_cases e4 : i = xs.length
      · subst e4
        rw [e1] at h1
        simp at h1 h2
        subst h1 h2
        simp only [Nat.lt_irrefl, if_false]
        exact ⟨hl, hb, hx, hO⟩
      · rw [List.getElem?_eq_none (by simp; omega)] at h2; simp at h2
  · simp only [List.length_append, List.length_singleton] at hj
    simp only [show i < xs.length by omega, if_true]
    by_cases e : j < xs.length
    · simp only [e, if_true]; exact e3 i j hij e
    · simp only [e, if_false]
      obtain ⟨s', hs'⟩ : ∃ s', ss[i]? = some s' := ⟨_, List.getElem?_eq_getElem (by omega)⟩
      obtain ⟨x', hx'⟩ : ∃ x', xs[i]? = some x' := ⟨_, List.getElem?_eq_getElem (by omega)⟩
      have := (e2 i s' x' hs' hx').2.1
      omega
end

section
variable {α : Type} {E : El α}
theorem OwnF.same {w w' : World} {lo : Nat} {v : Value} {xs : List α} (h : OwnF E w lo v xs) (hk : ∀ k, v.ownBlock = some k → w'.heap[k]? = w.heap[k]?) : OwnF E w' lo v xs := by
  refine ⟨h.1, ?_⟩
  rcases h.2 with hn | ⟨g, cap, cur, rfl, hb, hgg, rest⟩
  · exact .inl hn
  · exact .inr ⟨g, cap, cur, rfl, hb, (hk g rfl).trans hgg, rest⟩
/-- The last element is cut off. -/
theorem OwnF.pop (hE : ∀ x, (E.f x).length = E.s) {w : World} {lo : Nat} {v : Value} {xs : List α} {x : α} (h : OwnF E w lo v (xs ++ [x])) :
    ∃ g c, v = .slice (some ⟨g, 0, none⟩) (xs.length + 1) c ∧ xs.length + 1 ≤ c ∧ c ≤ maxLen ∧ OwnF E w lo (.slice (some ⟨g, 0, none⟩) xs.length c) xs := by
  rcases h.2 with ⟨_, h0⟩ | ⟨g, cap, cur, hv, hb, hgg, h1, h2, h3, h4⟩
  · simp at h0
  · simp only [List.length_append, List.length_singleton] at hv h1 h4
    refine ⟨g, cap, hv, h1, h2, flat_length hE xs, .inr ⟨g, cap, cur, rfl, hb, hgg, by omega, h2, h3, ?_⟩⟩
    rw [List.flatMap_append] at h4
    have h5 := congrArg (List.take (xs.length * E.s)) h4
    rw [List.take_take, Nat.min_eq_left (Nat.mul_le_mul_right _ (by omega)), List.take_append_of_le_length (by rw [flat_length hE]; exact Nat.le_refl _), List.take_of_length_le (l := xs.flatMap E.f) (by rw [flat_length hE]; exact Nat.le_refl _)] at h5
    exact h5
theorem OwnF.rdFull {P : Program} (hE : E.Ok P) {w : World} {lo : Nat} {v : Value} {xs : List α} (h : OwnF E w lo v xs) : RdF E w w.heap.size v xs := h.rd hE

/-- Where the list and the row lie. -/
structure TLay where
  po : Nat
  pw : Nat
  o0 : Nat
  m0 : Nat
  lo : Nat
  lo2 : Nat
structure TLay.Ok (L : TLay) : Prop where
  o : L.lo ≤ L.o0
  m : L.lo ≤ L.m0
  o2 : L.o0 < L.lo2
  m2 : L.m0 < L.lo2
  p2 : L.po < L.lo2
  w2 : L.pw < L.lo2
  om : L.o0 ≠ L.m0
  pw_ : L.po ≠ L.pw
  po0 : L.po ≠ L.o0
  pm0 : L.po ≠ L.m0
  wo0 : L.pw ≠ L.o0
  wm0 : L.pw ≠ L.m0
  lp : L.lo ≤ L.po
  lw : L.lo ≤ L.pw
/-- All other blocks below stay. -/
def Fix (L : TLay) (w w' : World) : Prop := ∀ k, k < L.lo2 → k ≠ L.po → k ≠ L.pw → k ≠ L.o0 → k ≠ L.m0 → w'.heap[k]? = w.heap[k]?
theorem Fix.refl (L : TLay) (w : World) : Fix L w w := fun _ _ _ _ _ _ => rfl
theorem Fix.trans {L : TLay} {a b c : World} (h : Fix L a b) (h' : Fix L b c) : Fix L a c := fun k h1 h2 h3 h4 h5 => (h' k h1 h2 h3 h4 h5).trans (h k h1 h2 h3 h4 h5)
theorem Fix.below {L : TLay} {a b : World} (h : Below a.heap.size a b) (hl : L.lo2 ≤ a.heap.size) : Fix L a b := fun k h1 _ _ _ _ => h.block k (by omega)

structure TS (E : El α) (ES : El Sl) (w0 : World) (L : TLay) (wr : World) (vo vw : Value) (ho : Nat) (ss : List Sl) (hd : List α) (os : List (List α)) : Prop where
  co : wr.heap[L.po]? = some (.cells #[vo] ES.t (0, 0))
  cw : wr.heap[L.pw]? = some (.cells #[vw] E.t (0, 0))
  ao : Acc ES w0 L.lo wr vo ss
  aw : Acc E w0 L.lo wr vw hd
  el : ElsP (kdF E) wr L.lo2 ho (fun g => vo.ownBlock = some g ∨ vw.ownBlock = some g) ss os
  lh : L.lo2 ≤ ho
  hs : ho ≤ wr.heap.size
  bo : ∀ g, vo.ownBlock = some g → g = L.o0 ∨ L.lo2 ≤ g
  bw : ∀ g, vw.ownBlock = some g → g = L.m0 ∨ L.lo2 ≤ g
  ne : ∀ g, vo.ownBlock = some g → vw.ownBlock ≠ some g
def TSt (E : El α) (ES : El Sl) (w0 : World) (L : TLay) (wr : World) (hd : List α) (os : List (List α)) : Prop := ∃ vo vw ho ss, TS E ES w0 L wr vo vw ho ss hd os

variable {ES : El Sl} {w0 wr w1 w2 : World} {L : TLay} {vo vw v' : Value} {ho : Nat} {ss : List Sl} {hd : List α} {os : List (List α)} {x : α}
theorem TS.below (h : TS E ES w0 L wr vo vw ho ss hd os) (hb : Below wr.heap.size wr w1) : TS E ES w0 L w1 vo vw ho ss hd os :=
  ⟨(hb.block _ (lt_of_block h.co)).trans h.co, (hb.block _ (lt_of_block h.cw)).trans h.cw, h.ao.below hb, h.aw.below hb, h.el.kept hb.size fun k _ hk _ => hb.block k (by have := h.hs; omega), h.lh, Nat.le_trans h.hs hb.size, h.bo, h.bw, h.ne⟩
theorem TS.fix (h : TS E ES w0 L wr vo vw ho ss hd os) (hb : Below wr.heap.size wr w1) : Fix L wr w1 := Fix.below hb (Nat.le_trans h.lh h.hs)
theorem TS.big (h : TS E ES w0 L wr vo vw ho ss hd os) : Below w0.heap.size w0 wr := h.ao.2.1
theorem TS.cello (h : TS E ES w0 L wr vo vw ho ss hd os) : wr.cell? ⟨L.po, 0, none⟩ = some vo := cell_of_one h.co
theorem TS.cellw (h : TS E ES w0 L wr vo vw ho ss hd os) : wr.cell? ⟨L.pw, 0, none⟩ = some vw := cell_of_one h.cw
theorem TS.lenw {P : Program} (hE : E.Ok P) (h : TS E ES w0 L wr vo vw ho ss hd os) : ∃ A c, vw = .slice A hd.length c ∧ hd.length ≤ c ∧ c ≤ maxLen := by
  obtain ⟨A, c, hv, h1, h2, _⟩ := h.aw.1.rd hE; exact ⟨A, c, hv, h1, h2⟩
theorem TS.leno {P : Program} (hE : ES.Ok P) (h : TS E ES w0 L wr vo vw ho ss hd os) : ∃ A c, vo = .slice A ss.length c ∧ ss.length ≤ c ∧ c ≤ maxLen := by
  obtain ⟨A, c, hv, h1, h2, _⟩ := h.ao.1.rd hE; exact ⟨A, c, hv, h1, h2⟩
/-- The row grows by one. -/
theorem TS.pushOwn (hL : L.Ok) (h : TS E ES w0 L wr vo vw ho ss hd os) (HA : Acc E w0 L.lo w2 v' (hd ++ [x])) (HG : Grew wr w2 vw v') :
    TS E ES w0 L (w2.setCell ⟨L.pw, 0, none⟩ v') vo v' ho ss (hd ++ [x]) os ∧ Fix L wr (w2.setCell ⟨L.pw, 0, none⟩ v') ∧ (∃ u, w2.heap[L.pw]? = some (.cells #[u] E.t (0, 0))) := by
  obtain ⟨g1, g, g2, g3, g4⟩ := HG
  have l1 := hL.w2; have l2 := hL.p2; have l3 := hL.o2; have l4 := hL.m2; have l5 := hL.pw_; have l6 := hL.wo0; have l7 := hL.wm0; have l8 := hL.po0; have l9 := hL.pm0; have l10 := hL.om; have l11 := hL.lw
  have hlo := Nat.le_trans h.lh h.hs
  have hsame : ∀ k, k < wr.heap.size → vw.ownBlock ≠ some k → k ≠ L.pw → (w2.setCell ⟨L.pw, 0, none⟩ v').heap[k]? = wr.heap[k]? := fun k k1 k2 k3 =>
    (Below.heap_setCell _ _ _ _ (by show k ≠ L.pw; exact k3)).trans (g1.block k k1 (fun e => k2 e.symm))
  have hpw : w2.heap[L.pw]? = some (.cells #[vw] E.t (0, 0)) := (g1.block L.pw (by omega) (fun e => by have := h.bw L.pw e.symm; omega)).trans h.cw
  have hgb : g = L.m0 ∨ L.lo2 ≤ g := by
    rcases g3 with g3 | g3
    · exact h.bw g g3
    · exact .inr (by omega)
  have hw0 : w0.heap.size ≤ L.pw := Nat.le_trans h.aw.2.2.1 l11
  refine ⟨⟨?_, ?_, ⟨h.ao.1.same fun k hk => ?_, HA.2.1.setCell hw0 _, h.ao.2.2.1, by simpa using HA.2.2.2⟩, ⟨HA.1.same fun k hk => Below.heap_setCell _ _ _ _ ?_, HA.2.1.setCell hw0 _, HA.2.2.1, by simpa using HA.2.2.2⟩, ?_, h.lh, ?_, h.bo, ?_, ?_⟩, ?_, ⟨_, hpw⟩⟩
  · exact (hsame L.po (by omega) (fun e => by have := h.bw _ e; omega) l5).trans h.co
  · exact (blk_setCell hpw _).trans (by simp)
  · exact hsame k ((h.ao.1.lt k hk).2) (h.ne k hk) (by have := h.bo k hk; omega)
  · rw [g2] at hk; obtain rfl := Option.some.inj hk; show g ≠ L.pw; omega
  · refine (h.el.kept (w' := w2.setCell ⟨L.pw, 0, none⟩ v') (by simpa using g1.size) fun k k1 k2 k3 => hsame k (by have := h.hs; omega) (fun e => k3 (.inr e)) (by omega)).excl fun k hk => ?_
    rcases hk with hk | hk
    · exact .inl (.inl hk)
    · rw [g2] at hk
      obtain rfl := Option.some.inj hk
      rcases g3 with g3 | g3
      · exact .inl (.inr g3)
      · exact .inr (.inl (by have := h.hs; omega))
  · simpa using Nat.le_trans h.hs g1.size
  · intro k hk; rw [g2] at hk; obtain rfl := Option.some.inj hk; exact hgb
  · intro k hk e
    rw [g2] at e
    obtain rfl := Option.some.inj e
    rcases g3 with g3 | g3
    · exact h.ne g hk g3
    · have := (h.ao.1.lt g hk).2; omega
  · intro k k1 k2 k3 k4 k5
    exact hsame k (by omega) (fun e => by have := h.bw k e; omega) k3
/-- The row's last element is cut off. -/
theorem TS.popOwn (hE : ∀ x, (E.f x).length = E.s) (hL : L.Ok) (h : TS E ES w0 L wr vo vw ho ss (hd ++ [x]) os) :
    ∃ g c, vw = .slice (some ⟨g, 0, none⟩) (hd.length + 1) c ∧ hd.length + 1 ≤ c ∧ c ≤ maxLen ∧
      Hid (TS E ES w0 L (wr.setCell ⟨L.pw, 0, none⟩ (.slice (some ⟨g, 0, none⟩) hd.length c)) vo (.slice (some ⟨g, 0, none⟩) hd.length c) ho ss hd os ∧ Fix L wr (wr.setCell ⟨L.pw, 0, none⟩ (.slice (some ⟨g, 0, none⟩) hd.length c))) := by
  obtain ⟨g, c, rfl, h1, h2, h3⟩ := h.aw.1.pop hE
  have l1 := hL.w2; have l2 := hL.p2; have l3 := hL.o2; have l4 := hL.m2; have l5 := hL.pw_; have l6 := hL.wo0; have l7 := hL.wm0; have l8 := hL.po0; have l9 := hL.pm0; have l10 := hL.om; have l11 := hL.lw
  have hw0 : w0.heap.size ≤ L.pw := Nat.le_trans h.aw.2.2.1 l11
  have hb := h.bw g rfl
  have hsame : ∀ k, k ≠ L.pw → (wr.setCell ⟨L.pw, 0, none⟩ (.slice (some ⟨g, 0, none⟩) hd.length c)).heap[k]? = wr.heap[k]? := fun k k3 => Below.heap_setCell _ _ _ _ k3
  refine ⟨g, c, rfl, h1, h2, ⟨?_, ?_, ⟨h.ao.1.same fun k hk => hsame k (by have := h.bo k hk; omega), h.ao.2.1.setCell hw0 _, h.ao.2.2.1, by simpa using h.ao.2.2.2⟩, ⟨h3.same fun k hk => hsame k ?_, h.aw.2.1.setCell hw0 _, h.aw.2.2.1, by simpa using h.aw.2.2.2⟩, ?_, h.lh, by simpa using h.hs, h.bo, h.bw, h.ne⟩, fun k k1 k2 k3 k4 k5 => hsame k k3⟩
  · exact (hsame _ l5).trans h.co
  · exact (blk_setCell h.cw _).trans (by simp)
  · simp only [Value.ownBlock, Option.some.injEq] at hk; subst hk; omega
  · exact h.el.kept (by simp) fun k k1 k2 k3 => hsame k (by omega)
/-- A row is added to the list. -/
theorem TS.pushOut {p : Nat} {s : Sl} {y : List α} (hL : L.Ok) (h : TS E ES w0 L wr vo vw ho ss hd os) (hp : ho ≤ p) (hpw : p ≤ wr.heap.size) (hx : OwnF E wr p (slV s) y) (hvw : ∀ g, vw.ownBlock = some g → g < p) (hvo : ∀ g, vo.ownBlock = some g → g < p)
    (HA : Acc ES w0 L.lo w2 v' (ss ++ [s])) (HG : Grew wr w2 vo v') :
    TS E ES w0 L (w2.setCell ⟨L.po, 0, none⟩ v') v' vw w2.heap.size (ss ++ [s]) hd (os ++ [y]) ∧ Fix L wr (w2.setCell ⟨L.po, 0, none⟩ v') ∧ (∃ u, w2.heap[L.po]? = some (.cells #[u] ES.t (0, 0))) := by
  obtain ⟨g1, g, g2, g3, g4⟩ := HG
  have l1 := hL.w2; have l2 := hL.p2; have l3 := hL.o2; have l4 := hL.m2; have l5 := hL.pw_; have l6 := hL.wo0; have l7 := hL.wm0; have l8 := hL.po0; have l9 := hL.pm0; have l10 := hL.om; have l11 := hL.lp
  have hlo := Nat.le_trans h.lh h.hs
  have hsz := g1.size
  have hlh := h.lh
  have hsame : ∀ k, k < wr.heap.size → vo.ownBlock ≠ some k → k ≠ L.po → (w2.setCell ⟨L.po, 0, none⟩ v').heap[k]? = wr.heap[k]? := fun k k1 k2 k3 =>
    (Below.heap_setCell _ _ _ _ (by show k ≠ L.po; exact k3)).trans (g1.block k k1 (fun e => k2 e.symm))
  have hpo : w2.heap[L.po]? = some (.cells #[vo] ES.t (0, 0)) := (g1.block L.po (by omega) (fun e => by have := h.bo L.po e.symm; omega)).trans h.co
  have hgb : g = L.o0 ∨ L.lo2 ≤ g := by
    rcases g3 with g3 | g3
    · exact h.bo g g3
    · exact .inr (by omega)
  have hw0 : w0.heap.size ≤ L.po := Nat.le_trans h.ao.2.2.1 l11
  refine ⟨⟨?_, ?_, ⟨HA.1.same fun k hk => Below.heap_setCell _ _ _ _ ?_, HA.2.1.setCell hw0 _, HA.2.2.1, by simpa using HA.2.2.2⟩, ⟨h.aw.1.same fun k hk => ?_, HA.2.1.setCell hw0 _, h.aw.2.2.1, by simpa using HA.2.2.2⟩, ?_, by omega, by simp, ?_, h.bw, ?_⟩, ?_, ⟨_, hpo⟩⟩
  · exact (blk_setCell hpo _).trans (by simp)
  · exact (hsame L.pw (by omega) (fun e => by have := h.bo _ e; omega) (Ne.symm l5)).trans h.cw
  · rw [g2] at hk; obtain rfl := Option.some.inj hk; show g ≠ L.po; omega
  · exact hsame k ((h.aw.1.lt k hk).2) (fun e => h.ne k e hk) (by have := h.bw k hk; omega)
  · have e1 := (h.el.kept (w' := w2.setCell ⟨L.po, 0, none⟩ v') (by simpa using hsz) fun k k1 k2 k3 => hsame k (by have := h.hs; omega) (fun e => k3 (.inl e)) (by omega)).excl (O' := fun g => v'.ownBlock = some g ∨ vw.ownBlock = some g) fun k hk => ?_
    · refine e1.push (a := p) (b := wr.heap.size) ⟨hx.same fun k hk => ?_, fun k hk => (hx.lt k hk).2⟩ (by omega) hp (by simpa using hsz) (by simpa using Nat.le_trans h.hs hsz) fun k hk => ?_
      · have := hx.lt k hk
        exact hsame k this.2 (fun e => by have := hvo k e; omega) (by omega)
      · rcases hk with hk | hk
        · rw [g2] at hk
          obtain rfl := Option.some.inj hk
          rcases g3 with g3 | g3
          · exact .inl (hvo g g3)
          · exact .inr g3
        · exact .inl (hvw k hk)
    · rcases hk with hk | hk
      · rw [g2] at hk
        obtain rfl := Option.some.inj hk
        rcases g3 with g3 | g3
        · exact .inl (.inl g3)
        · exact .inr (.inl (by have := h.hs; omega))
      · exact .inl (.inr hk)
  · intro k hk; rw [g2] at hk; obtain rfl := Option.some.inj hk; exact hgb
  · intro k hk e
    rw [g2] at hk
    obtain rfl := Option.some.inj hk
    rcases g3 with g3 | g3
    · exact h.ne g g3 e
    · have := (h.aw.1.lt g e).2; omega
  · intro k k1 k2 k3 k4 k5
    exact hsame k (by omega) (fun e => by have := h.bo k e; omega) k2
/-- The list alone. -/
theorem TS.nrel (h : TS E ES w0 L wr vo vw ho ss hd os) : NRel (kdF E) ES w0 L.lo L.lo2 wr ho vo os := ⟨ss, h.ao, h.el.els fun g hg => .inl hg, h.hs⟩
end
def RetN {α : Type} (K : Kd α) (E : El Sl) (w : World) (xs : List α) (e : Ending) (w' : World) : Prop := ∃ v hi, e = .returned v ∧ NRel K E w w.heap.size w.heap.size w' hi v xs
end Go.Proofs.Ytehnbalbpfmijaa

namespace Go.Proofs.Ytehnbalbpfmijaa
open Go.RowKit
set_option linter.unusedVariables false

/-- Row y of the diamond of order n: its first cell and the one behind its last. -/
def dLo (n y : Nat) : Nat := if y < n then n - 1 - y else y - n
def dHi (n y : Nat) : Nat := if y < n then n + y + 1 else 3 * n - y
def diamTo (n : Nat) : Nat → List Int
  | 0 => []
  | y + 1 => diamTo n y ++ [((2 ^ dHi n y : Nat) : Int) - ((2 ^ dLo n y : Nat) : Int)]
def diamZ (n : Nat) : List Int := diamTo n (2 * n)
theorem diamTo_len (n : Nat) : ∀ k, (diamTo n k).length = k
  | 0 => rfl
  | k + 1 => by rw [diamTo, List.length_append, diamTo_len n k]; rfl
theorem d_facts {n y : Nat} (hn : n ≤ 4) (hy : y < 2 * n) : dLo n y ≤ dHi n y ∧ dHi n y ≤ 8 := by
  unfold dLo dHi
  split <;> omega
theorem pow_wrap {x : Nat} (hx : x ≤ 8) : IntKind.i64.wrap ((2 : Int) ^ x) = ((2 ^ x : Nat) : Int) ∧ (2 ^ x : Nat) ≤ 256 := by
  have h : 2 ^ x ≤ 2 ^ 8 := Nat.pow_le_pow_right (by omega) hx
  have e : ((2 : Int) ^ x) = ((2 ^ x : Nat) : Int) := by simp
  generalize (2 ^ x : Nat) = q at *
  have h : q ≤ 256 := by simpa using h
  exact ⟨by rw [e]; exact IntWalk.i64_in _ (by omega), h⟩

set_option maxRecDepth 100000 in
set_option maxHeartbeats 4000000 in
theorem specDiamond_yes (n : Nat) (hn : 1 ≤ n ∧ n ≤ 4) (w : World) :
    Calls Try.prog 135 #[.int .i64 (n : Int)] w fun e w' => ∃ u, e = .returned (.agg #[u]) ∧ RdI w' w'.heap.size u (diamZ n) ∧ Below w.heap.size w w' := by
  have t1 : inB (n : Int) 1 4 = true := inB_true (by omega) (by omega)
  have HDF := Lib.hid (fun y hy => d_facts (n := n) (y := y) hn.2 hy)
  have HDT : Hid (∀ k, diamTo n (k + 1) = diamTo n k ++ [((2 ^ dHi n k : Nat) : Int) - ((2 ^ dLo n k : Nat) : Int)]) := fun k => rfl
  have HDL := Lib.hid (diamTo_len n)
  have HD0 : Hid (diamTo n 0 = []) := rfl
  have HZ : Hid (diamZ n = diamTo n (2 * n)) := rfl
  rw [HZ.out]
  obtain ⟨st, HST⟩ : ∃ st, Hid (st = diamTo n) := ⟨_, rfl⟩
  rw [← HST.out] at HDT HDL HD0 ⊢
  obtain ⟨N, HN⟩ : ∃ N, Hid (N = 2 * n) := ⟨_, rfl⟩
  have hN : 2 * (n : Int) = (N : Int) := by have := HN.out; omega
  rw [← HN.out]
  have hN8 : N ≤ 8 := by have := HN.out; omega
  clear HST HZ
  go_enter Try.func135, Try.ntmps135
  go_wp2_with fail
  obtain ⟨W, hW, k1, k2, hbW⟩ := two_alloc w (.cells #[.slice none 0 0] 39) (.cells #[.slice none 0 0] 39)
  rw [← hW]
  have HR : Hid (RBld w W (.slice none 0 0) []) := ⟨k1, k2, ⟨OwnF.nil, hbW, by omega, by rw [hW]; simp⟩⟩
  clear hW k1 k2 hbW
  go_loopw [4] (fun i wr => ∃ (k : Nat) (v : Value), k ≤ N ∧ i = .int .i64 k ∧ Hid (RBld w wr v (st k))) (fun i _ => N - (intOf i).toNat)
  case atStart => exact ⟨0, _, Nat.zero_le _, rfl, by rw [HD0.out]; exact HR⟩
  case round =>
    obtain ⟨k, v, hk, rfl, HR⟩ := hrel
    obtain ⟨A, ca, hv, q1, q2, _⟩ := HR.out.acc.1.rd okInt
    have hlk := HDL.out k
    rw [hlk] at hv q1
    subst hv
    unfold maxLen at q2
    have c1 := cell_of_one HR.out.c1
    by_cases hlt : k < N
    · have HA := Lib.hid (HR.out.acc.below ((Below.refl wr.heap.size wr).drew))
      have ht : decide ((k : Int) < (N : Int)) = true := by simp only [decide_eq_true_eq]; omega
      have hlo := (HDF.out k (by have := HN.out; omega)).1
      have hhi := (HDF.out k (by have := HN.out; omega)).2
      have HNX := Lib.hid (HDT.out k)
      obtain ⟨lo, HLO⟩ : ∃ lo, Hid (dLo n k = lo) := ⟨_, rfl⟩
      obtain ⟨hi, HHI⟩ : ∃ hi, Hid (dHi n k = hi) := ⟨_, rfl⟩
      rw [HLO.out, HHI.out] at hlo
      rw [HHI.out] at hhi
      rw [HLO.out, HHI.out] at HNX
      obtain ⟨p1, p2⟩ := pow_wrap (x := hi) hhi
      obtain ⟨p3, p4⟩ := pow_wrap (x := lo) (by omega)
      have hle : (2 ^ lo : Nat) ≤ 2 ^ hi := Nat.pow_le_pow_right (by omega) hlo
      generalize (2 ^ hi : Nat) = P at *
      generalize (2 ^ lo : Nat) = Q at *
      obtain ⟨r, hr⟩ : ∃ r : Nat, (P : Int) - (Q : Int) = (r : Int) := ⟨P - Q, by omega⟩
      rw [hr] at HNX
      have hwr : IntKind.i64.wrap (r : Int) = (r : Int) := IntWalk.i64_in _ (by omega)
      have hwh : IntKind.i64.wrap (hi : Int) = (hi : Int) := IntWalk.i64_in _ (by omega)
      have HNL : Hid ((st k ++ [(r : Int)]).length = k + 1) := by unfold Hid; rw [List.length_append, hlk]; rfl
      have c1b : (wr.alloc (.cells #[.int .i64 (r : Int)] 3)).cell? ⟨w.heap.size + 1, 0, none⟩ = some (.slice A k ca) := (((Below.refl wr.heap.size wr).alloc (Nat.le_refl _) _).cell (p := ⟨w.heap.size + 1, 0, none⟩) (lt_of_block HR.out.c1)).trans c1
      have hk8 : k ≤ 8 := by omega
      have hks : (st k).length ≤ 8 := by rw [hlk]; exact hk8
      generalize st k = ys at *
      clear hlk
      go_wp2_with fail
      refine (l01In_any _ _ _ _).mono ?_
      rintro e w' ⟨rfl, rfl⟩
      rw [t1]
      by_cases hkn : k < n
      · have hc : decide ((k : Int) ≥ (n : Int)) = false := by simp only [decide_eq_false_iff_not]; omega
        have hc' : decide ((n : Int) ≤ (k : Int)) = false := by simp only [decide_eq_false_iff_not]; omega
        have e1 : (n : Int) - 1 - (k : Int) = (lo : Int) := by have := HLO.out; unfold dLo at this; rw [if_pos hkn] at this; omega
        have e2 : (n : Int) + (k : Int) + 1 = (hi : Int) := by have := HHI.out; unfold dHi at this; rw [if_pos hkn] at this; omega
        go_wp2_with fail
        go_region_law (refine step_push (wr := wr.drew) okInt (by rfl) _ _ (by rfl) HA.out (by rfl) (r : Int) _ (by rfl) wr.heap.size (by rfl) (by simp) (by omega) ?_; intro v' w2 HA2 HG2; obtain ⟨A2, ca2, hv2, _⟩ := HA2.out.1.rd okInt; rw [HNL.out] at hv2; rw [hv2] at HA2 HG2; rw [hv2]; clear hv2; obtain ⟨⟨u9, hk9⟩, hB9⟩ := HR.out.push HA2 HG2; have ck := cell_of_one hk9; have fk := free_of_one hk9; have HB9 := Lib.hid hB9; clear hB9 hk9)
        all_goals
          go_wp2_with fail
          go_roundw
          case rel => exact ⟨k + 1, _, by omega, by go_num, by rw [HNX.out]; exact HB9⟩
          case measure => simp [intOf]; omega
      · have hc : decide ((k : Int) ≥ (n : Int)) = true := by simp only [decide_eq_true_eq]; omega
        have hc' : decide ((n : Int) ≤ (k : Int)) = true := by simp only [decide_eq_true_eq]; omega
        have e1 : (k : Int) - (n : Int) = (lo : Int) := by have := HLO.out; unfold dLo at this; rw [if_neg hkn] at this; omega
        have e2 : 3 * (n : Int) - 1 - (k : Int) + 1 = (hi : Int) := by have := HHI.out; unfold dHi at this; rw [if_neg hkn] at this; omega
        go_wp2_with fail
        go_region_law (refine step_push (wr := wr.drew) okInt (by rfl) _ _ (by rfl) HA.out (by rfl) (r : Int) _ (by rfl) wr.heap.size (by rfl) (by simp) (by omega) ?_; intro v' w2 HA2 HG2; obtain ⟨A2, ca2, hv2, _⟩ := HA2.out.1.rd okInt; rw [HNL.out] at hv2; rw [hv2] at HA2 HG2; rw [hv2]; clear hv2; obtain ⟨⟨u9, hk9⟩, hB9⟩ := HR.out.push HA2 HG2; have ck := cell_of_one hk9; have fk := free_of_one hk9; have HB9 := Lib.hid hB9; clear hB9 hk9)
        all_goals
          go_wp2_with fail
          go_roundw
          case rel => exact ⟨k + 1, _, by omega, by go_num, by rw [HNX.out]; exact HB9⟩
          case measure => simp [intOf]; omega
    · obtain rfl : k = N := by omega
      have ht : decide ((k : Int) < (k : Int)) = false := by simp
      have c0 := cell_of_one HR.out.c0
      have f0 := free_of_one HR.out.c0
      have HX := Lib.hid HR.out
      have HLK := Lib.hid hlk
      clear hlk
      go_wp2_with fail
      refine (l01In_any _ _ _ _).mono ?_
      rintro e w' ⟨rfl, rfl⟩
      rw [t1]
      go_wp2_with fail
      have hl0 := lt_of_block HX.out.c0
      have hB := HX.out.acc.2.1
      have k9 : (wr.setCell ⟨w.heap.size, 0, none⟩ (.slice A k ca)).heap[w.heap.size]? = some (.cells #[.slice A k ca] 39 (0, 0)) := (blk_setCell HX.out.c0 _).trans (by simp)
      have r0 : (wr.setCell ⟨w.heap.size, 0, none⟩ (.slice A k ca)).cell? ⟨w.heap.size, 0, none⟩ = some (.slice A k ca) := cell_of_one k9
      have HNO : OwnI (wr.setCell ⟨w.heap.size, 0, none⟩ (.slice A k ca)) (w.heap.size + 2) (.slice A k ca) (st k) :=
        ownF_int.1 (ownsRow_keep (hi := wr.heap.size) HX.out.acc.1 (fun j hj => (HX.out.acc.lt j hj).2) fun j j1 j2 => Below.heap_setCell _ _ _ _ (by show j ≠ w.heap.size; omega))
      refine bodyPost_ret (v := .agg #[.slice A k ca]) (by simp [results, Try.results135, go_sem, r0]) rfl ⟨_, rfl, ?_, ?_⟩
      · exact HNO.rd
      · exact hB.setCell (Nat.le_refl _) _
end Go.Proofs.Ytehnbalbpfmijaa

namespace Go.Proofs.Ytehnbalbpfmijaa
open Go.RowKit
set_option linter.unusedVariables false

def rofTo (s : Nat) : Nat → List Int
  | 0 => []
  | y + 1 => rofTo s y ++ [((s / 2 ^ (8 * y) % 256 : Nat) : Int)]
theorem rofTo_len (s : Nat) : ∀ k, (rofTo s k).length = k
  | 0 => rfl
  | k + 1 => by rw [rofTo, List.length_append, rofTo_len s k]; rfl
theorem u64_255 (S : Nat) (hS : S < 18446744073709551616) : bits .and .u64 (S : Int) 255 = ((S % 256 : Nat) : Int) := by
  have h255 : (BitVec.ofInt 64 255).toNat = 2 ^ 8 - 1 := by decide
  have e1 : ((S : Int) % ((2 ^ 64 : Nat) : Int)).toNat = S := by omega
  have key : (BitVec.ofInt 64 (S : Int) &&& BitVec.ofInt 64 255).toNat = S % 2 ^ 8 := by
    rw [BitVec.toNat_and, BitVec.toNat_ofInt, e1, h255, Nat.and_two_pow_sub_one_eq_mod]
  show IntKind.u64.wrap ((BitVec.ofInt 64 (S : Int) &&& BitVec.ofInt 64 255).toNat : Nat) = _
  rw [key, IntKind.wrap_u64]
  omega
/-- While it is built: the result's cell, the region's cell behind the first row. -/
structure RBl2 (w : World) (wr : World) (v : Value) (zs : List Int) : Prop where
  c0 : wr.heap[w.heap.size]? = some (.cells #[.slice none 0 0] 39 (0, 0))
  c1 : wr.heap[w.heap.size + 2]? = some (.cells #[v] 39 (0, 0))
  acc : Acc elInt w (w.heap.size + 1) wr v zs
  ne : ∀ k, v.ownBlock = some k → k ≠ w.heap.size + 2
theorem RBl2.push {w wr w2 : World} {v v' : Value} {zs zs' : List Int} (h : RBl2 w wr v zs) (HA : Hid (Acc elInt w (w.heap.size + 1) w2 v' zs')) (HG : Hid (Grew wr.drew w2 v v')) :
    (∃ u, w2.heap[w.heap.size + 2]? = some (.cells #[u] 39 (0, 0))) ∧ RBl2 w (w2.setCell ⟨w.heap.size + 2, 0, none⟩ v') v' zs' := by
  have hl0 := lt_of_block h.c0
  have hl1 := lt_of_block h.c1
  obtain ⟨g1, g, g2, g3, g4⟩ := HG.out
  have k0 : w2.heap[w.heap.size]? = some (.cells #[.slice none 0 0] 39 (0, 0)) := by
    rw [g1.block _ hl0 (fun e => by have := (h.acc.1.lt _ e.symm).1; omega)]; exact h.c0
  have k1 : w2.heap[w.heap.size + 2]? = some (.cells #[v] 39 (0, 0)) := by
    rw [g1.block _ hl1 (fun e => h.ne _ e.symm rfl)]; exact h.c1
  have hg : g ≠ w.heap.size + 2 := by
    rcases g3 with g3 | g3
    · exact h.ne _ g3
    · have : wr.drew.heap.size = wr.heap.size := rfl
      omega
  refine ⟨⟨v, k1⟩, (Below.heap_setCell _ _ _ _ (by simp)).trans k0, (blk_setCell k1 _).trans (by simp), ?_, fun k hk => ?_⟩
  · obtain ⟨a1, a2, a3, a4⟩ := HA.out
    refine ⟨?_, a2.setCell (by show w.heap.size ≤ w.heap.size + 2; omega) _, a3, by simpa using a4⟩
    exact OwnF.same a1 fun k hk => Below.heap_setCell _ _ _ _ (by rw [g2] at hk; obtain rfl := Option.some.inj hk; exact hg)
  · rw [g2] at hk; obtain rfl := Option.some.inj hk; exact hg

set_option maxRecDepth 100000 in
set_option maxHeartbeats 2000000 in
theorem regionOf_any (s R : Nat) (hs : s < 18446744073709551616) (hR : R ≤ 8) (w : World) :
    Calls Try.prog 81 #[.int .u64 (s : Int), .int .i64 (R : Int)] w fun e w' => ∃ u, e = .returned (.agg #[u]) ∧ OwnI w' w.heap.size u (rofTo s R) ∧ Below w.heap.size w w' := by
  have HDT : Hid (∀ k, rofTo s (k + 1) = rofTo s k ++ [((s / 2 ^ (8 * k) % 256 : Nat) : Int)]) := fun k => rfl
  have HDL := Lib.hid (rofTo_len s)
  have HD0 : Hid (rofTo s 0 = []) := rfl
  obtain ⟨st, HST⟩ : ∃ st, Hid (st = rofTo s) := ⟨_, rfl⟩
  rw [← HST.out] at HDT HDL HD0 ⊢
  clear HST
  go_enter Try.func81, Try.ntmps81
  go_wp2_with fail
  obtain ⟨W, hW, k1, k2, k3, hbW⟩ := three_alloc w (.cells #[.slice none 0 0] 39) (.cells #[] 3) (.cells #[.slice (some ⟨w.heap.size + 1, 0, none⟩) 0 0] 39)
  rw [← hW]
  have HR : Hid (RBl2 w W (.slice (some ⟨w.heap.size + 1, 0, none⟩) 0 0) []) := ⟨k1, k3, ⟨⟨by simp, .inr ⟨w.heap.size + 1, 0, #[], rfl, Nat.le_refl _, k2, Nat.le_refl _, by simp [maxLen], by simp, by simp⟩⟩, hbW, by omega, by have := lt_of_block k2; omega⟩, fun k hk => by simp [Value.ownBlock] at hk; omega⟩
  clear hW k1 k2 k3 hbW
  go_loopw [10] (fun i wr => ∃ (k : Nat) (v : Value), k ≤ R ∧ i = .int .i64 k ∧ Hid (RBl2 w wr v (st k))) (fun i _ => R - (intOf i).toNat)
  case atStart => exact ⟨0, _, Nat.zero_le _, rfl, by rw [HD0.out]; exact HR⟩
  case round =>
    obtain ⟨k, v, hk, rfl, HR⟩ := hrel
    obtain ⟨A, ca, hv, q1, q2, _⟩ := HR.out.acc.1.rd okInt
    have hlk := HDL.out k
    rw [hlk] at hv q1
    subst hv
    unfold maxLen at q2
    have c1 := cell_of_one HR.out.c1
    by_cases hlt : k < R
    · have HA := Lib.hid (HR.out.acc.below ((Below.refl wr.heap.size wr).drew))
      have HNX := Lib.hid (HDT.out k)
      have hsh : (s : Int) / 2 ^ (8 * k) = ((s / 2 ^ (8 * k) : Nat) : Int) := by simp
      have hand := u64_255 (s / 2 ^ (8 * k)) (Nat.lt_of_le_of_lt (Nat.div_le_self _ _) hs)
      obtain ⟨r, HRR⟩ : ∃ r : Nat, Hid (s / 2 ^ (8 * k) % 256 = r) := ⟨_, rfl⟩
      have hr8 : r < 256 := by rw [← HRR.out]; exact Nat.mod_lt _ (by omega)
      rw [HRR.out] at hand HNX
      generalize s / 2 ^ (8 * k) = S at *
      have hw1 : IntKind.i64.wrap (8 * (k : Int)) = 8 * (k : Int) := IntWalk.i64_in _ (by omega)
      have hw2 : (8 * (k : Int)).toNat = 8 * k := by omega
      have hw3 : IntKind.i64.wrap (r : Int) = (r : Int) := IntWalk.i64_in _ (by omega)
      have hk0 : (0 : Int) ≤ 8 * (k : Int) := by omega
      have HNL : Hid ((st k ++ [(r : Int)]).length = k + 1) := by unfold Hid; rw [List.length_append, hlk]; rfl
      have c1b : (wr.alloc (.cells #[.int .i64 (r : Int)] 3)).cell? ⟨w.heap.size + 2, 0, none⟩ = some (.slice A k ca) := (((Below.refl wr.heap.size wr).alloc (Nat.le_refl _) _).cell (p := ⟨w.heap.size + 2, 0, none⟩) (lt_of_block HR.out.c1)).trans c1
      have hks : (st k).length ≤ 8 := by rw [hlk]; omega
      generalize st k = ys at *
      clear hlk
      go_wp2_with fail
      go_region_law (refine step_push (wr := wr.drew) okInt (by rfl) _ _ (by rfl) HA.out (by rfl) (r : Int) _ (by rfl) wr.heap.size (by rfl) (by simp) (by omega) ?_; intro v' w2 HA2 HG2; obtain ⟨A2, ca2, hv2, _⟩ := HA2.out.1.rd okInt; rw [HNL.out] at hv2; rw [hv2] at HA2 HG2; rw [hv2]; clear hv2; obtain ⟨⟨u9, hk9⟩, hB9⟩ := HR.out.push HA2 HG2; have ck := cell_of_one hk9; have fk := free_of_one hk9; have HB9 := Lib.hid hB9; clear hB9 hk9)
      all_goals
        go_wp2_with fail
        go_roundw
        case rel => exact ⟨k + 1, _, by omega, by go_num, by rw [HNX.out]; exact HB9⟩
        case measure => simp [intOf]; omega
    · obtain rfl : k = R := by omega
      have c0 := cell_of_one HR.out.c0
      have f0 := free_of_one HR.out.c0
      have HX := Lib.hid HR.out
      have HLK := Lib.hid hlk
      clear hlk
      go_wp2_with fail
      have hl0 := lt_of_block HX.out.c0
      have hB := HX.out.acc.2.1
      have k9 : (wr.setCell ⟨w.heap.size, 0, none⟩ (.slice A k ca)).heap[w.heap.size]? = some (.cells #[.slice A k ca] 39 (0, 0)) := (blk_setCell HX.out.c0 _).trans (by simp)
      have r0 : (wr.setCell ⟨w.heap.size, 0, none⟩ (.slice A k ca)).cell? ⟨w.heap.size, 0, none⟩ = some (.slice A k ca) := cell_of_one k9
      have HNO : OwnI (wr.setCell ⟨w.heap.size, 0, none⟩ (.slice A k ca)) (w.heap.size + 1) (.slice A k ca) (st k) :=
        ownF_int.1 (ownsRow_keep (hi := wr.heap.size) HX.out.acc.1 (fun j hj => (HX.out.acc.lt j hj).2) fun j j1 j2 => Below.heap_setCell _ _ _ _ (by show j ≠ w.heap.size; omega))
      refine bodyPost_ret (v := .agg #[.slice A k ca]) (by simp [results, Try.results81, go_sem, r0]) rfl ⟨_, rfl, ?_, ?_⟩
      · exact HNO.mono (Nat.le_succ _)
      · exact hB.setCell (Nat.le_refl _) _

def rowT (T y lo : Nat) : Nat → Nat
  | 0 => T
  | j + 1 => rowT T y lo j ||| 2 ^ cix (lo + j) y
def dT (n : Nat) : Nat → Nat
  | 0 => 0
  | y + 1 => rowT (dT n y) y (dLo n y) (dHi n y - dLo n y)
theorem rowT_lt {T y lo : Nat} (hT : T < 18446744073709551616) (hy : y ≤ 7) : ∀ j, lo + j ≤ 8 → rowT T y lo j < 18446744073709551616
  | 0, _ => hT
  | j + 1, h => with_lt (rowT_lt hT hy j (by omega)) (by unfold cix; omega)
theorem dT_lt {n : Nat} (hn : n ≤ 4) : ∀ y, y ≤ 2 * n → dT n y < 18446744073709551616
  | 0, _ => by simp [dT]
  | y + 1, h => by
    obtain ⟨h1, h2⟩ := d_facts hn (show y < 2 * n by omega)
    exact rowT_lt (dT_lt hn y (by omega)) (by omega) _ (by omega)
theorem diam_tab : ((List.range 5).all fun n => n == 0 || rofTo (dT n (2 * n)) (2 * n) == diamZ n) = true := by decide +kernel
theorem diam_same {n : Nat} (hn : 1 ≤ n ∧ n ≤ 4) : rofTo (dT n (2 * n)) (2 * n) = diamZ n := by
  have h := diam_tab
  rw [List.all_eq_true] at h
  have h := h n (by simp; omega)
  have h1 : (n == 0) = false := by simp; omega
  rw [h1] at h
  simpa using h

set_option maxRecDepth 100000 in
set_option maxHeartbeats 4000000 in
theorem Diamond_yes (n : Nat) (hn : 1 ≤ n ∧ n ≤ 4) (w : World) :
    Calls Try.prog 24 #[.int .i64 (n : Int)] w fun e w' => ∃ u, e = .returned (.agg #[u]) ∧ RdI w' w'.heap.size u (diamZ n) ∧ Below w.heap.size w w' := by
  have t1 : inB (n : Int) 1 4 = true := inB_true (by omega) (by omega)
  have HDF := Lib.hid (fun y hy => d_facts (n := n) (y := y) hn.2 hy)
  have HDT : Hid (∀ k, dT n (k + 1) = rowT (dT n k) k (dLo n k) (dHi n k - dLo n k)) := fun k => rfl
  have HDL := Lib.hid (fun y hy => dT_lt hn.2 (n := n) y hy)
  have HD0 : Hid (dT n 0 = 0) := rfl
  have HZ := Lib.hid (diam_same hn)
  obtain ⟨st, HST⟩ : ∃ st, Hid (st = dT n) := ⟨_, rfl⟩
  rw [← HST.out] at HDT HDL HD0 HZ
  obtain ⟨N, HN⟩ : ∃ N, Hid (N = 2 * n) := ⟨_, rfl⟩
  have hN : 2 * (n : Int) = (N : Int) := by have := HN.out; omega
  rw [← HN.out] at HZ
  have hN8 : N ≤ 8 := by have := HN.out; omega
  rw [← HZ.out]
  obtain ⟨W, hW, k1, hbW⟩ := one_alloc w (.cells #[.slice none 0 0] 39)
  have HW := Lib.hid hW
  have HK1 := Lib.hid k1
  have HBW := Lib.hid hbW
  clear HST hW k1 hbW HZ
  go_enter Try.func24, Try.ntmps24
  go_wp2_with fail
  rw [← HW.out]
  refine (within_any _ _ _ _).mono ?_
  rintro e w' ⟨rfl, hb0⟩
  obtain rfl := hb0
  rw [t1]
  go_wp2_with fail
  go_loopw [3, 14] (fun sv i wr => ∃ (k : Nat), k ≤ N ∧ i = .int .i64 k ∧ sv = .int .u64 (st k : Nat) ∧ Hid (Below w.heap.size w wr) ∧ Hid (wr.heap[w.heap.size]? = some (.cells #[.slice none 0 0] 39 (0, 0)))) (fun _ i _ => N - (intOf i).toNat)
  case atStart => exact ⟨0, Nat.zero_le _, rfl, by rw [HD0.out]; rfl, HBW, HK1⟩
  case round =>
    obtain ⟨k, hk, rfl, rfl, HB, HK⟩ := hrel
    by_cases hlt : k < N
    · have ht : decide ((k : Int) < (N : Int)) = true := by simp only [decide_eq_true_eq]; omega
      have hlo := (HDF.out k (by have := HN.out; omega)).1
      have hhi := (HDF.out k (by have := HN.out; omega)).2
      have HNX := Lib.hid (HDT.out k)
      have HSL := Lib.hid (HDL.out k (by have := HN.out; omega))
      obtain ⟨lo, HLO⟩ : ∃ lo, Hid (dLo n k = lo) := ⟨_, rfl⟩
      obtain ⟨hi, HHI⟩ : ∃ hi, Hid (dHi n k = hi) := ⟨_, rfl⟩
      rw [HLO.out, HHI.out] at hlo
      rw [HHI.out] at hhi
      rw [HLO.out, HHI.out] at HNX
      have hk8 : k ≤ 7 := by omega
      obtain ⟨S, HSE⟩ : ∃ S, Hid (st k = S) := ⟨_, rfl⟩
      rw [HSE.out] at HNX HSL ⊢
      by_cases hkn : k < n
      · have hc : decide ((k : Int) ≥ (n : Int)) = false := by simp only [decide_eq_false_iff_not]; omega
        have hc' : decide (n ≤ k) = false := by simp only [decide_eq_false_iff_not]; omega
        have e1 : (n : Int) - 1 - (k : Int) = (lo : Int) := by have := HLO.out; unfold dLo at this; rw [if_pos hkn] at this; omega
        have e2 : (n : Int) + (k : Int) = (hi : Int) - 1 := by have := HHI.out; unfold dHi at this; rw [if_pos hkn] at this; omega
        go_wp2_with fail
        go_loopw [3, 7] (fun sv xv wr2 => ∃ j : Nat, lo + j ≤ hi ∧ xv = .int .i64 ((lo + j : Nat) : Int) ∧ sv = .int .u64 (rowT S k lo j : Nat) ∧ Hid (Below w.heap.size w wr2) ∧ Hid (wr2.heap[w.heap.size]? = some (.cells #[.slice none 0 0] 39 (0, 0)))) (fun _ xv _ => hi - (intOf xv).toNat)
        case atStart => exact ⟨0, by omega, by simp, rfl, HB, HK⟩
        case round =>
          obtain ⟨j, hj, rfl, rfl, HB2, HK2⟩ := hrel
          by_cases hjl : lo + j < hi
          · have hx7 : lo + j ≤ 7 := by omega
            have hle : decide (((lo + j : Nat) : Int) ≤ ((hi : Int) - 1)) = true := by simp only [decide_eq_true_eq]; omega
            have hle2 : ((lo + j : Nat) : Int) ≤ ((hi : Int) - 1) := by omega
            have HRT : Hid (rowT S k lo (j + 1) = rowT S k lo j ||| 2 ^ cix (lo + j) k) := rfl
            have HRL : Hid (rowT S k lo j < 18446744073709551616) := rowT_lt HSL.out (by omega) j (by omega)
            have HWY := Lib.hid (fun V => with_yes (rowT S k lo j) (lo + j) k HRL.out hx7 (by omega) V)
            rw [← HRT.out] at HWY
            obtain ⟨xx, HXX⟩ : ∃ xx, Hid (lo + j = xx) := ⟨_, rfl⟩
            rw [HXX.out] at hle hle2 HWY ⊢
            obtain ⟨R1, HR1⟩ : ∃ R1, Hid (rowT S k lo (j + 1) = R1) := ⟨_, rfl⟩
            rw [HR1.out] at HWY
            generalize rowT S k lo j = R0 at *
            have hxx : xx ≤ 7 := by have := HXX.out; omega
            go_wp2_with fail
            refine (HWY.out _).mono ?_
            rintro e w9 ⟨rfl, hb9⟩
            have HB9 := Lib.hid (HB2.out.trans (hb9.mono HB2.out.size))
            have HK9 := Lib.hid (blk_below HK2.out hb9)
            clear hb9
            go_wp2_with fail
            go_roundw
            case rel => exact ⟨j + 1, by omega, by have := HXX.out; go_num, by rw [HR1.out], HB9, HK9⟩
            case measure => have := HXX.out; simp [intOf]; omega
          · have hle : decide (((lo + j : Nat) : Int) ≤ ((hi : Int) - 1)) = false := by simp only [decide_eq_false_iff_not]; omega
            have hle2 : ¬ ((lo + j : Nat) : Int) ≤ ((hi : Int) - 1) := by omega
            have HE : Hid (st (k + 1) = rowT S k lo j) := by unfold Hid; rw [HNX.out, show hi - lo = j by omega]
            generalize rowT S k lo j = R0 at *
            obtain ⟨xx, HXX⟩ : ∃ xx, Hid (lo + j = xx) := ⟨_, rfl⟩
            rw [HXX.out] at hle hle2 ⊢
            go_wp2_with fail
            go_roundw
            case rel => exact ⟨k + 1, by omega, by go_num, by rw [HE.out], HB2, HK2⟩
            case measure => simp [intOf]; omega
      · have hc : decide ((k : Int) ≥ (n : Int)) = true := by simp only [decide_eq_true_eq]; omega
        have hc' : decide (n ≤ k) = true := by simp only [decide_eq_true_eq]; omega
        have e1 : (k : Int) - (n : Int) = (lo : Int) := by have := HLO.out; unfold dLo at this; rw [if_neg hkn] at this; omega
        have e2 : 3 * (n : Int) - 1 - (k : Int) = (hi : Int) - 1 := by have := HHI.out; unfold dHi at this; rw [if_neg hkn] at this; omega
        go_wp2_with fail
        go_loopw [3, 7] (fun sv xv wr2 => ∃ j : Nat, lo + j ≤ hi ∧ xv = .int .i64 ((lo + j : Nat) : Int) ∧ sv = .int .u64 (rowT S k lo j : Nat) ∧ Hid (Below w.heap.size w wr2) ∧ Hid (wr2.heap[w.heap.size]? = some (.cells #[.slice none 0 0] 39 (0, 0)))) (fun _ xv _ => hi - (intOf xv).toNat)
        case atStart => exact ⟨0, by omega, by simp, rfl, HB, HK⟩
        case round =>
          obtain ⟨j, hj, rfl, rfl, HB2, HK2⟩ := hrel
          by_cases hjl : lo + j < hi
          · have hx7 : lo + j ≤ 7 := by omega
            have hle : decide (((lo + j : Nat) : Int) ≤ ((hi : Int) - 1)) = true := by simp only [decide_eq_true_eq]; omega
            have hle2 : ((lo + j : Nat) : Int) ≤ ((hi : Int) - 1) := by omega
            have HRT : Hid (rowT S k lo (j + 1) = rowT S k lo j ||| 2 ^ cix (lo + j) k) := rfl
            have HRL : Hid (rowT S k lo j < 18446744073709551616) := rowT_lt HSL.out (by omega) j (by omega)
            have HWY := Lib.hid (fun V => with_yes (rowT S k lo j) (lo + j) k HRL.out hx7 (by omega) V)
            rw [← HRT.out] at HWY
            obtain ⟨xx, HXX⟩ : ∃ xx, Hid (lo + j = xx) := ⟨_, rfl⟩
            rw [HXX.out] at hle hle2 HWY ⊢
            obtain ⟨R1, HR1⟩ : ∃ R1, Hid (rowT S k lo (j + 1) = R1) := ⟨_, rfl⟩
            rw [HR1.out] at HWY
            generalize rowT S k lo j = R0 at *
            have hxx : xx ≤ 7 := by have := HXX.out; omega
            go_wp2_with fail
            refine (HWY.out _).mono ?_
            rintro e w9 ⟨rfl, hb9⟩
            have HB9 := Lib.hid (HB2.out.trans (hb9.mono HB2.out.size))
            have HK9 := Lib.hid (blk_below HK2.out hb9)
            clear hb9
            go_wp2_with fail
            go_roundw
            case rel => exact ⟨j + 1, by omega, by have := HXX.out; go_num, by rw [HR1.out], HB9, HK9⟩
            case measure => have := HXX.out; simp [intOf]; omega
          · have hle : decide (((lo + j : Nat) : Int) ≤ ((hi : Int) - 1)) = false := by simp only [decide_eq_false_iff_not]; omega
            have hle2 : ¬ ((lo + j : Nat) : Int) ≤ ((hi : Int) - 1) := by omega
            have HE : Hid (st (k + 1) = rowT S k lo j) := by unfold Hid; rw [HNX.out, show hi - lo = j by omega]
            generalize rowT S k lo j = R0 at *
            obtain ⟨xx, HXX⟩ : ∃ xx, Hid (lo + j = xx) := ⟨_, rfl⟩
            rw [HXX.out] at hle hle2 ⊢
            go_wp2_with fail
            go_roundw
            case rel => exact ⟨k + 1, by omega, by go_num, by rw [HE.out], HB2, HK2⟩
            case measure => simp [intOf]; omega
    · obtain rfl : k = N := by omega
      have ht : decide ((k : Int) < (k : Int)) = false := by simp
      have HSL := Lib.hid (HDL.out k (by have := HN.out; omega))
      have HRO := Lib.hid (fun V => regionOf_any (st k) k HSL.out hN8 V)
      have HQQ := Lib.hid (show (0 : Nat) ≤ 0 from Nat.le_refl _)
      obtain ⟨S, HSE⟩ : ∃ S, Hid (st k = S) := ⟨_, rfl⟩
      rw [HSE.out] at HRO ⊢
      obtain ⟨zs, HZS⟩ : ∃ zs, Hid (rofTo S k = zs) := ⟨_, rfl⟩
      rw [HZS.out] at HRO
      go_wp2_with fail
      refine (HRO.out _).mono ?_
      rintro e w9 ⟨u9, rfl, ho9, hb9⟩
      obtain ⟨A9, c9, hv9, _⟩ := ho9.rd
      subst hv9
      have hl := lt_of_block HK.out
      have hk9 := blk_below HK.out hb9
      have c0 := cell_of_one hk9
      have f0 := free_of_one hk9
      have HB9 := Lib.hid (HB.out.trans (hb9.mono HB.out.size))
      have hlt9 := ho9.lt
      have hk10 : (w9.setCell ⟨w.heap.size, 0, none⟩ (.slice A9 zs.length c9)).heap[w.heap.size]? = some (.cells #[.slice A9 zs.length c9] 39 (0, 0)) := (blk_setCell hk9 _).trans (by simp)
      have r0 : (w9.setCell ⟨w.heap.size, 0, none⟩ (.slice A9 zs.length c9)).cell? ⟨w.heap.size, 0, none⟩ = some (.slice A9 zs.length c9) := cell_of_one hk10
      have HNO : OwnI (w9.setCell ⟨w.heap.size, 0, none⟩ (.slice A9 zs.length c9)) wr.heap.size (.slice A9 zs.length c9) zs :=
        ownF_int.1 (OwnF.same (ownF_int.2 ho9) fun j hj => Below.heap_setCell _ _ _ _ (by have := (hlt9 j hj).1; show j ≠ w.heap.size; omega))
      have HR0 := Lib.hid r0
      have HNO2 := Lib.hid HNO
      have HBX : Hid (Below w.heap.size w (w9.setCell ⟨w.heap.size, 0, none⟩ (.slice A9 zs.length c9))) := HB9.out.setCell (Nat.le_refl _) _
      clear r0 HNO hk10 hlt9 ho9 hb9 hk9
      go_wp2_with fail
      have r0 := HR0.out
      refine bodyPost_ret (v := .agg #[.slice A9 zs.length c9]) (by simp [results, Try.results24, go_sem, r0]) rfl ⟨_, rfl, ?_, ?_⟩
      · rw [HSE.out, HZS.out]; exact HNO2.out.rd
      · exact HBX.out
end Go.Proofs.Ytehnbalbpfmijaa

namespace Go.Proofs.Ytehnbalbpfmijaa
open Go.RowKit
set_option linter.unusedVariables false

/-- The number by which dominoes are ordered. -/
def ordL (l : Lk) : Nat := domO l.1.toNat l.2.1.toNat l.2.2
theorem ordL_inj {l m : Lk} (hl : domL l = true) (hm : domL m = true) (h : ordL l = ordL m) : l = m := by
  obtain ⟨x, y, d⟩ := l
  obtain ⟨x', y', d'⟩ := m
  have h1 := (domB_iff _ _ _).1 hl
  have h2 := (domB_iff _ _ _).1 hm
  dsimp only at h1 h2
  have h3 : x ≤ 7 := by have := h1.2; cases d <;> simp at this <;> omega
  have h4 : x' ≤ 7 := by have := h2.2; cases d' <;> simp at this <;> omega
  unfold ordL domO cix at h
  simp only at h
  have e3 : d = d' := by cases d <;> cases d' <;> simp at h ⊢ <;> omega
  subst e3
  have e1 : x = x' := by omega
  have e2 : y = y' := by omega
  rw [e1, e2]
theorem ordL_lt {l : Lk} (hl : domL l = true) : ordL l < 128 := by
  obtain ⟨x, y, d⟩ := l
  have h1 := (domB_iff _ _ _).1 hl
  have h3 : x ≤ 7 ∧ y ≤ 7 := by have := h1.2; cases d <;> simp at this <;> omega
  unfold ordL domO cix
  simp only
  split <;> omega
/-- From the right: how many are not behind o. -/
def downK (ys : List Lk) (o : Nat) : Nat → Nat
  | 0 => 0
  | k + 1 => if o < ordL (dAt ys k) then downK ys o k else k + 1
/-- From the left: the first that is not before d. -/
def upK (ys : List Lk) (d : Lk) : Nat → Nat → Nat
  | 0, i => i
  | f + 1, i => if decide (i < ys.length) && domLt (dAt ys i) d then upK ys d f (i + 1) else i
def insI (d : Lk) (ys : List Lk) : List Lk :=
  let k := downK ys (ordL d) ys.length
  if decide (0 < k) && (dAt ys (k - 1) == d) then ys else ys.take k ++ d :: ys.drop k
def insS (d : Lk) (ys : List Lk) : List Lk :=
  let k := upK ys d ys.length 0
  if decide (k < ys.length) && (dAt ys k == d) then ys else ys.take k ++ [d] ++ ys.drop k
def sortI (ls : List Lk) : Nat → List Lk
  | 0 => []
  | k + 1 => if domL (dAt ls k) then insI (dAt ls k) (sortI ls k) else sortI ls k
def sortS (ls : List Lk) : Nat → List Lk
  | 0 => []
  | k + 1 => if domL (dAt ls k) then insS (dAt ls k) (sortS ls k) else sortS ls k
theorem downK_spec (ys : List Lk) (o : Nat) : ∀ k, downK ys o k ≤ k ∧ (∀ i, downK ys o k ≤ i → i < k → o < ordL (dAt ys i)) ∧ (0 < downK ys o k → ordL (dAt ys (downK ys o k - 1)) ≤ o)
  | 0 => by simp [downK]
  | k + 1 => by
    rw [downK]
    by_cases h : o < ordL (dAt ys k)
    · rw [if_pos h]
      obtain ⟨h1, h2, h3⟩ := downK_spec ys o k
      refine ⟨by omega, fun i g1 g2 => ?_, h3⟩
      by_cases e : i = k
      · subst e; exact h
      · exact h2 i g1 (by omega)
    · rw [if_neg h]
      exact ⟨Nat.le_refl _, fun i g1 g2 => by omega, fun _ => by simpa using h⟩
theorem upK_spec (ys : List Lk) (d : Lk) : ∀ f i, i ≤ upK ys d f i ∧ upK ys d f i ≤ i + f ∧ (∀ j, i ≤ j → j < upK ys d f i → j < ys.length ∧ domLt (dAt ys j) d = true) ∧ (upK ys d f i < i + f → upK ys d f i < ys.length → domLt (dAt ys (upK ys d f i)) d = false)
  | 0, i => by simp [upK]; intro j h1 h2; omega
  | f + 1, i => by
    rw [upK]
    cases hb : (decide (i < ys.length) && domLt (dAt ys i) d)
    · rw [if_neg (by simp)]
      refine ⟨Nat.le_refl _, by omega, fun j h1 h2 => by omega, fun _ h => ?_⟩
      simpa [h] using hb
    · rw [if_pos rfl]
      obtain ⟨h1, h2, h3, h4⟩ := upK_spec ys d f (i + 1)
      simp only [Bool.and_eq_true, decide_eq_true_eq] at hb
      refine ⟨by omega, by omega, fun j g1 g2 => ?_, fun g => h4 (by omega)⟩
      by_cases e : j = i
      · subst e; exact hb
      · exact h3 j (by omega) g2
/-- In order, each one valid. -/
def Sorted (ys : List Lk) : Prop := ys.Pairwise (fun a b => ordL a < ordL b) ∧ ∀ a ∈ ys, domL a = true
theorem dAt_get (ys : List Lk) (j : Nat) (h : j < ys.length) : dAt ys j = ys[j] := by
  have := lk_get ys j h
  rw [List.getElem?_eq_getElem h] at this
  exact (Option.some.inj this).symm
theorem Sorted.at {ys : List Lk} (h : Sorted ys) {i j : Nat} (hij : i < j) (hj : j < ys.length) : ordL (dAt ys i) < ordL (dAt ys j) := by
  rw [dAt_get ys i (by omega), dAt_get ys j hj]
  exact List.pairwise_iff_getElem.1 h.1 i j (by omega) hj hij
theorem Sorted.ok {ys : List Lk} (h : Sorted ys) {i : Nat} (hi : i < ys.length) : domL (dAt ys i) = true := by
  rw [dAt_get ys i hi]; exact h.2 _ (List.getElem_mem hi)
theorem Sorted.short {ys : List Lk} (h : Sorted ys) : ys.length ≤ 128 := by
  have key : ∀ k, k < ys.length → k ≤ ordL (dAt ys k) := by
    intro k
    induction k with
    | zero => intro _; omega
    | succ k ih => intro hk; have := ih (by omega); have := h.at (i := k) (j := k + 1) (by omega) hk; omega
  by_cases h0 : ys.length = 0
  · omega
  · have := key (ys.length - 1) (by omega)
    have := ordL_lt (h.ok (i := ys.length - 1) (by omega))
    omega
theorem ins_same {ys : List Lk} (h : Sorted ys) {d : Lk} (hd : domL d = true) : insI d ys = insS d ys ∧ Sorted (insI d ys) := by
  obtain ⟨d1, d2, d3⟩ := downK_spec ys (ordL d) ys.length
  obtain ⟨_, u2, u3, u4⟩ := upK_spec ys d ys.length 0
  have hlt : ∀ i, i < ys.length → (domLt (dAt ys i) d = true ↔ ordL (dAt ys i) < ordL d) := fun i hi => by
    have := h.ok hi
    unfold domL at this hd
    unfold domLt
    rw [this, hd]
    simp [ordL]
  unfold insI insS
  generalize downK ys (ordL d) ys.length = k at *
  generalize upK ys d ys.length 0 = k' at *
  simp only
  have hk' : k' ≤ ys.length := by omega
  by_cases hin : 0 < k ∧ dAt ys (k - 1) = d
  · have e : k' = k - 1 := by
      have a1 : ¬ (k - 1 < k') := fun g => by
        have := (hlt _ (by omega)).1 (u3 (k - 1) (Nat.zero_le _) g).2
        rw [hin.2] at this; omega
      have a2 : ¬ (k' < k - 1) := fun g => by
        have q := u4 (by omega) (by omega)
        have := h.at g (by omega)
        rw [hin.2] at this
        rw [(hlt _ (by omega)).2 this] at q
        simp at q
      omega
    rw [if_pos (by simp [hin.1, hin.2]), if_pos (by rw [e]; simp [hin.2]; omega)]
    exact ⟨rfl, h⟩
  · have e : k' = k := by
      have a1 : ¬ (k < k') := fun g => by
        have q1 := (hlt _ (by have := (u3 k (Nat.zero_le _) g).1; omega)).1 (u3 k (Nat.zero_le _) g).2
        have q2 := d2 k (Nat.le_refl _) (u3 k (Nat.zero_le _) g).1
        omega
      have a2 : ¬ (k' < k) := fun g => by
        have q := u4 (by omega) (by omega)
        have q1 : ¬ ordL (dAt ys k') < ordL d := fun g2 => by rw [(hlt _ (by omega)).2 g2] at q; simp at q
        have q2 := d3 (by omega)
        have q3 : ordL (dAt ys k') ≤ ordL (dAt ys (k - 1)) := by
          by_cases e2 : k' = k - 1
          · rw [e2]; exact Nat.le_refl _
          · exact Nat.le_of_lt (h.at (by omega) (by omega))
        exact hin ⟨by omega, ordL_inj (h.ok (by omega)) hd (by omega)⟩
      omega
    have hno : ¬ (k < ys.length ∧ dAt ys k = d) := fun g => by
      have := d2 k (Nat.le_refl _) g.1
      rw [g.2] at this; omega
    rw [if_neg (by simpa using hin), e, if_neg (by simpa using hno)]
    refine ⟨by simp, ?_, ?_⟩
    · rw [List.pairwise_append, List.pairwise_cons]
      have hp := h.1
      refine ⟨hp.sublist (List.take_sublist _ _), ⟨fun a ha => ?_, hp.sublist (List.drop_sublist _ _)⟩, fun a ha b hb => ?_⟩
      · obtain ⟨i, hi, rfl⟩ := List.getElem_of_mem ha
        rw [List.getElem_drop, ← dAt_get]
        simp at hi
        exact d2 _ (by omega) (by omega)
      · obtain ⟨i, hi, rfl⟩ := List.getElem_of_mem ha
        simp at hi
        rw [List.getElem_take, ← dAt_get ys i (by omega)]
        have hb1 : ordL (dAt ys i) < ordL d := (hlt _ (by omega)).1 (u3 i (Nat.zero_le _) (by omega)).2
        rcases List.mem_cons.1 hb with rfl | hb
        · exact hb1
        · obtain ⟨j, hj, rfl⟩ := List.getElem_of_mem hb
          simp at hj
          rw [List.getElem_drop, ← dAt_get]
          have := d2 (k + j) (by omega) (by omega)
          omega
    · intro a ha
      rcases List.mem_append.1 ha with ha | ha
      · exact h.2 _ (List.mem_of_mem_take ha)
      · rcases List.mem_cons.1 ha with rfl | ha
        · exact hd
        · exact h.2 _ (List.mem_of_mem_drop ha)
theorem sort_same (ls : List Lk) : ∀ k, sortI ls k = sortS ls k ∧ Sorted (sortI ls k)
  | 0 => ⟨rfl, by simp [sortI, Sorted]⟩
  | k + 1 => by
    obtain ⟨h1, h2⟩ := sort_same ls k
    rw [sortI, sortS]
    by_cases hd : domL (dAt ls k) = true
    · rw [if_pos hd, if_pos hd, ← h1]
      exact ins_same h2 hd
    · rw [if_neg hd, if_neg hd]
      exact ⟨h1, h2⟩
theorem sortI_short (ls : List Lk) (k : Nat) : (sortI ls k).length ≤ 128 := (sort_same ls k).2.short
end Go.Proofs.Ytehnbalbpfmijaa

namespace Go.Proofs.Ytehnbalbpfmijaa
open Go.RowKit
set_option linter.unusedVariables false

theorem run_copy_rowF {P : Program} (w : World) (dT sT ty elem : TypeId) (s g o dLen dCap : Nat) (a : Addr) (sLen sCap : Nat) (cur : Array Value) (t : TypeId) (cs : List Value)
    (hu : P.underlying dT = some (.slice elem)) (hs : (P.info? elem).map (·.size) = some s)
    (hg : w.heap[g]? = some (.cells cur t (0, 0))) (hn : cs.length = Nat.min sLen dLen * s)
    (hsrc : ∀ j v, cs[j]? = some v → w.cell? (a.add j) = some v) (hfit : o + cs.length ≤ cur.size) (h1 : ∀ v ∈ cs, v.oneCell' = true) :
    (Builtin.copy_ #[dT, sT] ty #[.slice (some ⟨g, o, none⟩) dLen dCap, .slice (some a) sLen sCap]).run P w =
      .ok (goInt (Nat.min sLen dLen)) (w.setRow g (cur.toList.take o ++ cs ++ cur.toList.drop (o + cs.length)).toArray) := by
  have hl := run_loadCells_list (P := P) w a cs hsrc
  have hst := run_storeCells_at P g o t cs 0 cur w hg (by simpa using hfit) h1
  cases hq : P.info? elem with
  | none => simp [hq] at hs
  | some i =>
    have hi : i.size = s := by simpa [hq] using hs
    simp [Builtin.copy_, run_underlying hu, Builtin.lenOf, Builtin.firstCells, sizeOf, typeInfo, hq, hi, ← hn, hl, hst]

section
variable {α : Type} {E : El α} {P : Program}
theorem El.Ok.size (hE : E.Ok P) : (P.info? E.e).map (·.size) = some E.s := by
  have := hE.info
  cases h : P.info? E.e with
  | none => simp [h] at this
  | some i => simp [h] at this; simp [this]
theorem flat_take (hE : ∀ x, (E.f x).length = E.s) (xs : List α) (k : Nat) (hk : k ≤ xs.length) : (xs.flatMap E.f).take (k * E.s) = (xs.take k).flatMap E.f := by
  have h : xs.flatMap E.f = (xs.take k).flatMap E.f ++ (xs.drop k).flatMap E.f := by rw [← List.flatMap_append, List.take_append_drop]
  have hl : ((xs.take k).flatMap E.f).length = k * E.s := by rw [flat_length hE, List.length_take, Nat.min_eq_left hk]
  rw [h, ← hl, List.take_left']
  rfl
theorem flat_drop (hE : ∀ x, (E.f x).length = E.s) (xs : List α) (k : Nat) (hk : k ≤ xs.length) : (xs.flatMap E.f).drop (k * E.s) = (xs.drop k).flatMap E.f := by
  have h : xs.flatMap E.f = (xs.take k).flatMap E.f ++ (xs.drop k).flatMap E.f := by rw [← List.flatMap_append, List.take_append_drop]
  have hl : ((xs.take k).flatMap E.f).length = k * E.s := by rw [flat_length hE, List.length_take, Nat.min_eq_left hk]
  rw [h, ← hl, List.drop_left']
  rfl
theorem OwnF.shift (hE : E.Ok P) {w : World} {lo g cap k dCap sCap : Nat} {xs : List α} {z : α} {dT sT ty : TypeId} (hu : P.underlying dT = some (.slice E.e))
    (h : OwnF E w lo (.slice (some ⟨g, 0, none⟩) (xs.length + 1) cap) (xs ++ [z])) (hk : k < xs.length) :
    ∃ w', (Builtin.copy_ #[dT, sT] ty #[.slice (some ⟨g, (k + 1) * E.s, none⟩) (xs.length - k) dCap, .slice (some ⟨g, k * E.s, none⟩) (xs.length + 1 - k) sCap]).run P w = .ok (goInt ((xs.length - k : Nat) : Int)) w' ∧
      OwnF E w' lo (.slice (some ⟨g, 0, none⟩) (xs.length + 1) cap) (xs.take (k + 1) ++ xs.drop k) ∧ w.grownBy w' (some g) := by
  have hrow : w.ownsRow lo E.e E.s (.slice (some ⟨g, 0, none⟩) (xs.length + 1) cap) (xs.length + 1) ((xs ++ [z]).flatMap E.f) := by
    have := h
    unfold OwnF at this
    rwa [List.length_append, List.length_singleton] at this
  rcases h.2 with ⟨_, h0⟩ | ⟨g', cap', cur, hv, hb, hgg, h1, h2, h3, h4⟩
  · simp at h0
  · obtain ⟨rfl, rfl⟩ : g = g' ∧ cap = cap' := by simp at hv; exact hv
    have hl := hE.len
    have hcl : ((xs.drop k).flatMap E.f).length = (xs.length - k) * E.s := by rw [flat_length hl, List.length_drop]
    have hmin : Nat.min (xs.length + 1 - k) (xs.length - k) = xs.length - k := Nat.min_eq_right (by omega)
    simp only [List.length_append, List.length_singleton] at h1 h4
    have hfit : (k + 1) * E.s + (xs.length - k) * E.s = (xs.length + 1) * E.s := by rw [← Nat.add_mul]; congr 1; omega
    have hcs : (xs.length + 1) * E.s ≤ cur.size := by rw [h3]; exact Nat.mul_le_mul_right _ h1
    have hrun := run_copy_rowF (P := P) w dT sT ty E.e E.s g ((k + 1) * E.s) (xs.length - k) dCap ⟨g, k * E.s, none⟩ (xs.length + 1 - k) sCap cur E.e ((xs.drop k).flatMap E.f) hu hE.size hgg (by rw [hmin, hcl])
      (fun j v hj => by
        have hj' : j < (xs.length - k) * E.s := by rw [← hcl]; exact (List.getElem?_eq_some_iff.1 hj).1
        have hle : k * E.s + (xs.length - k) * E.s = xs.length * E.s := by rw [← Nat.add_mul]; congr 1; omega
        have hlt : k * E.s + j < (xs.length + 1) * E.s := by rw [Nat.add_mul]; omega
        have hc := World.ownsRow.cellAt hrow (k * E.s + j) hlt
        rw [show (⟨g, k * E.s, none⟩ : Addr).add j = ⟨g, k * E.s + j, none⟩ by simp [Addr.add], hc, List.flatMap_append, List.getElem?_append_left (by rw [flat_length hl]; omega), ← List.getElem?_drop, flat_drop hl _ _ (by omega)]
        exact hj)
      (by rw [hcl, hfit]; exact hcs)
      (fun v hv => by obtain ⟨x, _, hx⟩ := List.mem_flatMap.1 hv; exact hE.one x v hx)
    rw [hmin] at hrun
    refine ⟨_, hrun, ⟨?_, .inr ⟨g, cap, _, by simp; omega, hb, setRow_heap w g _ _ _ _ hgg, by simp; omega, h2, ?_, ?_⟩⟩, ?_⟩
    · rw [flat_length hl]
    · rw [hcl, hfit, ← h3]
      simp only [List.size_toArray, List.length_append, List.length_take, List.length_drop, hcl, Array.length_toList]
      rw [Nat.min_eq_left (by omega)]
      omega
    · have ht : cur.toList.take ((k + 1) * E.s) = (xs.take (k + 1)).flatMap E.f := by
        have := congrArg (List.take ((k + 1) * E.s)) h4
        rw [List.take_take, Nat.min_eq_left (Nat.mul_le_mul_right _ (by omega)), flat_take hl _ _ (by simp; omega), List.take_append_of_le_length (by omega)] at this
        exact this
      rw [ht, ← List.flatMap_append]
      have hlen : (xs.take (k + 1) ++ xs.drop k).length = xs.length + 1 := by simp; omega
      rw [hlen]
      simp only []
      rw [List.take_append_of_le_length (by rw [flat_length hl, hlen]; exact Nat.le_refl _), List.take_of_length_le (by rw [flat_length hl, hlen]; exact Nat.le_refl _)]
    · exact ⟨rfl, rfl, rfl, by simp [World.setRow], fun j hj hne => setRow_other w g j _ (by intro e; exact hne (by rw [e]))⟩
end

theorem wpList_copyIn {α : Type} {E : El α} {P : Program} (hE : E.Ok P) {w : World} {ops : Array Oper} {rest : List Oper} {o : Oper} {a : Act} {Q : Exit → Act → World → Prop} (hgd : o.guard = none) (d s : Operand)
    (ho : o.op = .call { callee := .builtin .copy, args := #[d, s], argTypes := #[E.t, E.t] }) (g cap k m dCap sCap lo : Nat) (xs : List α) (z : α) (hm : xs.length - k = m)
    (hd : a.eval d = .slice (some ⟨g, (k + 1) * E.s, none⟩) m dCap) (hs : a.eval s = .slice (some ⟨g, k * E.s, none⟩) (xs.length + 1 - k) sCap)
    (hown : OwnF E w lo (.slice (some ⟨g, 0, none⟩) (xs.length + 1) cap) (xs ++ [z])) (hk : k < xs.length)
    (h : ∀ w', Hid (OwnF E w' lo (.slice (some ⟨g, 0, none⟩) (xs.length + 1) cap) (xs.take (k + 1) ++ xs.drop k)) → Hid (w.grownBy w' (some g)) → wpList P ops Q rest (a.put o.dst (goInt (m : Int))) w') :
    wpList P ops Q (o :: rest) a w := by
  refine wpList_plain hgd fun K hK => ?_
  obtain ⟨w', hrun, h1, h2⟩ := OwnF.shift (dT := E.t) (sT := E.t) (ty := o.type) (dCap := dCap) (sCap := sCap) hE hE.und hown hk
  rw [hm] at hrun
  unfold Oper.wp
  simp [execOp, ho, resolve, invoke, builtin, hd, hs, hrun, Result.andThen]
  exact hK _ _ (h _ h1 h2)
theorem step_copyIn {α : Type} {E : El α} {P : Program} (hE : E.Ok P) {ops : Array Oper} {o : Oper} {a : Act} {w : World} {K : Act → World → Prop} {Q : Exit → Act → World → Prop} {X : Prop} (hgd : o.guard = none) (d s : Operand)
    (ho : o.op = .call { callee := .builtin .copy, args := #[d, s], argTypes := #[E.t, E.t] }) (g cap k m dCap sCap lo : Nat) (xs : List α) (z : α) (hm : xs.length - k = m)
    (hd : a.eval d = .slice (some ⟨g, (k + 1) * E.s, none⟩) m dCap) (hs : a.eval s = .slice (some ⟨g, k * E.s, none⟩) (xs.length + 1 - k) sCap)
    (hown : OwnF E w lo (.slice (some ⟨g, 0, none⟩) (xs.length + 1) cap) (xs ++ [z])) (hk : k < xs.length)
    (h : ∀ w', Hid (OwnF E w' lo (.slice (some ⟨g, 0, none⟩) (xs.length + 1) cap) (xs.take (k + 1) ++ xs.drop k)) → Hid (w.grownBy w' (some g)) → K (a.put o.dst (goInt (m : Int))) w') :
    if Region.wanted o (yielded ops a.tmps) = true then Oper.wp P o a w K Q else X := by
  have hw : Region.wanted o (yielded ops a.tmps) = true := by simp [Region.wanted, hgd]
  rw [if_pos hw]
  obtain ⟨w', hrun, h1, h2⟩ := OwnF.shift (dT := E.t) (sT := E.t) (ty := o.type) (dCap := dCap) (sCap := sCap) hE hE.und hown hk
  rw [hm] at hrun
  unfold Oper.wp
  simp [execOp, ho, resolve, invoke, builtin, hd, hs, hrun, Result.andThen]
  exact h _ h1 h2
theorem run_copy_noneF {P : Program} (w : World) (dT sT ty elem : TypeId) (s : Nat) (d a : Option Addr) (dLen dCap sLen sCap : Nat) (hu : P.underlying dT = some (.slice elem)) (hs : (P.info? elem).map (·.size) = some s) (hn : Nat.min sLen dLen = 0) :
    (Builtin.copy_ #[dT, sT] ty #[.slice d dLen dCap, .slice a sLen sCap]).run P w = .ok (goInt 0) w := by
  cases hq : P.info? elem with
  | none => simp [hq] at hs
  | some i =>
    have hmin : min sLen dLen = 0 := hn
    cases d <;> cases a <;> simp [Builtin.copy_, run_underlying hu, Builtin.lenOf, Builtin.firstCells, sizeOf, typeInfo, hq, hmin, storeCells, loadCells, loadCellsFrom]
theorem step_copyNone {α : Type} {E : El α} {P : Program} (hE : E.Ok P) {ops : Array Oper} {o : Oper} {a : Act} {w : World} {K : Act → World → Prop} {Q : Exit → Act → World → Prop} {X : Prop} (hgd : o.guard = none) (d s : Operand)
    (ho : o.op = .call { callee := .builtin .copy, args := #[d, s], argTypes := #[E.t, E.t] }) {dp sp : Option Addr} {dLen dCap sLen sCap : Nat}
    (hd : a.eval d = .slice dp dLen dCap) (hs : a.eval s = .slice sp sLen sCap) (hn : Nat.min sLen dLen = 0) (h : K (a.put o.dst (goInt 0)) w) :
    if Region.wanted o (yielded ops a.tmps) = true then Oper.wp P o a w K Q else X := by
  have hw : Region.wanted o (yielded ops a.tmps) = true := by simp [Region.wanted, hgd]
  rw [if_pos hw]
  have hrun := run_copy_noneF (P := P) w E.t E.t o.type E.e E.s dp sp dLen dCap sLen sCap hE.und hE.size hn
  unfold Oper.wp
  simp [execOp, ho, resolve, invoke, builtin, hd, hs, hrun, Result.andThen]
  exact h
end Go.Proofs.Ytehnbalbpfmijaa
