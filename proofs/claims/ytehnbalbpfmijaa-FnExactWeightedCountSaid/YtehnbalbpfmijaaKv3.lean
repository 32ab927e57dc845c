/- What the claim's walk rests on: parts LAlt, ElsP, AppendF, LAltP, SrcRow, LAltE, Same, PathRow, PathRowS, AltS. -/
import Derived.Test.YtehnbalbpfmijaaKv2
import Derived.Test.YtehnbalbpfmijaaKv1
namespace Go.Proofs.Ytehnbalbpfmijaa
open Go.RowKit
set_option linter.unusedVariables false

theorem okRowA : (elSl 31 76).Ok Try.prog := okSl Try.underlying76 infoRow
theorem infoRowsA : (Try.prog.info? 76).map (fun i => (i.zero, i.size, i.bytes)) = some (some (.slice none 0 0), 1, 24) := by kernel_rfl
theorem okRowsA : (elSl 76 73).Ok Try.prog := okSl Try.underlying73 infoRowsA
abbrev eMA : El Sl := elSl 76 73

/-- Where it lies: six blocks from b1 on in any order. -/
structure ALay where
  pn : Nat
  b1 : Nat
  o0 : Nat
  m0 : Nat
  gc : Nat
  po : Nat
  pm : Nat
  pc : Nat
  lm : Nat
  hm : Nat
  ps : Nat
  lo2 : Nat
  g : Nat
  cap : Nat
structure ALay.Ok (L : ALay) (s : Nat) : Prop where
  s : s ≤ L.b1
  n : L.pn < L.b1
  o0 : L.b1 ≤ L.o0 ∧ L.o0 < L.lm
  m0 : L.b1 ≤ L.m0 ∧ L.m0 < L.lm
  gc : L.b1 ≤ L.gc ∧ L.gc < L.lm
  po : L.b1 ≤ L.po ∧ L.po < L.lm
  pm : L.b1 ≤ L.pm ∧ L.pm < L.lm
  pc : L.b1 ≤ L.pc ∧ L.pc < L.lm
  ne : (L.o0 ≠ L.m0 ∧ L.o0 ≠ L.gc ∧ L.o0 ≠ L.po ∧ L.o0 ≠ L.pm ∧ L.o0 ≠ L.pc) ∧ (L.m0 ≠ L.gc ∧ L.m0 ≠ L.po ∧ L.m0 ≠ L.pm ∧ L.m0 ≠ L.pc) ∧ (L.gc ≠ L.po ∧ L.gc ≠ L.pm ∧ L.gc ≠ L.pc) ∧ (L.po ≠ L.pm ∧ L.po ≠ L.pc) ∧ L.pm ≠ L.pc
  lh : L.lm ≤ L.hm
  hs : L.hm ≤ L.ps
  sl : L.ps < L.lo2
  g : L.g = L.m0 ∨ (L.lm ≤ L.g ∧ L.g < L.hm)
def aclos (L : ALay) : Value := .func (.func 124) #[] #[.pointer (some ⟨L.pn, 0, none⟩), .pointer (some ⟨L.pm, 0, none⟩), .pointer (some ⟨L.po, 0, none⟩), .pointer (some ⟨L.pc, 0, none⟩), .pointer (some ⟨L.ps, 0, none⟩)]
structure AEnv (L : ALay) (n : Nat) (C : List Int) (w : World) : Prop where
  en : w.heap[L.pn]? = some (.cells #[.int .i64 n] 3 (0, 0))
  ec : w.heap[L.pc]? = some (.cells #[.slice (some ⟨L.gc, 0, none⟩) n n] 31 (0, 0))
  eg : w.heap[L.gc]? = some (.cells ((C.map (Value.int .i64)).toArray) 3 (0, 0))
  em : w.heap[L.pm]? = some (.cells #[.slice (some ⟨L.g, 0, none⟩) n L.cap] 76 (0, 0))
  es : w.heap[L.ps]? = some (.cells #[aclos L] 135 (0, 0))
theorem AEnv.keep {L : ALay} {n : Nat} {C : List Int} {w w' : World} (h : AEnv L n C w) (hk : ∀ k, k = L.pn ∨ k = L.pc ∨ k = L.gc ∨ k = L.pm ∨ k = L.ps → w'.heap[k]? = w.heap[k]?) : AEnv L n C w' :=
  ⟨(hk _ (.inl rfl)).trans h.en, (hk _ (.inr (.inl rfl))).trans h.ec, (hk _ (.inr (.inr (.inl rfl)))).trans h.eg, (hk _ (.inr (.inr (.inr (.inl rfl))))).trans h.em, (hk _ (.inr (.inr (.inr (.inr rfl))))).trans h.es⟩
/-- The matrix in work. -/
abbrev AMat (w0 : World) (L : ALay) (n : Nat) (wr : World) (M : List (List Int)) : Prop := NRel (kdF elInt) (elSl 31 76) w0 L.b1 L.lm wr L.hm (.slice (some ⟨L.g, 0, none⟩) n L.cap) M
/-- The list. -/
structure AOut (w0 : World) (L : ALay) (wr : World) (v : Value) (hi : Nat) (os : List (List (List Int))) : Prop where
  cell : wr.heap[L.po]? = some (.cells #[v] 73 (0, 0))
  rel : NRel kdM eMA w0 L.b1 L.lo2 wr hi v os
  hi : L.lo2 ≤ hi
  at_ : ∀ g, v.ownBlock = some g → g = L.o0 ∨ L.lo2 ≤ g
def ASt (w0 : World) (L : ALay) (n : Nat) (wr : World) (M : List (List Int)) (C : List Int) (os : List (List (List Int))) : Prop :=
  AEnv L n C wr ∧ AMat w0 L n wr M ∧ RShape n n M ∧ ∃ v hi, AOut w0 L wr v hi os

section
variable {w0 wr w1 : World} {L : ALay} {n : Nat} {M : List (List Int)} {C : List Int} {os : List (List (List Int))} {v : Value} {hi : Nat}
theorem AOut.below (h : AOut w0 L wr v hi os) (hb : Below wr.heap.size wr w1) : AOut w0 L w1 v hi os :=
  ⟨(hb.block _ (lt_of_block h.cell)).trans h.cell, h.rel.below hb, h.hi, h.at_⟩
theorem ASt.below (h : ASt w0 L n wr M C os) (hb : Below wr.heap.size wr w1) : ASt w0 L n w1 M C os := by
  obtain ⟨h1, h2, h3, v, hi, h4⟩ := h
  refine ⟨h1.keep fun k hk => hb.block k ?_, h2.below hb, h3, v, hi, h4.below hb⟩
  rcases hk with rfl | rfl | rfl | rfl | rfl
  · exact lt_of_block h1.en
  · exact lt_of_block h1.ec
  · exact lt_of_block h1.eg
  · exact lt_of_block h1.em
  · exact lt_of_block h1.es
theorem ASt.big (h : ASt w0 L n wr M C os) : Below w0.heap.size w0 wr := h.2.1.choose_spec.1.2.1
/-- One number is written. -/
theorem ASt.num (hL : L.Ok w0.heap.size) (h : ASt w0 L n wr M C os) {y x : Nat} (hy : y < n) (hx : x < n) :
    ∃ gi ci, n ≤ L.cap ∧ L.cap ≤ maxLen ∧ n ≤ ci ∧ ci ≤ maxLen ∧ wr.cell? ⟨L.pm, 0, none⟩ = some (.slice (some ⟨L.g, 0, none⟩) n L.cap) ∧ wr.cell? ⟨L.g, y, none⟩ = some (.slice (some ⟨gi, 0, none⟩) n ci) ∧ wr.cell? ⟨gi, x, none⟩ = some (.int .i64 (el (rw' M y) x)) ∧ wr.frozen? ⟨gi, x, none⟩ = false ∧
      Hid (∀ z, ASt w0 L n (wr.setCell ⟨gi, x, none⟩ (.int .i64 z)) (M.set y ((rw' M y).set x z)) C os) := by
  obtain ⟨h1, h2, h3, v, hi, h4⟩ := h
  have o1 := hL.s; have o2 := hL.n; have o3 := hL.o0; have o4 := hL.m0; have o5 := hL.gc; have o6 := hL.po; have o7 := hL.pm; have o8 := hL.pc; have o9 := hL.lh; have o10 := hL.hs; have o11 := hL.sl
  obtain ⟨gi, ci, _, q2, q3, _, q5, q6, q7, q8, q9, q10, q11, q12⟩ := h2.num okRowA h3 (by omega) hy hx
  refine ⟨gi, ci, q2, q3, q5, q6, cell_of_one h1.em, q7, q10, q11, fun z => ⟨h1.keep fun k hk => Below.heap_setCell _ _ _ _ (by show k ≠ gi; omega), q12.out z, rshape_set h3 hy (by rw [List.length_set]; exact h3.2 y hy), v, hi, ?_⟩⟩
  have hsame : ∀ k, k ≠ gi → (wr.setCell ⟨gi, x, none⟩ (.int .i64 z)).heap[k]? = wr.heap[k]? := fun k hk => Below.heap_setCell _ _ _ _ hk
  exact ⟨(hsame _ (by omega)).trans h4.cell, h4.rel.kept ((ASt.big ⟨h1, h2, h3, v, hi, h4⟩).setCell (by show w0.heap.size ≤ gi; omega) _) (by simp) (fun k hk => hsame _ (by have := h4.at_ k hk; omega)) (fun k k1 _ => hsame _ (by omega)), h4.hi, h4.at_⟩
/-- One sum is read, and written. -/
theorem ASt.col (hL : L.Ok w0.heap.size) (h : ASt w0 L n wr M C os) (hC : C.length = n) {x : Nat} (hx : x < n) :
    wr.cell? ⟨L.pc, 0, none⟩ = some (.slice (some ⟨L.gc, 0, none⟩) n n) ∧ wr.cell? ⟨L.gc, x, none⟩ = some (.int .i64 (el C x)) ∧ wr.frozen? ⟨L.gc, x, none⟩ = false ∧
      Hid (∀ z, ASt w0 L n (wr.setCell ⟨L.gc, x, none⟩ (.int .i64 z)) M (C.set x z) os) := by
  obtain ⟨h1, h2, h3, v, hi, h4⟩ := h
  have o1 := hL.s; have o2 := hL.n; have o3 := hL.o0; have o4 := hL.m0; have o5 := hL.gc; have o6 := hL.po; have o7 := hL.pm; have o8 := hL.pc; have o9 := hL.lh; have o10 := hL.hs; have o11 := hL.sl
  obtain ⟨⟨n1, n2, n3, n4, n5⟩, ⟨n6, n7, n8, n9⟩, ⟨n10, n11, n12⟩, ⟨n13, n14⟩, n15⟩ := hL.ne
  refine ⟨cell_of_one h1.ec, ?_, blk_free h1.eg, fun z => ?_⟩
  · rw [blk_cell h1.eg, List.getElem?_toArray, List.getElem?_map, List.getElem?_eq_getElem (by omega), el_get _ _ (by omega)]; rfl
  have hsame : ∀ k, k ≠ L.gc → (wr.setCell ⟨L.gc, x, none⟩ (.int .i64 z)).heap[k]? = wr.heap[k]? := fun k hk => Below.heap_setCell _ _ _ _ hk
  have hbig := (ASt.big ⟨h1, h2, h3, v, hi, h4⟩).setCell (p := ⟨L.gc, x, none⟩) (by show w0.heap.size ≤ L.gc; omega) (.int .i64 z)
  refine ⟨⟨(hsame _ (by clear n1 n2 n3 n4 n5 n6 n7 n8 n9 n10 n11 n12 n13 n14 n15; omega)).trans h1.en, (hsame _ (Ne.symm n12)).trans h1.ec, ?_, (hsame _ (Ne.symm n11)).trans h1.em, (hsame _ (by clear n1 n2 n3 n4 n5 n6 n7 n8 n9 n10 n11 n12 n13 n14 n15; omega)).trans h1.es⟩, h2.kept hbig (by simp) (fun k hk => hsame _ ?_) (fun k k1 _ => hsame _ (by clear n1 n2 n3 n4 n5 n6 n7 n8 n9 n10 n11 n12 n13 n14 n15; omega)), h3, v, hi, (hsame _ (Ne.symm n10)).trans h4.cell, h4.rel.kept hbig (by simp) (fun k hk => hsame _ ?_) (fun k k1 _ => hsame _ (by clear n1 n2 n3 n4 n5 n6 n7 n8 n9 n10 n11 n12 n13 n14 n15; omega)), h4.hi, h4.at_⟩
  · rw [blk_setCell h1.eg, List.setIfInBounds_toArray, List.map_set]
  · simp only [Value.ownBlock, Option.some.injEq] at hk
    subst hk
    rcases hL.g with e | e
    · rw [e]; exact n6
    · clear n1 n2 n3 n4 n5 n6 n7 n8 n9 n10 n11 n12 n13 n14 n15; omega
  · rcases h4.at_ k hk with e | e
    · rw [e]; exact n2
    · clear n1 n2 n3 n4 n5 n6 n7 n8 n9 n10 n11 n12 n13 n14 n15; omega
/-- A matrix is added to the list. -/
theorem ASt.push {w2 : World} {v' : Value} {ss : List Sl} {s : Sl} {x : List (List Int)} {p : Nat} (hL : L.Ok w0.heap.size) (h1 : AEnv L n C wr) (h2 : AMat w0 L n wr M) (h3 : RShape n n M) (hs : Els kdM wr L.lo2 hi v.ownBlock ss os) (hh : hi ≤ p) (hlo : L.lo2 ≤ hi) (hx : OwnM wr p wr.heap.size (slV s) x)
    (hpw : p ≤ wr.heap.size) (hat : ∀ g, v.ownBlock = some g → g = L.o0 ∨ L.lo2 ≤ g) (hvp : ∀ g, v.ownBlock = some g → g < p) (hpo : ∃ u, wr.heap[L.po]? = some (.cells #[u] 73 (0, 0)))
    (hA : Hid (Acc eMA w0 L.b1 w2 v' (ss ++ [s]))) (hG : Hid (Grew wr w2 v v')) : ASt w0 L n (w2.setCell ⟨L.po, 0, none⟩ v') M C (os ++ [x]) := by
  have o1 := hL.s; have o2 := hL.n; have o3 := hL.o0; have o4 := hL.m0; have o5 := hL.gc; have o6 := hL.po; have o7 := hL.pm; have o8 := hL.pc; have o9 := hL.lh; have o10 := hL.hs; have o11 := hL.sl
  obtain ⟨u, hpo⟩ := hpo
  have hN := NRel.push (K := kdM) (wr := wr) (a := p) (b := wr.heap.size) hs (by omega) hx (by omega) hh (Nat.le_refl _) (fun g hg => .inl (hvp g hg)) hA hG
  obtain ⟨g1, g, g2, g3, g4⟩ := hG.out
  have hat' : ∀ k, v'.ownBlock = some k → k = L.o0 ∨ L.lo2 ≤ k := fun k hk => by
    rw [g2] at hk
    obtain rfl := Option.some.inj hk
    rcases g3 with g3 | g3
    · exact hat g g3
    · exact .inr (by omega)
  have hsz := g1.size
  have hpol := lt_of_block hpo
  have hpm := lt_of_block h1.em
  have hps := lt_of_block h1.es
  have hold : ∀ k, k < wr.heap.size → k ≠ L.po → k ≠ L.o0 → (k < L.lo2) → (w2.setCell ⟨L.po, 0, none⟩ v').heap[k]? = wr.heap[k]? := fun k k1 k2 k3 k4 =>
    (Below.heap_setCell _ _ _ _ (by show k ≠ L.po; exact k2)).trans (g1.block k k1 (fun e => by have := hat k e.symm; omega))
  have hbig : Below w0.heap.size w0 (w2.setCell ⟨L.po, 0, none⟩ v') := hA.out.2.1.setCell (by show w0.heap.size ≤ L.po; omega) _
  have hob : ∀ k, k ≠ L.po → (w2.setCell ⟨L.po, 0, none⟩ v').heap[k]? = w2.heap[k]? := fun k hk => Below.heap_setCell _ _ _ _ hk
  have hmh : L.hm ≤ wr.heap.size := h2.choose_spec.2.2
  have hgl : L.g < wr.heap.size := by have := h2.choose_spec.1.lt L.g rfl; omega
  have hne := hL.ne
  have hg0 := hL.g
  have hgne : L.g ≠ L.po ∧ L.g ≠ L.o0 := by
    rcases hg0 with e | e
    · rw [e]; exact ⟨hne.2.1.2.1, Ne.symm hne.1.1⟩
    · clear hne; omega
  have hcells : AEnv L n C (w2.setCell ⟨L.po, 0, none⟩ v') := by
    refine h1.keep fun k hk => ?_
    rcases hk with rfl | rfl | rfl | rfl | rfl
    · clear hne; exact hold _ (lt_of_block h1.en) (by omega) (by omega) (by omega)
    · exact hold _ (lt_of_block h1.ec) (Ne.symm hne.2.2.2.1.2) (Ne.symm hne.1.2.2.2.2) (by clear hne; omega)
    · exact hold _ (lt_of_block h1.eg) hne.2.2.1.1 (Ne.symm hne.1.2.1) (by clear hne; omega)
    · exact hold _ hpm (Ne.symm hne.2.2.2.1.1) (Ne.symm hne.1.2.2.2.1) (by clear hne; omega)
    · clear hne; exact hold _ hps (by omega) (by omega) (by omega)
  have hpo0 : L.o0 ≠ L.po := hne.1.2.2.1
  clear hne
  refine ⟨hcells, h2.kept hbig (by simp; omega) (fun k hk => ?_) (fun k k1 k2 => hold k (by omega) (by omega) (by omega) (by omega)), h3, v', w2.heap.size, ?_, ?_, by omega, hat'⟩
  · simp only [Value.ownBlock, Option.some.injEq] at hk
    subst hk
    exact hold _ hgl hgne.1 hgne.2 (by omega)
  · have hc : ∃ u, w2.heap[L.po]? = some (.cells #[u] 73 (0, 0)) := ⟨u, (g1.block L.po hpol (fun e => by have := hat L.po e.symm; omega)).trans hpo⟩
    obtain ⟨u', hu'⟩ := hc
    exact (blk_setCell hu' _).trans (by simp)
  · exact hN.kept hbig (by simp) (fun k hk => hob k (by have := hat' k hk; omega)) (fun k k1 _ => hob k (by omega))
theorem ASt.drewN (h : ASt w0 L n wr M C os) (k : Nat) : ASt w0 L n (wr.drewN k) M C os := h.below (Drawn.below ⟨k, rfl⟩ _)
theorem ASt.func (h : ASt w0 L n wr M C os) : wr.cell? ⟨L.ps, 0, none⟩ = some (aclos L) := cell_of_one h.1.es
end
end Go.Proofs.Ytehnbalbpfmijaa

namespace Go.Proofs.Ytehnbalbpfmijaa
open Go.RowKit
set_option linter.unusedVariables false

section
variable {α : Type} {K : Kd α}
/-- The elements: each in an interval of its own, none with a block of O. -/
def ElsP (K : Kd α) (w : World) (lo hi : Nat) (O : Nat → Prop) (ss : List Sl) (xs : List α) : Prop :=
  ss.length = xs.length ∧ ∃ a b : Nat → Nat, (∀ i s x, ss[i]? = some s → xs[i]? = some x → lo ≤ a i ∧ b i ≤ hi ∧ K.P w (a i) (b i) (slV s) x ∧ ∀ g, O g → g < a i ∨ b i ≤ g) ∧ ∀ i j, i < j → j < xs.length → b i ≤ a j
theorem ElsP.nil (w : World) (lo hi : Nat) (O : Nat → Prop) : ElsP K w lo hi O [] [] := ⟨rfl, fun _ => 0, fun _ => 0, fun i s x h => by simp at h, fun i j _ h => by simp at h⟩
theorem ElsP.kept {w w' : World} {lo hi : Nat} {O : Nat → Prop} {ss : List Sl} {xs : List α} (h : ElsP K w lo hi O ss xs) (hs : w.heap.size ≤ w'.heap.size) (hk : ∀ k, lo ≤ k → k < hi → ¬ O k → w'.heap[k]? = w.heap[k]?) : ElsP K w' lo hi O ss xs := by
  obtain ⟨h1, a, b, h2, h3⟩ := h
  refine ⟨h1, a, b, fun i s x hi hx => ?_, h3⟩
  obtain ⟨p1, p2, p3, p4⟩ := h2 i s x hi hx
  exact ⟨p1, p2, K.keep p3 hs fun k q1 q2 => hk k (by omega) (by omega) (fun e => by have := p4 k e; omega), p4⟩
theorem ElsP.excl {w : World} {lo hi : Nat} {O O' : Nat → Prop} {ss : List Sl} {xs : List α} (h : ElsP K w lo hi O ss xs) (ho : ∀ g, O' g → O g ∨ hi ≤ g ∨ g < lo) : ElsP K w lo hi O' ss xs := by
  obtain ⟨h1, a, b, h2, h3⟩ := h
  refine ⟨h1, a, b, fun i s x hi hx => ?_, h3⟩
  obtain ⟨p1, p2, p3, p4⟩ := h2 i s x hi hx
  refine ⟨p1, p2, p3, fun g hg => ?_⟩
  rcases ho g hg with h | h | h
  · exact p4 g h
  · exact .inr (by omega)
  · exact .inl (by omega)
theorem ElsP.els {w : World} {lo hi : Nat} {O : Nat → Prop} {o : Option Nat} {ss : List Sl} {xs : List α} (h : ElsP K w lo hi O ss xs) (ho : ∀ g, o = some g → O g) : Els K w lo hi o ss xs := by
  obtain ⟨h1, a, b, h2, h3⟩ := h
  refine ⟨h1, a, b, fun i s x hi hx => ?_, h3⟩
  obtain ⟨p1, p2, p3, p4⟩ := h2 i s x hi hx
  exact ⟨p1, p2, p3, fun g hg => p4 g (ho g hg)⟩
theorem ElsP.push {w : World} {lo hi hi' a b : Nat} {O : Nat → Prop} {ss : List Sl} {xs : List α} {s : Sl} {x : α} (h : ElsP K w lo hi O ss xs) (hx : K.P w a b (slV s) x) (hl : lo ≤ a) (ha : hi ≤ a) (hb : b ≤ hi') (hh : hi ≤ hi') (hO : ∀ g, O g → g < a ∨ b ≤ g) : ElsP K w lo hi' O (ss ++ [s]) (xs ++ [x]) := by
  obtain ⟨e1, fa, fb, e2, e3⟩ := h
  refine ⟨by simp [e1], fun i => if i < xs.length then fa i else a, fun i => if i < xs.length then fb i else b, fun i s' x' h1 h2 => ?_, fun i j hij hj => ?_⟩
  · by_cases e : i < xs.length
    · rw [List.getElem?_append_left (by omega)] at h1
      rw [List.getElem?_append_left e] at h2
      simp only [e, if_true]
      obtain ⟨p1, p2, p3, p4⟩ := e2 i s' x' h1 h2
      exact ⟨p1, by omega, p3, p4⟩
    · rw [List.getElem?_append_right (by omega)] at h1 h2
      by_cases e4 : i = xs.length
      · subst e4
        rw [e1] at h1
        simp at h1 h2
        subst h1 h2
        simp only [Nat.lt_irrefl, if_false]
        exact ⟨hl, hb, hx, hO⟩
      · rw [List.getElem?_eq_none (by simp; omega)] at h2; simp at h2
  · simp only [List.length_append, List.length_singleton] at hj
    simp only [show i < xs.length by omega, if_true]
    by_cases e : j < xs.length
    · simp only [e, if_true]; exact e3 i j hij e
    · simp only [e, if_false]
      obtain ⟨s', hs'⟩ : ∃ s', ss[i]? = some s' := ⟨_, List.getElem?_eq_getElem (by omega)⟩
      obtain ⟨x', hx'⟩ : ∃ x', xs[i]? = some x' := ⟨_, List.getElem?_eq_getElem (by omega)⟩
      have := (e2 i s' x' hs' hx').2.1
      omega
end

section
variable {α : Type} {E : El α}
theorem OwnF.same {w w' : World} {lo : Nat} {v : Value} {xs : List α} (h : OwnF E w lo v xs) (hk : ∀ k, v.ownBlock = some k → w'.heap[k]? = w.heap[k]?) : OwnF E w' lo v xs := by
  refine ⟨h.1, ?_⟩
  rcases h.2 with hn | ⟨g, cap, cur, rfl, hb, hgg, rest⟩
  · exact .inl hn
  · exact .inr ⟨g, cap, cur, rfl, hb, (hk g rfl).trans hgg, rest⟩
/-- The last element is cut off. -/
theorem OwnF.pop (hE : ∀ x, (E.f x).length = E.s) {w : World} {lo : Nat} {v : Value} {xs : List α} {x : α} (h : OwnF E w lo v (xs ++ [x])) :
    ∃ g c, v = .slice (some ⟨g, 0, none⟩) (xs.length + 1) c ∧ xs.length + 1 ≤ c ∧ c ≤ maxLen ∧ OwnF E w lo (.slice (some ⟨g, 0, none⟩) xs.length c) xs := by
  rcases h.2 with ⟨_, h0⟩ | ⟨g, cap, cur, hv, hb, hgg, h1, h2, h3, h4⟩
  · simp at h0
  · simp only [List.length_append, List.length_singleton] at hv h1 h4
    refine ⟨g, cap, hv, h1, h2, flat_length hE xs, .inr ⟨g, cap, cur, rfl, hb, hgg, by omega, h2, h3, ?_⟩⟩
    rw [List.flatMap_append] at h4
    have h5 := congrArg (List.take (xs.length * E.s)) h4
    rw [List.take_take, Nat.min_eq_left (Nat.mul_le_mul_right _ (by omega)), List.take_append_of_le_length (by rw [flat_length hE]; exact Nat.le_refl _), List.take_of_length_le (l := xs.flatMap E.f) (by rw [flat_length hE]; exact Nat.le_refl _)] at h5
    exact h5
theorem OwnF.rdFull {P : Program} (hE : E.Ok P) {w : World} {lo : Nat} {v : Value} {xs : List α} (h : OwnF E w lo v xs) : RdF E w w.heap.size v xs := h.rd hE

/-- Where the list and the row lie. -/
structure TLay where
  po : Nat
  pw : Nat
  o0 : Nat
  m0 : Nat
  lo : Nat
  lo2 : Nat
structure TLay.Ok (L : TLay) : Prop where
  o : L.lo ≤ L.o0
  m : L.lo ≤ L.m0
  o2 : L.o0 < L.lo2
  m2 : L.m0 < L.lo2
  p2 : L.po < L.lo2
  w2 : L.pw < L.lo2
  om : L.o0 ≠ L.m0
  pw_ : L.po ≠ L.pw
  po0 : L.po ≠ L.o0
  pm0 : L.po ≠ L.m0
  wo0 : L.pw ≠ L.o0
  wm0 : L.pw ≠ L.m0
  lp : L.lo ≤ L.po
  lw : L.lo ≤ L.pw
/-- All other blocks below stay. -/
def Fix (L : TLay) (w w' : World) : Prop := ∀ k, k < L.lo2 → k ≠ L.po → k ≠ L.pw → k ≠ L.o0 → k ≠ L.m0 → w'.heap[k]? = w.heap[k]?
theorem Fix.refl (L : TLay) (w : World) : Fix L w w := fun _ _ _ _ _ _ => rfl
theorem Fix.trans {L : TLay} {a b c : World} (h : Fix L a b) (h' : Fix L b c) : Fix L a c := fun k h1 h2 h3 h4 h5 => (h' k h1 h2 h3 h4 h5).trans (h k h1 h2 h3 h4 h5)
theorem Fix.below {L : TLay} {a b : World} (h : Below a.heap.size a b) (hl : L.lo2 ≤ a.heap.size) : Fix L a b := fun k h1 _ _ _ _ => h.block k (by omega)

structure TS (E : El α) (ES : El Sl) (w0 : World) (L : TLay) (wr : World) (vo vw : Value) (ho : Nat) (ss : List Sl) (hd : List α) (os : List (List α)) : Prop where
  co : wr.heap[L.po]? = some (.cells #[vo] ES.t (0, 0))
  cw : wr.heap[L.pw]? = some (.cells #[vw] E.t (0, 0))
  ao : Acc ES w0 L.lo wr vo ss
  aw : Acc E w0 L.lo wr vw hd
  el : ElsP (kdF E) wr L.lo2 ho (fun g => vo.ownBlock = some g ∨ vw.ownBlock = some g) ss os
  lh : L.lo2 ≤ ho
  hs : ho ≤ wr.heap.size
  bo : ∀ g, vo.ownBlock = some g → g = L.o0 ∨ L.lo2 ≤ g
  bw : ∀ g, vw.ownBlock = some g → g = L.m0 ∨ L.lo2 ≤ g
  ne : ∀ g, vo.ownBlock = some g → vw.ownBlock ≠ some g
def TSt (E : El α) (ES : El Sl) (w0 : World) (L : TLay) (wr : World) (hd : List α) (os : List (List α)) : Prop := ∃ vo vw ho ss, TS E ES w0 L wr vo vw ho ss hd os

variable {ES : El Sl} {w0 wr w1 w2 : World} {L : TLay} {vo vw v' : Value} {ho : Nat} {ss : List Sl} {hd : List α} {os : List (List α)} {x : α}
theorem TS.below (h : TS E ES w0 L wr vo vw ho ss hd os) (hb : Below wr.heap.size wr w1) : TS E ES w0 L w1 vo vw ho ss hd os :=
  ⟨(hb.block _ (lt_of_block h.co)).trans h.co, (hb.block _ (lt_of_block h.cw)).trans h.cw, h.ao.below hb, h.aw.below hb, h.el.kept hb.size fun k _ hk _ => hb.block k (by have := h.hs; omega), h.lh, Nat.le_trans h.hs hb.size, h.bo, h.bw, h.ne⟩
theorem TS.fix (h : TS E ES w0 L wr vo vw ho ss hd os) (hb : Below wr.heap.size wr w1) : Fix L wr w1 := Fix.below hb (Nat.le_trans h.lh h.hs)
theorem TS.big (h : TS E ES w0 L wr vo vw ho ss hd os) : Below w0.heap.size w0 wr := h.ao.2.1
theorem TS.cello (h : TS E ES w0 L wr vo vw ho ss hd os) : wr.cell? ⟨L.po, 0, none⟩ = some vo := cell_of_one h.co
theorem TS.cellw (h : TS E ES w0 L wr vo vw ho ss hd os) : wr.cell? ⟨L.pw, 0, none⟩ = some vw := cell_of_one h.cw
theorem TS.lenw {P : Program} (hE : E.Ok P) (h : TS E ES w0 L wr vo vw ho ss hd os) : ∃ A c, vw = .slice A hd.length c ∧ hd.length ≤ c ∧ c ≤ maxLen := by
  obtain ⟨A, c, hv, h1, h2, _⟩ := h.aw.1.rd hE; exact ⟨A, c, hv, h1, h2⟩
theorem TS.leno {P : Program} (hE : ES.Ok P) (h : TS E ES w0 L wr vo vw ho ss hd os) : ∃ A c, vo = .slice A ss.length c ∧ ss.length ≤ c ∧ c ≤ maxLen := by
  obtain ⟨A, c, hv, h1, h2, _⟩ := h.ao.1.rd hE; exact ⟨A, c, hv, h1, h2⟩
/-- The row grows by one. -/
theorem TS.pushOwn (hL : L.Ok) (h : TS E ES w0 L wr vo vw ho ss hd os) (HA : Acc E w0 L.lo w2 v' (hd ++ [x])) (HG : Grew wr w2 vw v') :
    TS E ES w0 L (w2.setCell ⟨L.pw, 0, none⟩ v') vo v' ho ss (hd ++ [x]) os ∧ Fix L wr (w2.setCell ⟨L.pw, 0, none⟩ v') ∧ (∃ u, w2.heap[L.pw]? = some (.cells #[u] E.t (0, 0))) := by
  obtain ⟨g1, g, g2, g3, g4⟩ := HG
  have l1 := hL.w2; have l2 := hL.p2; have l3 := hL.o2; have l4 := hL.m2; have l5 := hL.pw_; have l6 := hL.wo0; have l7 := hL.wm0; have l8 := hL.po0; have l9 := hL.pm0; have l10 := hL.om; have l11 := hL.lw
  have hlo := Nat.le_trans h.lh h.hs
  have hsame : ∀ k, k < wr.heap.size → vw.ownBlock ≠ some k → k ≠ L.pw → (w2.setCell ⟨L.pw, 0, none⟩ v').heap[k]? = wr.heap[k]? := fun k k1 k2 k3 =>
    (Below.heap_setCell _ _ _ _ (by show k ≠ L.pw; exact k3)).trans (g1.block k k1 (fun e => k2 e.symm))
  have hpw : w2.heap[L.pw]? = some (.cells #[vw] E.t (0, 0)) := (g1.block L.pw (by omega) (fun e => by have := h.bw L.pw e.symm; omega)).trans h.cw
  have hgb : g = L.m0 ∨ L.lo2 ≤ g := by
    rcases g3 with g3 | g3
    · exact h.bw g g3
    · exact .inr (by omega)
  have hw0 : w0.heap.size ≤ L.pw := Nat.le_trans h.aw.2.2.1 l11
  refine ⟨⟨?_, ?_, ⟨h.ao.1.same fun k hk => ?_, HA.2.1.setCell hw0 _, h.ao.2.2.1, by simpa using HA.2.2.2⟩, ⟨HA.1.same fun k hk => Below.heap_setCell _ _ _ _ ?_, HA.2.1.setCell hw0 _, HA.2.2.1, by simpa using HA.2.2.2⟩, ?_, h.lh, ?_, h.bo, ?_, ?_⟩, ?_, ⟨_, hpw⟩⟩
  · exact (hsame L.po (by omega) (fun e => by have := h.bw _ e; omega) l5).trans h.co
  · exact (blk_setCell hpw _).trans (by simp)
  · exact hsame k ((h.ao.1.lt k hk).2) (h.ne k hk) (by have := h.bo k hk; omega)
  · rw [g2] at hk; obtain rfl := Option.some.inj hk; show g ≠ L.pw; omega
  · refine (h.el.kept (w' := w2.setCell ⟨L.pw, 0, none⟩ v') (by simpa using g1.size) fun k k1 k2 k3 => hsame k (by have := h.hs; omega) (fun e => k3 (.inr e)) (by omega)).excl fun k hk => ?_
    rcases hk with hk | hk
    · exact .inl (.inl hk)
    · rw [g2] at hk
      obtain rfl := Option.some.inj hk
      rcases g3 with g3 | g3
      · exact .inl (.inr g3)
      · exact .inr (.inl (by have := h.hs; omega))
  · simpa using Nat.le_trans h.hs g1.size
  · intro k hk; rw [g2] at hk; obtain rfl := Option.some.inj hk; exact hgb
  · intro k hk e
    rw [g2] at e
    obtain rfl := Option.some.inj e
    rcases g3 with g3 | g3
    · exact h.ne g hk g3
    · have := (h.ao.1.lt g hk).2; omega
  · intro k k1 k2 k3 k4 k5
    exact hsame k (by omega) (fun e => by have := h.bw k e; omega) k3
/-- The row's last element is cut off. -/
theorem TS.popOwn (hE : ∀ x, (E.f x).length = E.s) (hL : L.Ok) (h : TS E ES w0 L wr vo vw ho ss (hd ++ [x]) os) :
    ∃ g c, vw = .slice (some ⟨g, 0, none⟩) (hd.length + 1) c ∧ hd.length + 1 ≤ c ∧ c ≤ maxLen ∧
      Hid (TS E ES w0 L (wr.setCell ⟨L.pw, 0, none⟩ (.slice (some ⟨g, 0, none⟩) hd.length c)) vo (.slice (some ⟨g, 0, none⟩) hd.length c) ho ss hd os ∧ Fix L wr (wr.setCell ⟨L.pw, 0, none⟩ (.slice (some ⟨g, 0, none⟩) hd.length c))) := by
  obtain ⟨g, c, rfl, h1, h2, h3⟩ := h.aw.1.pop hE
  have l1 := hL.w2; have l2 := hL.p2; have l3 := hL.o2; have l4 := hL.m2; have l5 := hL.pw_; have l6 := hL.wo0; have l7 := hL.wm0; have l8 := hL.po0; have l9 := hL.pm0; have l10 := hL.om; have l11 := hL.lw
  have hw0 : w0.heap.size ≤ L.pw := Nat.le_trans h.aw.2.2.1 l11
  have hb := h.bw g rfl
  have hsame : ∀ k, k ≠ L.pw → (wr.setCell ⟨L.pw, 0, none⟩ (.slice (some ⟨g, 0, none⟩) hd.length c)).heap[k]? = wr.heap[k]? := fun k k3 => Below.heap_setCell _ _ _ _ k3
  refine ⟨g, c, rfl, h1, h2, ⟨?_, ?_, ⟨h.ao.1.same fun k hk => hsame k (by have := h.bo k hk; omega), h.ao.2.1.setCell hw0 _, h.ao.2.2.1, by simpa using h.ao.2.2.2⟩, ⟨h3.same fun k hk => hsame k ?_, h.aw.2.1.setCell hw0 _, h.aw.2.2.1, by simpa using h.aw.2.2.2⟩, ?_, h.lh, by simpa using h.hs, h.bo, h.bw, h.ne⟩, fun k k1 k2 k3 k4 k5 => hsame k k3⟩
  · exact (hsame _ l5).trans h.co
  · exact (blk_setCell h.cw _).trans (by simp)
  · simp only [Value.ownBlock, Option.some.injEq] at hk; subst hk; omega
  · exact h.el.kept (by simp) fun k k1 k2 k3 => hsame k (by omega)
/-- A row is added to the list. -/
theorem TS.pushOut {p : Nat} {s : Sl} {y : List α} (hL : L.Ok) (h : TS E ES w0 L wr vo vw ho ss hd os) (hp : ho ≤ p) (hpw : p ≤ wr.heap.size) (hx : OwnF E wr p (slV s) y) (hvw : ∀ g, vw.ownBlock = some g → g < p) (hvo : ∀ g, vo.ownBlock = some g → g < p)
    (HA : Acc ES w0 L.lo w2 v' (ss ++ [s])) (HG : Grew wr w2 vo v') :
    TS E ES w0 L (w2.setCell ⟨L.po, 0, none⟩ v') v' vw w2.heap.size (ss ++ [s]) hd (os ++ [y]) ∧ Fix L wr (w2.setCell ⟨L.po, 0, none⟩ v') ∧ (∃ u, w2.heap[L.po]? = some (.cells #[u] ES.t (0, 0))) := by
  obtain ⟨g1, g, g2, g3, g4⟩ := HG
  have l1 := hL.w2; have l2 := hL.p2; have l3 := hL.o2; have l4 := hL.m2; have l5 := hL.pw_; have l6 := hL.wo0; have l7 := hL.wm0; have l8 := hL.po0; have l9 := hL.pm0; have l10 := hL.om; have l11 := hL.lp
  have hlo := Nat.le_trans h.lh h.hs
  have hsz := g1.size
  have hlh := h.lh
  have hsame : ∀ k, k < wr.heap.size → vo.ownBlock ≠ some k → k ≠ L.po → (w2.setCell ⟨L.po, 0, none⟩ v').heap[k]? = wr.heap[k]? := fun k k1 k2 k3 =>
    (Below.heap_setCell _ _ _ _ (by show k ≠ L.po; exact k3)).trans (g1.block k k1 (fun e => k2 e.symm))
  have hpo : w2.heap[L.po]? = some (.cells #[vo] ES.t (0, 0)) := (g1.block L.po (by omega) (fun e => by have := h.bo L.po e.symm; omega)).trans h.co
  have hgb : g = L.o0 ∨ L.lo2 ≤ g := by
    rcases g3 with g3 | g3
    · exact h.bo g g3
    · exact .inr (by omega)
  have hw0 : w0.heap.size ≤ L.po := Nat.le_trans h.ao.2.2.1 l11
  refine ⟨⟨?_, ?_, ⟨HA.1.same fun k hk => Below.heap_setCell _ _ _ _ ?_, HA.2.1.setCell hw0 _, HA.2.2.1, by simpa using HA.2.2.2⟩, ⟨h.aw.1.same fun k hk => ?_, HA.2.1.setCell hw0 _, h.aw.2.2.1, by simpa using HA.2.2.2⟩, ?_, by omega, by simp, ?_, h.bw, ?_⟩, ?_, ⟨_, hpo⟩⟩
  · exact (blk_setCell hpo _).trans (by simp)
  · exact (hsame L.pw (by omega) (fun e => by have := h.bo _ e; omega) (Ne.symm l5)).trans h.cw
  · rw [g2] at hk; obtain rfl := Option.some.inj hk; show g ≠ L.po; omega
  · exact hsame k ((h.aw.1.lt k hk).2) (fun e => h.ne k e hk) (by have := h.bw k hk; omega)
  · have e1 := (h.el.kept (w' := w2.setCell ⟨L.po, 0, none⟩ v') (by simpa using hsz) fun k k1 k2 k3 => hsame k (by have := h.hs; omega) (fun e => k3 (.inl e)) (by omega)).excl (O' := fun g => v'.ownBlock = some g ∨ vw.ownBlock = some g) fun k hk => ?_
    · refine e1.push (a := p) (b := wr.heap.size) ⟨hx.same fun k hk => ?_, fun k hk => (hx.lt k hk).2⟩ (by omega) hp (by simpa using hsz) (by simpa using Nat.le_trans h.hs hsz) fun k hk => ?_
      · have := hx.lt k hk
        exact hsame k this.2 (fun e => by have := hvo k e; omega) (by omega)
      · rcases hk with hk | hk
        · rw [g2] at hk
          obtain rfl := Option.some.inj hk
          rcases g3 with g3 | g3
          · exact .inl (hvo g g3)
          · exact .inr g3
        · exact .inl (hvw k hk)
    · rcases hk with hk | hk
      · rw [g2] at hk
        obtain rfl := Option.some.inj hk
        rcases g3 with g3 | g3
        · exact .inl (.inl g3)
        · exact .inr (.inl (by have := h.hs; omega))
      · exact .inl (.inr hk)
  · intro k hk; rw [g2] at hk; obtain rfl := Option.some.inj hk; exact hgb
  · intro k hk e
    rw [g2] at hk
    obtain rfl := Option.some.inj hk
    rcases g3 with g3 | g3
    · exact h.ne g g3 e
    · have := (h.aw.1.lt g e).2; omega
  · intro k k1 k2 k3 k4 k5
    exact hsame k (by omega) (fun e => by have := h.bo k e; omega) k2
/-- The list alone. -/
theorem TS.nrel (h : TS E ES w0 L wr vo vw ho ss hd os) : NRel (kdF E) ES w0 L.lo L.lo2 wr ho vo os := ⟨ss, h.ao, h.el.els fun g hg => .inl hg, h.hs⟩
end
def RetN {α : Type} (K : Kd α) (E : El Sl) (w : World) (xs : List α) (e : Ending) (w' : World) : Prop := ∃ v hi, e = .returned v ∧ NRel K E w w.heap.size w.heap.size w' hi v xs
end Go.Proofs.Ytehnbalbpfmijaa

namespace Go.Proofs.Ytehnbalbpfmijaa
open Go.RowKit

section
variable {α : Type} {E : El α} {P : Program}
theorem flat_back (h : ∀ x, (E.f x).length = E.s) (hs : 0 < E.s) (xs : List α) (k : Nat) (u : Value) (hu : (xs.flatMap E.f)[k]? = some u) : ∃ x, xs[k / E.s]? = some x ∧ (E.f x)[k % E.s]? = some u := by
  have hk : k < xs.length * E.s := by rw [← flat_length h]; exact (List.getElem?_eq_some_iff.1 hu).1
  have h1 : k / E.s < xs.length := (Nat.div_lt_iff_lt_mul hs).2 hk
  refine ⟨xs[k / E.s], List.getElem?_eq_getElem h1, ?_⟩
  have h2 := flat_get h xs (k / E.s) (k % E.s) _ (List.getElem?_eq_getElem h1) (Nat.mod_lt _ hs)
  rw [Nat.mul_comm, Nat.div_add_mod] at h2
  rw [← h2]; exact hu
theorem run_append_srcF (hE : E.Ok P) (w : World) (lo : Nat) (ty : TypeId) {v u : Value} {xs ys : List α} {B : Nat} (hown : OwnF E w lo v xs) (hu : RdF E w B u ys) (hl : xs.length + ys.length ≤ 1073741824) (hbase : lo ≤ w.heap.size) :
    ∃ v' w', (Builtin.append_ #[E.t, E.t] ty #[v, u]).run P w = .ok v' w' ∧ OwnF E w' lo v' (xs ++ ys) ∧ w.grownBy w' v.ownBlock ∧ (v'.ownBlock = v.ownBlock ∨ v'.ownBlock = some w.heap.size) := by
  obtain ⟨i, hi, hzz⟩ := Option.map_eq_some_iff.1 hE.info
  simp only [Prod.mk.injEq] at hzz
  obtain ⟨hz, hsz, hby⟩ := hzz
  obtain ⟨A, c, rfl, _, _, hr⟩ := hu
  have hgo : ∀ ad, (∀ j u, (ys.flatMap E.f)[j]? = some u → w.cell? (ad.add j) = some u) → ∃ v' w', (Builtin.append_ #[E.t, E.t] ty #[v, .slice (some ad) ys.length c]).run P w = .ok v' w' ∧ OwnF E w' lo v' (xs ++ ys) ∧ w.grownBy w' v.ownBlock ∧ (v'.ownBlock = v.ownBlock ∨ v'.ownBlock = some w.heap.size) := fun ad hcells => by
    have h5 := hE.few
    have h6 : (xs.length + ys.length) * E.b ≤ 1073741824 * 1024 := Nat.mul_le_mul hl h5
    obtain ⟨v', w', hrun, h2, h3, _, h5⟩ := run_append_own_at (P := P) w lo E.t ty E.e i E.z E.s E.b hE.und hi hz hsz hby hE.zs hE.pos v xs.length (xs.flatMap E.f) hown ad ys.length c (ys.flatMap E.f) (flat_length hE.len ys) hcells (fun u hu => by
      obtain ⟨y, _, hy⟩ := List.mem_flatMap.1 hu
      exact hE.one y u hy) (by unfold maxLen; omega) (by omega) hbase
    refine ⟨v', w', hrun, ?_, h3, h5⟩
    unfold OwnF; rw [List.length_append, List.flatMap_append]; exact h2
  cases ys with
  | nil =>
    cases A with
    | none => exact ⟨v, w, run_append_nilsrc w lo E.t ty E.e i E.s hE.und hi v xs.length _ hown c, by simpa using hown, World.grownBy.refl w _, .inl rfl⟩
    | some ad => exact hgo ad (fun j u hu => by simp at hu)
  | cons y ys =>
    obtain ⟨ad, rfl, _, _⟩ := hr 0 y rfl
    refine hgo ad fun j u hu => ?_
    obtain ⟨x, h1, h2⟩ := flat_back hE.len hE.pos (y :: ys) j u hu
    obtain ⟨ad', e, _, h3⟩ := hr _ x h1
    obtain rfl := Option.some.inj e
    have := h3 _ u h2
    rwa [Nat.mul_comm, Nat.div_add_mod] at this
def GrewS (wr w' : World) (v v' : Value) : Prop := wr.grownBy w' v.ownBlock ∧ (v'.ownBlock = v.ownBlock ∨ v'.ownBlock = some wr.heap.size)
theorem acc_src {w wr w' : World} {lo : Nat} {v v' : Value} {xs zs : List α} (H : Acc E w lo wr v xs) (h2 : OwnF E w' lo v' zs) (h3 : wr.grownBy w' v.ownBlock) : Acc E w lo w' v' zs := by
  obtain ⟨h1, h4, h5, h6⟩ := H
  exact ⟨h2, h4.grown h3 h4.size fun k hk => by have := (h1.lt k hk).1; omega, h5, by have := h3.size; omega⟩
theorem wpList_pushSrcF (hE : E.Ok P) {ops : Array Oper} {rest : List Oper} {o : Oper} {a : Act} {Q : Exit → Act → World → Prop} (hgd : o.guard = none) (s x : Operand)
    (ho : o.op = .call { callee := .builtin .append, args := #[s, x], argTypes := #[E.t, E.t] }) {w wr : World} {lo : Nat} {v : Value} {xs : List α} (H : Acc E w lo wr v xs) (hs : a.eval s = v)
    (ys : List α) (B : Nat) (u : Value) (hr : RdF E wr B u ys) (hx : a.eval x = u) (hl : xs.length + ys.length ≤ 1073741824)
    (h : ∀ v' w', Hid (Acc E w lo w' v' (xs ++ ys)) → Hid (GrewS wr w' v v') → wpList P ops Q rest (a.put o.dst v') w') :
    wpList P ops Q (o :: rest) a wr := by
  refine wpList_plain hgd fun K hK => ?_
  obtain ⟨v', w', hrun, h2, h3, h4⟩ := run_append_srcF hE wr lo o.type H.1 hr hl H.2.2.2
  unfold Oper.wp execOp
  simp only [ho, resolve, invoke, builtin, Sem.run_bind, Sem.run_pure, Result.andThen_ok, List.map_toArray, List.map_cons, List.map_nil, hs, hx, hrun]
  exact hK _ _ (h v' w' (acc_src H h2 h3) ⟨h3, h4⟩)
theorem step_pushSrcF (hE : E.Ok P) {ops : Array Oper} {o : Oper} {a : Act} {K : Act → World → Prop} {Q : Exit → Act → World → Prop} {X : Prop} (hgd : o.guard = none) (s x : Operand)
    (ho : o.op = .call { callee := .builtin .append, args := #[s, x], argTypes := #[E.t, E.t] }) {w wr : World} {lo : Nat} {v : Value} {xs : List α} (H : Acc E w lo wr v xs) (hs : a.eval s = v)
    (ys : List α) (B : Nat) (u : Value) (hr : RdF E wr B u ys) (hx : a.eval x = u) (hl : xs.length + ys.length ≤ 1073741824)
    (h : ∀ v' w', Hid (Acc E w lo w' v' (xs ++ ys)) → Hid (GrewS wr w' v v') → K (a.put o.dst v') w') :
    if Region.wanted o (yielded ops a.tmps) = true then Oper.wp P o a wr K Q else X := by
  have hw : Region.wanted o (yielded ops a.tmps) = true := by unfold Region.wanted; rw [hgd]
  rw [if_pos hw]
  obtain ⟨v', w', hrun, h2, h3, h4⟩ := run_append_srcF hE wr lo o.type H.1 hr hl H.2.2.2
  unfold Oper.wp execOp
  simp only [ho, resolve, invoke, builtin, Sem.run_bind, Sem.run_pure, Result.andThen_ok, List.map_toArray, List.map_cons, List.map_nil, hs, hx, hrun]
  exact h v' w' (acc_src H h2 h3) ⟨h3, h4⟩
end
end Go.Proofs.Ytehnbalbpfmijaa

namespace Go.Proofs.Ytehnbalbpfmijaa
open Go.RowKit
set_option linter.unusedVariables false

def addR (cs row : List Int) : Nat → List Int
  | 0 => []
  | k + 1 => addR cs row k ++ [el cs k + el row k]
def okTo (cs row : List Int) : Nat → Bool
  | 0 => true
  | k + 1 => okTo cs row k && inB (el cs k + el row k) 0 1
def oneTo (cs : List Int) : Nat → Bool
  | 0 => true
  | k + 1 => oneTo cs k && (el cs k == 1)
def sTo (n : Nat) (rows : List (List Int)) (rec : List (List Int) → List Int → List (List (List Int))) (hd : List (List Int)) (cs : List Int) : Nat → List (List (List Int))
  | 0 => []
  | i + 1 => if okTo cs (rw' rows i) n then sTo n rows rec hd cs i ++ rec (hd ++ [rw' rows i]) (addR cs (rw' rows i) n) else sTo n rows rec hd cs i
def altS (n : Nat) (rows : List (List Int)) : Nat → List (List Int) → List Int → List (List (List Int))
  | 0, hd, cs => if oneTo cs n then [hd] else []
  | d + 1, hd, cs => sTo n rows (fun h c => altS n rows d h c) hd cs rows.length
theorem addR_len (cs row : List Int) : ∀ k, (addR cs row k).length = k
  | 0 => rfl
  | k + 1 => by rw [addR, List.length_append, addR_len cs row k]; rfl
theorem addR_el (cs row : List Int) : ∀ n j, j < n → el (addR cs row n) j = el cs j + el row j
  | 0, j, h => by omega
  | n + 1, j, h => by
    rw [addR]
    by_cases e : j < n
    · have := addR_el cs row n j e
      unfold el at this ⊢
      rw [List.getD_eq_getElem?_getD, List.getElem?_append_left (by rw [addR_len]; exact e), ← List.getD_eq_getElem?_getD]
      exact this
    · obtain rfl : j = n := by omega
      unfold el
      rw [List.getD_eq_getElem?_getD, List.getElem?_append_right (by rw [addR_len]; exact Nat.le_refl _), addR_len]
      simp
def InB01 (cs : List Int) (n : Nat) : Prop := ∀ j, j < n → 0 ≤ el cs j ∧ el cs j ≤ 1
theorem okTo_iff (cs row : List Int) : ∀ n, okTo cs row n = true → ∀ j, j < n → 0 ≤ el cs j + el row j ∧ el cs j + el row j ≤ 1
  | 0, _, j, h => by omega
  | n + 1, hk, j, h => by
    rw [okTo, Bool.and_eq_true] at hk
    by_cases e : j < n
    · exact okTo_iff cs row n hk.1 j e
    · obtain rfl : j = n := by omega
      exact (inB_iff _ _ _).1 hk.2
theorem sTo_len (n : Nat) (rows : List (List Int)) (rec : List (List Int) → List Int → List (List (List Int))) (hd : List (List Int)) (cs : List Int) (b : Nat) (h : ∀ x y, (rec x y).length ≤ b) : ∀ i, (sTo n rows rec hd cs i).length ≤ i * b
  | 0 => by simp [sTo]
  | i + 1 => by
    have ih := sTo_len n rows rec hd cs b h i
    have := h (hd ++ [rw' rows i]) (addR cs (rw' rows i) n)
    rw [sTo, Nat.succ_mul]
    split
    · rw [List.length_append]; omega
    · omega
theorem altS_len (n : Nat) (rows : List (List Int)) (r : Nat) (hr : rows.length ≤ r) : ∀ d hd cs, (altS n rows d hd cs).length ≤ r ^ d
  | 0, hd, cs => by rw [altS]; split <;> simp
  | d + 1, hd, cs => by
    have h1 := sTo_len n rows (fun h c => altS n rows d h c) hd cs (r ^ d) (fun x y => altS_len n rows r hr d x y) rows.length
    have h2 : rows.length * r ^ d ≤ r * r ^ d := Nat.mul_le_mul_right _ hr
    rw [altS, Nat.pow_succ, Nat.mul_comm (r ^ d)]
    exact Nat.le_trans h1 h2

/-! ### Slices of rows -/
abbrev eRA : El Sl := elSl 31 76
theorem RdII.split {w : World} {B : Nat} {v : Value} {zss : List (List Int)} (h : RdII w B v zss) : ∃ ss : List Sl, RdF eRA w B v ss ∧ ss.length = zss.length ∧ ∀ i s, ss[i]? = some s → RdI w B (slV s) (rw' zss i) := by
  obtain ⟨A, c, vs, rfl, h1, h2, h3, h4, h5⟩ := h
  have hex : ∀ u ∈ vs, ∃ s : Sl, u = slV s := fun u hu => by
    obtain ⟨i, hi, rfl⟩ := List.getElem_of_mem hu
    obtain ⟨A', c', e, _⟩ := h5 i _ (List.getElem?_eq_getElem hi)
    exact ⟨(A', _, c'), e⟩
  obtain ⟨ss, hss⟩ : ∃ ss : List Sl, vs = ss.map slV := by
    clear h3 h4 h5
    induction vs with
    | nil => exact ⟨[], rfl⟩
    | cons u vs ih =>
      obtain ⟨s, rfl⟩ := hex u (by simp)
      obtain ⟨ss, rfl⟩ := ih fun u hu => hex u (by simp [hu])
      exact ⟨s :: ss, rfl⟩
  subst hss
  have hl : ss.length = zss.length := by simpa using h3
  refine ⟨ss, ⟨A, c, by rw [hl], by omega, h2, fun j x hx => ?_⟩, hl, fun i s hs => h5 i _ (by rw [List.getElem?_map, hs]; rfl)⟩
  obtain ⟨ad, e, hb, hc⟩ := h4 (by intro e; have : ss = [] := by simpa using e
                                   subst this; simp at hx)
  refine ⟨ad, e, hb, fun i u hu => ?_⟩
  have hi0 : i = 0 := by have := (List.getElem?_eq_some_iff.1 hu).1; simp [elSl] at this; exact this
  subst hi0
  have hu' : u = slV x := by simp [elSl] at hu; exact hu.symm
  subst hu'
  have := hc j (slV x) (by rw [List.getElem?_map, hx]; rfl)
  simpa [elSl] using this
theorem RdII.join {w : World} {B : Nat} {v : Value} {zss : List (List Int)} {ss : List Sl} (h : RdF eRA w B v ss) (hl : ss.length = zss.length) (hr : ∀ i s, ss[i]? = some s → RdI w B (slV s) (rw' zss i)) : RdII w B v zss := by
  obtain ⟨A, c, rfl, h1, h2, h3⟩ := h
  refine ⟨A, c, ss.map slV, by rw [hl], by omega, h2, by simp [hl], fun hn => ?_, fun i u hu => ?_⟩
  · obtain ⟨s0, hs0⟩ : ∃ s0, ss[0]? = some s0 := by
      cases ss with
      | nil => simp at hn
      | cons s t => exact ⟨s, rfl⟩
    obtain ⟨ad, e1, e2, _⟩ := h3 0 s0 hs0
    refine ⟨ad, e1, e2, fun j u hu => ?_⟩
    rw [List.getElem?_map] at hu
    obtain ⟨s, hs, rfl⟩ := Option.map_eq_some_iff.1 hu
    obtain ⟨ad', e1', _, hc⟩ := h3 j s hs
    rw [e1] at e1'
    obtain rfl := Option.some.inj e1'
    have := hc 0 _ rfl
    simpa [elSl] using this
  · rw [List.getElem?_map] at hu
    obtain ⟨s, hs, rfl⟩ := Option.map_eq_some_iff.1 hu
    exact hr i s hs
/-- One row more. -/
theorem RdII.snoc {w : World} {B : Nat} {v : Value} {zss : List (List Int)} {ss : List Sl} {s : Sl} {zs : List Int} (h : RdF eRA w B v (ss ++ [s])) (hl : ss.length = zss.length) (hr : ∀ i s, ss[i]? = some s → RdI w B (slV s) (rw' zss i)) (hs : RdI w B (slV s) zs) : RdII w B v (zss ++ [zs]) := by
  refine RdII.join h (by simp [hl]) fun i t ht => ?_
  by_cases e : i < ss.length
  · rw [List.getElem?_append_left e] at ht
    have h1 := hr i t ht
    rwa [show rw' (zss ++ [zs]) i = rw' zss i by unfold rw'; rw [List.getD_eq_getElem?_getD, List.getD_eq_getElem?_getD, List.getElem?_append_left (by omega)]]
  · have hlt := (List.getElem?_eq_some_iff.1 ht).1
    simp only [List.length_append, List.length_singleton] at hlt
    obtain rfl : i = ss.length := by omega
    rw [List.getElem?_append_right (Nat.le_refl _)] at ht
    simp at ht
    subst ht
    rwa [show rw' (zss ++ [zs]) ss.length = zs by unfold rw'; rw [List.getD_eq_getElem?_getD, hl, List.getElem?_append_right (Nat.le_refl _)]; simp]
end Go.Proofs.Ytehnbalbpfmijaa

namespace Go.Proofs.Ytehnbalbpfmijaa
open Go.RowKit

theorem RowRel.ofSrc {w wr w1 : World} {hi : Nat} {v u : Value} {zss : List (List Int)} {zs : List Int} (h : MRel w wr hi v zss) (H : Acc elInt w hi w1 u ([] ++ zs)) (hg : (wr.alloc (.cells #[] 3)).grownBy w1 (some wr.heap.size)) : RowRel w w1 hi v zss u zs := by
  obtain ⟨a1, a2, a3, a4⟩ := h.below ((Below.refl _ _).alloc (Nat.le_refl _) (.cells #[] 3))
  obtain ⟨b1, b2, b3, b4⟩ := H
  exact ⟨⟨a1.grown hg fun k hk => by obtain rfl := Option.some.inj hk; exact h.2.2.1, b2, b4, a4⟩, ownF_int.1 b1⟩
theorem flat_int (zs : List Int) : zs.flatMap elInt.f = zs.map (Value.int .i64) := by
  induction zs with
  | nil => rfl
  | cons z zs ih => rw [List.flatMap_cons, ih]; rfl
end Go.Proofs.Ytehnbalbpfmijaa

namespace Go.Proofs.Ytehnbalbpfmijaa
open Go.RowKit
set_option linter.unusedVariables false

theorem oneTo_no {cs : List Int} {k : Nat} (h : ¬ el cs k = 1) : ∀ n, k < n → oneTo cs n = false
  | 0, hk => by omega
  | n + 1, hk => by
    rw [oneTo]
    by_cases e : k < n
    · rw [oneTo_no h n e]; rfl
    · obtain rfl : k = n := by omega
      rw [show (el cs k == 1) = false by rw [beq_eq_false_iff_ne]; exact h, Bool.and_false]
/-- One call of l25List. -/
def SAlt (n : Nat) (rows : List (List Int)) (d : Nat) : Prop := ∀ (w : World) (B : Nat) (v1 v2 v3 : Value) (hd : List (List Int)) (cs : List Int), RdII w B v1 rows → RdII w B v2 hd → RdI w B v3 cs → B ≤ w.heap.size → hd.length + d = n → (∀ i, i < hd.length → (rw' hd i).length = n) → cs.length = n → InB01 cs n →
  Calls Try.prog 122 #[.int .i64 n, v1, v2, v3] w (RetN kdM eMA w (altS n rows d hd cs))

set_option maxRecDepth 100000 in
set_option maxHeartbeats 4000000 in
theorem salt_end (n : Nat) (hn : 1 ≤ n ∧ n ≤ 4) (rows : List (List Int)) : SAlt n rows 0 := by
  intro w B v1 v2 v3 hd cs h1 h2 h3 hB hl hrl hcl hc01
  obtain ⟨A2, c2, rfl, g1, g2, HAT⟩ := h2.open_
  obtain ⟨A3, c3, rfl, g3, g4, G3⟩ := id h3
  unfold maxLen at g2 g4
  have HRD2 := Lib.hid h2
  have HAT := Lib.hid HAT
  have HC3 := Lib.hid G3
  have HRL := Lib.hid hrl
  have hl : hd.length = n := by omega
  rw [hl] at g1
  rw [hcl] at g3
  rw [hl, hcl]
  have HL := Lib.hid hl
  have HCL := Lib.hid hcl
  obtain ⟨hn1, hn4⟩ := hn
  have HAA : Hid (Acc eMA w w.heap.size (w.alloc (.cells #[] 76)) (.slice (some ⟨w.heap.size, 0, none⟩) 0 0) []) := Acc.start w
  have HN0 : Hid (w.heap.size < (w.alloc (.cells #[] 76)).heap.size) := by simp [Hid]
  have HONE : Hid (∀ k, oneTo cs (k + 1) = (oneTo cs k && (el cs k == 1))) := fun k => rfl
  have HONO : Hid (∀ k, k < n → ¬ el cs k = 1 → oneTo cs n = false) := fun k hk h => oneTo_no h n hk
  have HAL : Hid (altS n rows 0 hd cs = if oneTo cs n then [hd] else []) := rfl
  obtain ⟨res, HRES⟩ : ∃ res, Hid (altS n rows 0 hd cs = res) := ⟨_, rfl⟩
  rw [HRES.out] at HAL ⊢
  have HO0 : Hid (oneTo cs 0 = true) := rfl
  obtain ⟨on, HON⟩ : ∃ f, Hid (oneTo cs = f) := ⟨oneTo cs, rfl⟩
  rw [HON.out] at HONE HONO HAL HO0
  clear HRES HON h1 h2 h3 hrl hl hcl hc01 G3
  go_enter Try.func122, Try.ntmps122
  go_wp2_with fail
  obtain ⟨W1, HW1⟩ : ∃ W1, Hid (w.alloc (.cells #[] 76) = W1) := ⟨_, rfl⟩
  rw [HW1.out] at HAA HN0 ⊢
  go_loopw [10] (fun i wr => ∃ k : Nat, k ≤ n ∧ i = .int .i64 (k : Int) ∧ Hid (wr = W1) ∧ Hid (on k = true)) (fun i _ => n - (intOf i).toNat)
  case atStart => exact ⟨0, Nat.zero_le _, rfl, rfl, HO0⟩
  case round =>
    obtain ⟨k, hk, rfl, HWR, HOK⟩ := hrel
    obtain rfl : W1 = wr := HWR.out.symm
    clear HWR
    by_cases hlt : k < n
    · have ht : decide ((k : Int) < (n : Int)) = true := by simp only [decide_eq_true_eq]; omega
      obtain ⟨ad, rfl, hbl, hc⟩ := Rd.int HC3.out (k := k) (by rw [HCL.out]; exact hlt)
      rw [← el_get _ _ (by rw [HCL.out]; exact hlt)] at hc
      have hc' := (HAA.out.2.1.cell (p := ad.add k) (by rw [addBlock]; omega)).trans hc
      have hk0 : (0 : Int) ≤ (k : Int) := by omega
      have hk1 : (k : Int) < (n : Int) := by omega
      have HOS := Lib.hid (HONE.out k)
      have HNO := Lib.hid (HONO.out k hlt)
      generalize el cs k = c at *
      clear hc
      by_cases hc1 : c = 1
      · have hne : (c != 1) = false := by simp [hc1]
        have HOK2 : Hid (on (k + 1) = true) := by unfold Hid; rw [HOS.out, HOK.out, hc1]; rfl
        have HC1 := Lib.hid hc1
        clear hc1
        go_wp2_with fail
        go_roundw
        case rel => exact ⟨k + 1, by omega, by go_num, True.intro, HOK2⟩
        case measure => simp [intOf]; omega
      · have hne : (c != 1) = true := by simp [hc1]
        have HR0 : Hid (res = []) := by unfold Hid; rw [HAL.out, HNO.out hc1]; rfl
        have HC1 := Lib.hid hc1
        clear hc1
        go_wp2_with fail
        go_ret
        rw [HR0.out]
        exact ⟨_, W1.heap.size, rfl, [], HAA.out, Els.nil _ _ _ _, Nat.le_refl _⟩
    · obtain rfl : k = n := by omega
      have ht : decide ((k : Int) < (k : Int)) = false := by simp
      have HR0 : Hid (res = [hd]) := by unfold Hid; rw [HAL.out, HOK.out]; rfl
      have HMS := Lib.hid (MRel.start W1)
      clear HAL HONE HONO HOK HO0 HC3
      go_wp2_with fail
      go_loopw [11, 12] (fun o s wr2 => ∃ (i hi : Nat) (u : Value) (zss : List (List Int)), i ≤ k ∧ s = .int .i64 i ∧ o = u ∧ Hid (MRel W1 wr2 hi u zss) ∧ Hid (zss = hd.take i) ∧ zss.length ≤ i) (fun _ s _ => k - (intOf s).toNat)
      case atStart => exact ⟨0, _, _, [], Nat.zero_le _, rfl, rfl, HMS, (by simp [Hid]), Nat.le_refl _⟩
      case round =>
        obtain ⟨i, hi, u, zss, hik, rfl, rfl, HM, HZ, hzl⟩ := hrel
        by_cases hlt : i < k
        · have ht : decide ((i : Int) < (k : Int)) = true := by simp only [decide_eq_true_eq]; omega
          obtain ⟨ad, x, rfl, hbl, hc, hrx⟩ := HAT.out i (by rw [HL.out]; exact hlt)
          have hbw : Below w.heap.size w wr := HAA.out.2.1.trans (HM.out.2.1.mono HAA.out.2.1.size)
          have hc' := (hbw.cell (p := ad.add i) (by rw [addBlock]; omega)).trans hc
          have HRX := Lib.hid (hrx.below (hbw.mono hB))
          have hxl := HRL.out i (by rw [HL.out]; exact hlt)
          have HZ2 : Hid (hd.take (i + 1) = zss ++ [rw' hd i]) := by unfold Hid; rw [HZ.out]; exact take_row hd i (by rw [HL.out]; exact hlt)
          have HBW := Lib.hid hbw
          obtain ⟨A5, c5, hx, q1, q2, q3⟩ := hrx
          subst hx
          generalize rw' hd i = zs at *
          have HACC : Hid (Acc elInt W1 hi (wr.alloc (.cells #[] 3)) (.slice (some ⟨wr.heap.size, 0, none⟩) 0 0) []) := Acc.startAt HM.out.2.1 HM.out.2.2.2 HM.out.2.2.1
          have hcut : Rd (wr.alloc (.cells #[] 3)) B A5 (zs.map (Value.int .i64)) := q3.below ((HBW.out.alloc HBW.out.size _).mono hB)
          have HQ := Lib.hid hcut
          have HFL := Lib.hid (flat_int zs)
          have hi0 : (0 : Int) ≤ (i : Int) := by omega
          have hi1 : (i : Int) < (k : Int) := by omega
          have HXL := Lib.hid hxl
          have hc2 := (((Below.refl wr.heap.size wr).alloc (Nat.le_refl _) (.cells #[] 3)).cell (p := ad.add i) (by rw [addBlock]; have := HBW.out.size; omega)).trans hc'
          rw [hxl] at hc2 hc'
          clear hc hcut q3 hbw hxl q1 HRX
          go_wp2_with (first
            | (at_builtin; refine wpList_pushSrc okInt rfl rfl _ _ rfl HACC.out rfl zs B A5 k c5 (by rw [HFL.out]; exact HQ.out) rfl HXL.out.symm (by simp; have := HXL.out; omega) ?_; intro u1 w1 HA1 HG1; have HRR := Lib.hid (RowRel.ofSrc HM.out HA1.out HG1.out.1); clear HA1 HG1; obtain ⟨A4, c4, rfl, _, _, _⟩ := HRR.out.2.rd)
            | (at_builtin; refine wpList_pushRow rfl _ _ rfl HRR.out rfl _ rfl (by simp) (by omega) ?_; intro u2 w2 HM2 HB2))
          go_roundw
          case rel => exact ⟨i + 1, _, _, _, by omega, by go_num, rfl, HM2, (by unfold Hid; rw [HZ2.out]), by simp; omega⟩
          case measure => simp [intOf]; omega
        · have HZ2 : Hid (zss = hd) := by unfold Hid; rw [HZ.out, List.take_of_length_le (by rw [HL.out]; omega)]
          rw [HZ2.out] at HM
          obtain ⟨Au, cu, rfl, r1, r2, _⟩ := HM.out.1.rd.open_
          have HMN := Lib.hid HM.out
          rw [HL.out] at HMN r1 ⊢
          have ht : decide ((i : Int) < (k : Int)) = false := by simp only [decide_eq_false_iff_not]; omega
          unfold maxLen at r2
          have HAO := Lib.hid (HAA.out.below HMN.out.2.1)
          have HLT : Hid (w.heap.size < W1.heap.size ∧ W1.heap.size ≤ hi ∧ hi ≤ wr.heap.size) := ⟨HN0.out, HMN.out.2.2.2, HMN.out.2.2.1⟩
          clear HM HZ HZ2
          go_wp2_with (at_builtin; refine wpList_push okRowsA rfl _ _ rfl HAO.out rfl (Au, k, cu) _ rfl _ rfl rfl (by simp) ?_; intro v9 w9 HA9 HG9)
          go_ret
          rw [HR0.out]
          exact ⟨v9, w9.heap.size, rfl, NRel.push (K := kdM) (s := (Au, k, cu)) (wr := wr) (a := W1.heap.size) (b := hi) (Els.nil _ _ w.heap.size _) (by have := HLT.out; omega) HMN.out.1 (by have := HLT.out; omega) (by have := HLT.out; omega) HLT.out.2.2 (fun g hg => .inl (by simp only [Value.ownBlock, Option.some.injEq] at hg; have := HLT.out; omega)) HA9 HG9⟩
end Go.Proofs.Ytehnbalbpfmijaa

namespace Go.Proofs.Ytehnbalbpfmijaa
open Go.RowKit

end Go.Proofs.Ytehnbalbpfmijaa

namespace Go.Proofs.Ytehnbalbpfmijaa
open Go.RowKit

/-- The row and the height behind k steps. -/
def prow (c : Int) (st : List Int) : Nat → List Int × Int
  | 0 => ([], c)
  | k + 1 => if el st k == 0 then ((prow c st k).1, wrap64 ((prow c st k).2 - 1)) else ((prow c st k).1 ++ [(prow c st k).2], (prow c st k).2)
def prB (b c : Int) (st : List Int) : Bool := rowB b c (prow c st st.length).1 && (pathL c (prow c st st.length).1 == st)
theorem prow_step0 (c : Int) (st : List Int) (k : Nat) (h : (el st k == 0) = true) : prow c st (k + 1) = ((prow c st k).1, wrap64 ((prow c st k).2 - 1)) := by
  rw [prow, if_pos h]
theorem prow_step1 (c : Int) (st : List Int) (k : Nat) (h : (el st k == 0) = false) : prow c st (k + 1) = ((prow c st k).1 ++ [(prow c st k).2], (prow c st k).2) := by
  rw [prow, if_neg (by rw [h]; decide)]
theorem prow_mono (c : Int) (st : List Int) (k : Nat) : ∀ n, k ≤ n → (prow c st k).1.length ≤ (prow c st n).1.length := by
  intro n
  induction n with
  | zero => intro h; obtain rfl : k = 0 := by omega
            exact Nat.le_refl _
  | succ n ih =>
    intro h
    by_cases e : k = n + 1
    · subst e; exact Nat.le_refl _
    · have := ih (by omega)
      cases hz : el st n == 0
      · rw [prow_step1 c st n hz]; simp; omega
      · rw [prow_step0 c st n hz]; exact this
theorem prB_long (b c : Int) (st : List Int) (k : Nat) (hk : k ≤ st.length) (h : 3 < (prow c st k).1.length) : prB b c st = false := by
  cases hb : prB b c st with
  | false => rfl
  | true =>
    simp only [prB, Bool.and_eq_true] at hb
    obtain ⟨_, hbb, _, hl⟩ := (rowB_iff _ _ _).1 hb.1
    have := prow_mono c st k st.length hk
    omega
theorem outTo_bits (c : Int) (zs : List Int) : ∀ k, ∀ x ∈ outTo c zs k, x = 0 ∨ x = 1
  | 0, x, h => by simp [outTo] at h
  | k + 1, x, h => by
    rw [outTo, List.mem_append, List.mem_append] at h
    rcases h with (h | h) | h
    · exact outTo_bits c zs k x h
    · exact .inl (List.eq_of_mem_replicate h)
    · exact .inr (by simpa using h)
theorem pathL_bits (c : Int) (zs : List Int) : ∀ x ∈ pathL c zs, x = 0 ∨ x = 1 := by
  intro x h
  rw [pathL, List.mem_append] at h
  rcases h with h | h
  · exact outTo_bits c zs _ x h
  · exact .inl (List.eq_of_mem_replicate h)
theorem outTo_len (b c : Int) (zs : List Int) (h : rowB b c zs = true) : ∀ k, k ≤ zs.length → ((outTo c zs k).length : Int) + hgt c zs k = c + k
  | 0, _ => by simp [outTo, hgt]
  | k + 1, hk => by
    have ih := outTo_len b c zs h k (by omega)
    obtain ⟨e1, e2⟩ := el_bd b c zs h k (by omega)
    rw [outTo, hgt_succ, List.length_append, List.length_append, List.length_replicate, List.length_singleton]
    omega
theorem pathL_len (b c : Int) (zs : List Int) (h : rowB b c zs = true) : ((pathL c zs).length : Int) = c + b := by
  have h1 := outTo_len b c zs h zs.length (Nat.le_refl _)
  obtain ⟨h2, h3⟩ := hgt_bd b c zs h zs.length (Nat.le_refl _)
  obtain ⟨_, hb, hc, hl⟩ := (rowB_iff _ _ _).1 h
  rw [pathL, List.length_append, List.length_replicate]
  omega
theorem prB_facts (b c : Int) (st : List Int) (h : prB b c st = true) : st.length ≤ 6 ∧ ∀ k, k < st.length → el st k = 0 ∨ el st k = 1 := by
  simp only [prB, Bool.and_eq_true, beq_iff_eq] at h
  obtain ⟨h1, h2⟩ := h
  have hl := pathL_len b c _ h1
  obtain ⟨_, hb, hc, _⟩ := (rowB_iff _ _ _).1 h1
  rw [h2] at hl
  refine ⟨by omega, fun k hk => ?_⟩
  have := pathL_bits c (prow c st st.length).1 (el st k) (by rw [h2, el_get st k hk]; exact List.getElem_mem hk)
  exact this
theorem prB_bad (b c : Int) (st : List Int) (k : Nat) (hk : k < st.length) (h0 : (el st k == 0) = false) (h1 : (el st k == 1) = false) : prB b c st = false := by
  cases hb : prB b c st with
  | false => rfl
  | true =>
    rcases (prB_facts b c st hb).2 k hk with e | e
    · rw [e] at h0; simp at h0
    · rw [e] at h1; simp at h1
theorem prB_big (b c : Int) (st : List Int) (h : 6 < st.length) : prB b c st = false := by
  cases hb : prB b c st with
  | false => rfl
  | true => have := (prB_facts b c st hb).1; omega

/-- A row and a bool come back; without the bool the row is empty. -/
def RetOwnB (w : World) (zs : List Int) (ok : Bool) (e : Ending) (w' : World) : Prop :=
  ∃ v, e = .returned (.tuple #[v, .bool ok]) ∧ OwnI w' w.heap.size v (if ok then zs else []) ∧ Below w.heap.size w w'
theorem retOwnB_no {w w' : World} {zs : List Int} {v : Value} {ok : Bool} (hok : ok = false) (h : OwnI w' w.heap.size v []) (hb : Below w.heap.size w w') : RetOwnB w zs ok (.returned (.tuple #[v, .bool false])) w' := by
  subst hok; exact ⟨v, rfl, h, hb⟩
theorem retOwnB_yes {w w' : World} {zs : List Int} {v : Value} {ok : Bool} (hok : ok = true) (h : OwnI w' w.heap.size v zs) (hb : Below w.heap.size w w') : RetOwnB w zs ok (.returned (.tuple #[v, .bool true])) w' := by
  subst hok; exact ⟨v, rfl, h, hb⟩

end Go.Proofs.Ytehnbalbpfmijaa

namespace Go.Proofs.Ytehnbalbpfmijaa
open Go.RowKit

theorem pathZ_nil (b c : Int) : pathZ b c [] = [] := by
  rw [pathZ]
  cases h : rowB b c [] with
  | false => rfl
  | true => obtain ⟨_, hb, _, hl⟩ := (rowB_iff _ _ _).1 h
            simp at hl; omega
theorem emptyOwn (w : World) (lo : Nat) (h : lo ≤ w.heap.size) : OwnI (w.alloc (.cells #[] 3)) lo (.slice (some ⟨w.heap.size, 0, none⟩) 0 0) [] := by
  simpa [OwnI] using World.ownsRow_lit (base := lo) (e := 3) (size := 1) w #[] 0 h (by simp [maxLen]) (by simp)

/-- What follows the loop, whatever the row. -/
theorem pathZ_len (b c : Int) (zo : List Int) : (rowB b c zo = false ∧ pathZ b c zo = []) ∨ (rowB b c zo = true ∧ pathZ b c zo = pathL c zo ∧ 0 < (pathZ b c zo).length) := by
  cases h : rowB b c zo
  · exact .inl ⟨rfl, by rw [pathZ, h]; rfl⟩
  · have h1 : pathZ b c zo = pathL c zo := by rw [pathZ, h]; rfl
    have h2 := pathL_len b c zo h
    obtain ⟨_, hb, hc, _⟩ := (rowB_iff _ _ _).1 h
    exact .inr ⟨rfl, h1, by rw [h1]; omega⟩

end Go.Proofs.Ytehnbalbpfmijaa

namespace Go.Proofs.Ytehnbalbpfmijaa
open Go.RowKit

theorem RowAt.below {w w' : World} {B : Nat} {A : Option Addr} {zss : List (List Int)} (h : RowAt w B A zss) (hb : Below B w w') : RowAt w' B A zss := fun i hi => by
  obtain ⟨ad, u, ha, hbl, hc, hr⟩ := h i hi
  exact ⟨ad, u, ha, hbl, (hb.cell (p := ad.add i) (by rw [addBlock]; omega)).trans hc, hr.below hb⟩

set_option maxHeartbeats 4000000 in
theorem IsAlternating_any (v : Value) (zss : List (List Int)) (B : Nat) (w : World) (h : RdII w B v zss) (hB : B ≤ w.heap.size) :
    Calls Try.prog 125 #[v] w fun e w' => e = .returned (.bool (altB zss)) ∧ Below w.heap.size w w' := by
  obtain ⟨i0, hi0, hz0, hz1, hz2⟩ := info_parts infoInt
  have HD := Lib.hid h
  obtain ⟨A, c, rfl, h1, h2, h3⟩ := h.open_
  unfold maxLen at h2
  clear h
  have H3 := Lib.hid h3; clear h3
  rw [← altI_eq]
  cases hsq : sqB zss
  · have HF : Hid (altI' zss = false) := by unfold Hid; rw [altI', hsq]; rfl
    go_enter Try.func125, Try.ntmps125
    go_wp2_with fail
    refine (isSquare_any _ zss _ _ HD.out).mono ?_
    rintro e w' ⟨rfl, rfl⟩
    rw [hsq]
    go_wp2_with fail
    go_ret
    exact ⟨ret_bool HF.out.symm, Below.refl _ _⟩
  · have hsq' := hsq
    simp only [sqB, Bool.and_eq_true, upFrom_iff, Nat.zero_le, true_implies, decide_eq_true_eq, inB_iff] at hsq'
    obtain ⟨hl, hn1, hn2⟩ := hsq'
    have HL := Lib.hid (fun i hi => (hl i hi).1 : ∀ i, i < zss.length → (rw' zss i).length = zss.length)
    have hn5 : zss.length ≤ 5 := by omega
    clear hl
    generalize hr : altI' zss = r
    have HR : Hid (upFrom (fun k => byT (rw' zss k) && byT (colOf zss k zss.length)) 0 zss.length = r) := by unfold Hid; rw [← hr, altI', hsq, Bool.true_and]
    clear hr
    go_enter Try.func125, Try.ntmps125
    go_wp2_with fail
    refine (isSquare_any _ zss _ _ HD.out).mono ?_
    rintro e w' ⟨rfl, rfl⟩
    rw [hsq]
    clear hsq
    go_wp2_with fail
    go_loopw [12] (fun s wr => ∃ k : Nat, k ≤ zss.length ∧ s = .int .i64 k ∧ Hid (upFrom (fun k => byT (rw' zss k) && byT (colOf zss k zss.length)) k zss.length = r) ∧ Below w.heap.size w wr) (fun s _ => zss.length - (intOf s).toNat)
    case atStart => exact ⟨0, Nat.zero_le _, rfl, HR, Below.refl _ _⟩
    case round =>
      obtain ⟨k, hk, rfl, HE, hb⟩ := hrel
      by_cases hlt : k < zss.length
      · have hs := upFrom_step (fun k => byT (rw' zss k) && byT (colOf zss k zss.length)) k zss.length hlt
        have hk0 : (0 : Int) ≤ (k : Int) := by omega
        have hk1 : (k : Int) < (zss.length : Int) := by omega
        have hti : decide ((k : Int) < (zss.length : Int)) = true := by simp only [decide_eq_true_eq]; omega
        have HS0 := Lib.hid hs
        clear hs
        have hsz := hb.size
        go_wp2_with fail
        have HG0 : Hid (GrowRel w (wr.alloc (.cells #[] 3)) (.slice (some ⟨wr.heap.size, 0, none⟩) 0 0) []) := ⟨emptyOwn _ _ hsz, hb.alloc hsz _⟩
        go_loopw [4, 18] (fun o s wr => ∃ (i : Nat) (u : Value) (zo : List Int), i ≤ zss.length ∧ s = .int .i64 i ∧ o = u ∧ Hid (GrowRel w wr u zo) ∧ Hid (zo = colOf zss k i) ∧ zo.length ≤ i) (fun _ s _ => zss.length - (intOf s).toNat)
        case atStart => exact ⟨0, _, [], by omega, rfl, rfl, HG0, rfl, Nat.le_refl _⟩
        case round =>
          obtain ⟨i, u, zo, hi, rfl, rfl, HT, HI, hz⟩ := hrel
          by_cases hlti : i < zss.length
          · obtain ⟨ad, ur, rfl, hbl, hc, A', c', rfl, q1, q2, q3⟩ := H3.out i hlti
            unfold maxLen at q2
            have HQ := Lib.hid HT.out.2
            have hcw := (HQ.out.cell (p := ad.add i) (by rw [addBlock]; omega)).trans hc
            have hkr : k < (rw' zss i).length := by rw [HL.out i hlti]; exact hlt
            obtain ⟨ad', rfl, hbl', hck⟩ := q3.el hkr
            have hckw := (HQ.out.cell (p := ad'.add k) (by rw [addBlock]; omega)).trans hck
            have hk2 : (k : Int) < ((rw' zss i).length : Int) := by omega
            have hi0' : (0 : Int) ≤ (i : Int) := by omega
            have hi1' : (i : Int) < (zss.length : Int) := by omega
            clear hc hck q3
            go_wp2_with (at_builtin; refine wpList_append_lies _ rfl (.tmp 22) (.tmp 27) _ rfl w.heap.size 3 i0 _ 1 8 Try.underlying31 hi0 hz0 hz1 hz2 rfl (by omega) _ zo.length _ rfl (World.ownsRow.alloc HT.out.1 _) ⟨wr.heap.size, 0, none⟩ 1 1 [.int .i64 (el (rw' zss i) k)] rfl rfl (World.news_of_block (cs := #[.int .i64 (el (rw' zss i) k)]) (t := 3) (fr := (0, 0)) (heap_alloc_new wr _)) (by simp [Value.oneCell']) (by omega) (by unfold maxLen; omega) (by omega) (by simp; have := HT.out.2.size; omega) (wr.heap.size + 1) (by simp) ?_; intro gi capi wi hown hg hat hlti; have HS := Lib.hid (GrowRel.step HT.out hown hg); clear hown hg hat hlti)
            go_roundw
            case rel => exact ⟨i + 1, _, zo ++ [el (rw' zss i) k], by omega, by go_num, rfl, HS, by (unfold Hid; rw [HI.out, colOf]), by simp; omega⟩
            case measure => simp [intOf]; omega
          · have HC : Hid (zo = colOf zss k zss.length) := by unfold Hid; rw [HI.out, show i = zss.length by omega]
            obtain ⟨ad, ur, rfl, hbl, hc, A', c', rfl, q1, q2, q3⟩ := H3.out k hlt
            have HQ := Lib.hid HT.out.2
            have hcw := (HQ.out.cell (p := ad.add k) (by rw [addBlock]; omega)).trans hc
            have HU := Lib.hid ((show RdI w B (.slice A' (rw' zss k).length c') (rw' zss k) from ⟨_, _, rfl, q1, q2, q3⟩).below (HQ.out.mono hB))
            clear hc q3
            rcases two_ (byT (rw' zss k)) (byT zo) with b1 | ⟨b1, b2⟩ | ⟨b1, b2⟩
            · have HF : Hid (r = false) := by unfold Hid; rw [← HE.out, HS0.out, b1]; rfl
              go_wp2_with fail
              refine (isByTurns_any _ (rw' zss k) _ _ HU.out).mono ?_
              rintro e w' ⟨rfl, rfl⟩
              go_wp2_with fail
              go_ret
              exact ⟨ret_bool HF.out.symm, HQ.out⟩
            · have HF : Hid (r = false) := by unfold Hid; rw [← HE.out, HS0.out, ← HC.out, b1, b2]; rfl
              go_wp2_with fail
              refine (isByTurns_any _ (rw' zss k) _ _ HU.out).mono ?_
              rintro e w' ⟨rfl, rfl⟩
              go_wp2_with fail
              refine (isByTurns_any _ zo _ _ HT.out.1.rd).mono ?_
              rintro e w' ⟨rfl, rfl⟩
              go_wp2_with fail
              go_ret
              exact ⟨ret_bool HF.out.symm, HQ.out⟩
            · have HF : Hid (upFrom (fun k => byT (rw' zss k) && byT (colOf zss k zss.length)) (k + 1) zss.length = r) := by unfold Hid; rw [← HE.out, HS0.out, ← HC.out, b1, b2]; rfl
              go_wp2_with fail
              refine (isByTurns_any _ (rw' zss k) _ _ HU.out).mono ?_
              rintro e w' ⟨rfl, rfl⟩
              go_wp2_with fail
              refine (isByTurns_any _ zo _ _ HT.out.1.rd).mono ?_
              rintro e w' ⟨rfl, rfl⟩
              go_wp2_with fail
              go_roundw
              case rel => exact ⟨k + 1, by omega, by go_num, HF, HQ.out⟩
              case measure => simp [intOf]; omega
      · have HF : Hid (true = r) := by unfold Hid; rw [← HE.out, upFrom_end _ _ _ (by omega)]
        go_wp2_with fail
        go_ret
        exact ⟨ret_bool HF.out, hb⟩

end Go.Proofs.Ytehnbalbpfmijaa
