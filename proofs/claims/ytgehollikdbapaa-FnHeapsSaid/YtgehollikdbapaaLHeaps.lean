/- What the program's ListHeaps owns while it lists: the captured cells, the heap in work, the list. -/
import Derived.Test.YtgehollikdbapaaNestRow
import Derived.Test.YtgehollikdbapaaHeapsZ
import Derived.Test.YtgehollikdbapaaBlk
namespace Go.Proofs.Ytgehollikdbapaa
open Go.RowKit
set_option linter.unusedVariables false

theorem okRow : (elSl 58 24).Ok Try.prog := okSl Try.underlying24 infoRow
theorem infoRows : (Try.prog.info? 24).map (fun i => (i.zero, i.size, i.bytes)) = some (some (.slice none 0 0), 1, 24) := by kernel_rfl
theorem okRows : (elSl 24 27).Ok Try.prog := okSl Try.underlying27 infoRows

/-- Where it lies. -/
structure HLay where
  pa : Nat
  pb : Nat
  pc : Nat
  o0 : Nat
  m0 : Nat
  po : Nat
  pm : Nat
  lm : Nat
  hm : Nat
  ps : Nat
  lo2 : Nat
  g : Nat
  cap : Nat
structure HLay.Ok (L : HLay) (s : Nat) : Prop where
  s : s ≤ L.o0
  a : L.pa < L.o0
  b : L.pb < L.o0
  c : L.pc < L.o0
  om : L.o0 < L.m0
  po : L.m0 < L.po
  po2 : L.po < L.lm
  pm : L.m0 < L.pm
  pm2 : L.pm < L.lm
  ne : L.po ≠ L.pm
  lh : L.lm ≤ L.hm
  hs : L.hm ≤ L.ps
  sl : L.ps < L.lo2
  g : L.g = L.m0 ∨ (L.lm ≤ L.g ∧ L.g < L.hm)
def hclos (L : HLay) : Value := .func (.func 69) #[] #[.pointer (some ⟨L.pa, 0, none⟩), .pointer (some ⟨L.pb, 0, none⟩), .pointer (some ⟨L.po, 0, none⟩), .pointer (some ⟨L.pm, 0, none⟩), .pointer (some ⟨L.pc, 0, none⟩), .pointer (some ⟨L.ps, 0, none⟩)]
structure HEnv (L : HLay) (a b : Nat) (c : Int) (w : World) : Prop where
  ea : w.heap[L.pa]? = some (.cells #[.int .i64 a] 3 (0, 0))
  eb : w.heap[L.pb]? = some (.cells #[.int .i64 b] 3 (0, 0))
  ec : w.heap[L.pc]? = some (.cells #[.int .i64 c] 3 (0, 0))
  em : w.heap[L.pm]? = some (.cells #[.slice (some ⟨L.g, 0, none⟩) a L.cap] 24 (0, 0))
  es : w.heap[L.ps]? = some (.cells #[hclos L] 78 (0, 0))
theorem HEnv.keep {L : HLay} {a b : Nat} {c : Int} {w w' : World} (h : HEnv L a b c w) (hk : ∀ k, k = L.pa ∨ k = L.pb ∨ k = L.pc ∨ k = L.pm ∨ k = L.ps → w'.heap[k]? = w.heap[k]?) : HEnv L a b c w' :=
  ⟨(hk _ (.inl rfl)).trans h.ea, (hk _ (.inr (.inl rfl))).trans h.eb, (hk _ (.inr (.inr (.inl rfl)))).trans h.ec, (hk _ (.inr (.inr (.inr (.inl rfl))))).trans h.em, (hk _ (.inr (.inr (.inr (.inr rfl))))).trans h.es⟩
/-- The heap in work. -/
abbrev HMat (w0 : World) (L : HLay) (a : Nat) (wr : World) (M : List (List Int)) : Prop := NRel (kdF elInt) (elSl 58 24) w0 L.m0 L.lm wr L.hm (.slice (some ⟨L.g, 0, none⟩) a L.cap) M
/-- The list. -/
structure HOut (w0 : World) (L : HLay) (wr : World) (v : Value) (hi : Nat) (os : List (List (List Int))) : Prop where
  cell : wr.heap[L.po]? = some (.cells #[v] 27 (0, 0))
  rel : NRel kdM (elSl 24 27) w0 L.o0 L.lo2 wr hi v os
  hi : L.lo2 ≤ hi
  at_ : ∀ g, v.ownBlock = some g → g = L.o0 ∨ L.lo2 ≤ g
def HSt (w0 : World) (L : HLay) (a b : Nat) (c : Int) (wr : World) (M : List (List Int)) (os : List (List (List Int))) : Prop :=
  HEnv L a b c wr ∧ HMat w0 L a wr M ∧ RShape a b M ∧ ∃ v hi, HOut w0 L wr v hi os
/-- The first numbers of it. -/
def HPre (b : Nat) (M : List (List Int)) (hd : List Int) : Prop := ∀ j, j < hd.length → el (rw' M (j / b)) (j % b) = el hd j

section
variable {w0 wr w1 : World} {L : HLay} {a b : Nat} {c : Int} {M : List (List Int)} {os : List (List (List Int))} {v : Value} {hi : Nat}
theorem HOut.below (h : HOut w0 L wr v hi os) (hb : Below wr.heap.size wr w1) : HOut w0 L w1 v hi os :=
  ⟨(hb.block _ (lt_of_block h.cell)).trans h.cell, h.rel.below hb, h.hi, h.at_⟩
theorem HSt.below (h : HSt w0 L a b c wr M os) (hb : Below wr.heap.size wr w1) : HSt w0 L a b c w1 M os := by
  obtain ⟨h1, h2, h3, v, hi, h4⟩ := h
  refine ⟨h1.keep fun k hk => hb.block k ?_, h2.below hb, h3, v, hi, h4.below hb⟩
  rcases hk with rfl | rfl | rfl | rfl | rfl
  · exact lt_of_block h1.ea
  · exact lt_of_block h1.eb
  · exact lt_of_block h1.ec
  · exact lt_of_block h1.em
  · exact lt_of_block h1.es
theorem HSt.big (h : HSt w0 L a b c wr M os) : Below w0.heap.size w0 wr := h.2.1.choose_spec.1.2.1
/-- One number is read, or written. -/
theorem HSt.num (hL : L.Ok w0.heap.size) (h : HSt w0 L a b c wr M os) {y x : Nat} (hy : y < a) (hx : x < b) :
    ∃ gi ci, a ≤ L.cap ∧ L.cap ≤ maxLen ∧ b ≤ ci ∧ ci ≤ maxLen ∧ wr.cell? ⟨L.pm, 0, none⟩ = some (.slice (some ⟨L.g, 0, none⟩) a L.cap) ∧ wr.cell? ⟨L.g, y, none⟩ = some (.slice (some ⟨gi, 0, none⟩) b ci) ∧ wr.cell? ⟨gi, x, none⟩ = some (.int .i64 (el (rw' M y) x)) ∧ wr.frozen? ⟨gi, x, none⟩ = false ∧
      Hid (∀ z, HSt w0 L a b c (wr.setCell ⟨gi, x, none⟩ (.int .i64 z)) (M.set y ((rw' M y).set x z)) os) := by
  obtain ⟨h1, h2, h3, v, hi, h4⟩ := h
  obtain ⟨gi, ci, _, q2, q3, _, q5, q6, q7, q8, q9, q10, q11, q12⟩ := h2.num okRow h3 (by have := hL.om; have := hL.s; have := hL.po; have := hL.po2; omega) hy hx
  have o1 := hL.a; have o2 := hL.b; have o3 := hL.c; have o4 := hL.om; have o5 := hL.po; have o6 := hL.po2; have o7 := hL.pm2; have o8 := hL.hs; have o9 := hL.sl; have o10 := hL.pm
  refine ⟨gi, ci, q2, q3, q5, q6, cell_of_one h1.em, q7, q10, q11, fun z => ⟨h1.keep fun k hk => Below.heap_setCell _ _ _ _ (by show k ≠ gi; omega), q12.out z, rshape_set h3 hy (by rw [List.length_set]; exact h3.2 y hy), v, hi, ?_⟩⟩
  have hsame : ∀ k, k ≠ gi → (wr.setCell ⟨gi, x, none⟩ (.int .i64 z)).heap[k]? = wr.heap[k]? := fun k hk => Below.heap_setCell _ _ _ _ hk
  exact ⟨(hsame _ (by omega)).trans h4.cell, h4.rel.kept ((HSt.big ⟨h1, h2, h3, v, hi, h4⟩).setCell (by have := hL.s; show w0.heap.size ≤ gi; omega) _) (by simp) (fun k hk => hsame _ (by have := h4.at_ k hk; omega)) (fun k k1 _ => hsame _ (by omega)), h4.hi, h4.at_⟩
/-- A heap is added to the list. -/
theorem HSt.push {w2 : World} {v' : Value} {ss : List Sl} {s : Sl} {x : List (List Int)} {p : Nat} (hL : L.Ok w0.heap.size) (h1 : HEnv L a b c wr) (h2 : HMat w0 L a wr M) (h3 : RShape a b M) (hs : Els kdM wr L.lo2 hi v.ownBlock ss os) (hh : hi ≤ p) (hlo : L.lo2 ≤ hi) (hx : OwnM wr p wr.heap.size (slV s) x)
    (hpw : p ≤ wr.heap.size) (hat : ∀ g, v.ownBlock = some g → g = L.o0 ∨ L.lo2 ≤ g) (hvp : ∀ g, v.ownBlock = some g → g < p) (hpo : ∃ u, wr.heap[L.po]? = some (.cells #[u] 27 (0, 0)))
    (hA : Hid (Acc (elSl 24 27) w0 L.o0 w2 v' (ss ++ [s]))) (hG : Hid (Grew wr w2 v v')) : HSt w0 L a b c (w2.setCell ⟨L.po, 0, none⟩ v') M (os ++ [x]) := by
  have o1 := hL.a; have o2 := hL.b; have o3 := hL.c; have o4 := hL.om; have o5 := hL.po; have o6 := hL.po2; have o7 := hL.pm2; have o8 := hL.hs; have o9 := hL.sl; have o10 := hL.pm; have o11 := hL.ne; have o12 := hL.g; have o13 := hL.s; have o14 := hL.lh
  obtain ⟨u, hpo⟩ := hpo
  have hN := NRel.push (K := kdM) (wr := wr) (a := p) (b := wr.heap.size) hs (by omega) hx (by omega) hh (Nat.le_refl _) (fun g hg => .inl (hvp g hg)) hA hG
  obtain ⟨g1, g, g2, g3, g4⟩ := hG.out
  have hat' : ∀ k, v'.ownBlock = some k → k = L.o0 ∨ L.lo2 ≤ k := fun k hk => by
    rw [g2] at hk
    obtain rfl := Option.some.inj hk
    rcases g3 with g3 | g3
    · exact hat g g3
    · exact .inr (by omega)
  have hsz := g1.size
  have hpol := lt_of_block hpo
  have hpm := lt_of_block h1.em
  have hps := lt_of_block h1.es
  have hold : ∀ k, k < wr.heap.size → k ≠ L.po → k ≠ L.o0 → (k < L.lo2) → (w2.setCell ⟨L.po, 0, none⟩ v').heap[k]? = wr.heap[k]? := fun k k1 k2 k3 k4 =>
    (Below.heap_setCell _ _ _ _ (by show k ≠ L.po; exact k2)).trans (g1.block k k1 (fun e => by have := hat k e.symm; omega))
  have hbig : Below w0.heap.size w0 (w2.setCell ⟨L.po, 0, none⟩ v') := hA.out.2.1.setCell (by show w0.heap.size ≤ L.po; omega) _
  have hob : ∀ k, k ≠ L.po → (w2.setCell ⟨L.po, 0, none⟩ v').heap[k]? = w2.heap[k]? := fun k hk => Below.heap_setCell _ _ _ _ hk
  have hmh : L.hm ≤ wr.heap.size := h2.choose_spec.2.2
  have hgl : L.g < wr.heap.size := by have := h2.choose_spec.1.lt L.g rfl; omega
  refine ⟨h1.keep fun k hk => hold k ?_ ?_ ?_ ?_, h2.kept hbig (by simp; omega) (fun k hk => ?_) (fun k k1 k2 => hold k (by omega) (by omega) (by omega) (by omega)), h3, v', w2.heap.size, ?_, ?_, by omega, hat'⟩
  · omega
  · omega
  · omega
  · omega
  · simp only [Value.ownBlock, Option.some.injEq] at hk
    subst hk
    exact hold _ (by omega) (by omega) (by omega) (by omega)
  · have hc : ∃ u, w2.heap[L.po]? = some (.cells #[u] 27 (0, 0)) := ⟨u, (g1.block L.po hpol (fun e => by have := hat L.po e.symm; omega)).trans hpo⟩
    obtain ⟨u', hu'⟩ := hc
    exact (blk_setCell hu' _).trans (by simp)
  · exact hN.kept hbig (by simp) (fun k hk => hob k (by have := hat' k hk; omega)) (fun k k1 _ => hob k (by omega))
end
end Go.Proofs.Ytgehollikdbapaa
