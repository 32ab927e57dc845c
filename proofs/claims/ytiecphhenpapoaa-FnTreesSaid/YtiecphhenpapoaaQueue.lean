/- A queue of numbers in memory of the call's own: it loses its first number by slicing, it gains one by append. No function of the program is named here. -/
import Derived.Test.YtiecphhenpapoaaFlat
import Derived.Test.YtiecphhenpapoaaBlk
import Derived.Deep.AppendSrc
namespace Go.Proofs.Ytiecphhenpapoaa
open Go.RowKit
set_option linter.unusedVariables false

def OwnQ (w : World) (lo : Nat) (v : Value) (q : List Nat) : Prop :=
  ∃ g off cap cur, v = .slice (some ⟨g, off, none⟩) q.length cap ∧ lo ≤ g ∧ w.heap[g]? = some (.cells cur 3 (0, 0)) ∧ q.length ≤ cap ∧ cap ≤ maxLen ∧ off + cap ≤ cur.size ∧ ∀ (j x : Nat), q[j]? = some x → cur[off + j]? = some (.int .i64 (x : Int))
section
variable {w w' : World} {lo : Nat} {v : Value} {q : List Nat}
theorem OwnQ.kept {row : Option Nat} (h : OwnQ w lo v q) (hg : w.grownBy w' row) (hr : ∀ k, row = some k → k < lo) : OwnQ w' lo v q := by
  obtain ⟨g, off, cap, cur, hv, h1, h2, h3⟩ := h
  exact ⟨g, off, cap, cur, hv, h1, (hg.block g (lt_of_block h2) (fun e => by have := hr g e.symm; omega)).trans h2, h3⟩
theorem OwnQ.below (h : OwnQ w lo v q) (hb : Below w.heap.size w w') : OwnQ w' lo v q :=
  h.kept (row := none) ⟨hb.os, hb.tape, hb.output, hb.size, fun k hk _ => hb.block k hk⟩ fun _ e => by simp at e
theorem OwnQ.start (w : World) : OwnQ (w.alloc (.cells #[.int .i64 0] 3)) w.heap.size (.slice (some ⟨w.heap.size, 0, none⟩) 1 1) [0] := by
  refine ⟨_, 0, 1, _, rfl, Nat.le_refl _, heap_alloc_new w _, Nat.le_refl _, by simp [maxLen], by simp, fun j x hx => ?_⟩
  have hj : j = 0 := by have := (List.getElem?_eq_some_iff.1 hx).1; simp at this; exact this
  subst hj
  simp only [List.getElem?_cons_zero, Option.some.injEq] at hx; subst hx; rfl
theorem OwnQ.open_ (h : OwnQ w lo v q) : ∃ g off cap, v = .slice (some ⟨g, off, none⟩) q.length cap ∧ q.length ≤ cap ∧ cap ≤ maxLen ∧ lo ≤ g ∧ g < w.heap.size := by
  obtain ⟨g, off, cap, cur, hv, h1, h2, h3, h4, _⟩ := h
  exact ⟨g, off, cap, hv, h3, h4, h1, lt_of_block h2⟩
theorem OwnQ.head {g off n cap x : Nat} (h : OwnQ w lo (.slice (some ⟨g, off, none⟩) n cap) (x :: q)) : w.cell? ⟨g, off, none⟩ = some (.int .i64 (x : Int)) := by
  obtain ⟨g', off', cap', cur, hv, h1, h2, h3, h4, h5, h6⟩ := h
  simp only [Value.slice.injEq, Option.some.injEq, Addr.mk.injEq, and_true] at hv
  obtain ⟨⟨rfl, rfl⟩, _, rfl⟩ := hv
  rw [blk_cell h2]
  exact h6 0 x rfl
theorem OwnQ.tail {g off n cap x : Nat} (h : OwnQ w lo (.slice (some ⟨g, off, none⟩) n cap) (x :: q)) : OwnQ w lo (.slice (some ⟨g, off + 1, none⟩) q.length (cap - 1)) q := by
  obtain ⟨g', off', cap', cur, hv, h1, h2, h3, h4, h5, h6⟩ := h
  simp only [Value.slice.injEq, Option.some.injEq, Addr.mk.injEq, and_true] at hv
  obtain ⟨⟨rfl, rfl⟩, _, rfl⟩ := hv
  simp only [List.length_cons] at h3
  exact ⟨g, off + 1, cap - 1, cur, rfl, h1, h2, by omega, by omega, by omega, fun j y hy => by rw [Nat.add_assoc, Nat.add_comm 1 j]; exact h6 (j + 1) y hy⟩
theorem OwnQ.tail1 {g off n x : Nat} (h : OwnQ w lo (.slice (some ⟨g, off, none⟩) n 1) (x :: q)) : q = [] ∧ OwnQ w lo (.slice (some ⟨g, off, none⟩) 0 0) [] := by
  obtain ⟨g', off', cap', cur, hv, h1, h2, h3, h4, h5, h6⟩ := h
  simp only [Value.slice.injEq, Option.some.injEq, Addr.mk.injEq, and_true] at hv
  obtain ⟨⟨rfl, rfl⟩, _, rfl⟩ := hv
  simp only [List.length_cons] at h3
  exact ⟨List.eq_nil_of_length_eq_zero (by omega), g, off, 0, cur, rfl, h1, h2, Nat.le_refl _, Nat.zero_le _, by omega, fun j y hy => by simp at hy⟩
theorem wpList_pushQ {P : Program} (hund : P.underlying 32 = some (.slice 3)) (hinf : (P.info? 3).map (fun i => (i.zero, i.size, i.bytes)) = some (some (.int .i64 0), 1, 8))
    {ops : Array Oper} {rest : List Oper} {o : Oper} {a : Act} {Q : Exit → Act → World → Prop} (hgd : o.guard = none) (s x : Operand)
    (ho : o.op = .call { callee := .builtin .append, args := #[s, x], argTypes := #[32, 32] }) (H : OwnQ w lo v q) (hlo : lo ≤ w.heap.size) (hs : a.eval s = v)
    (z : Nat) (z' : Value) (hz' : z' = .int .i64 (z : Int)) (h0 : Nat) (hx : a.eval x = .slice (some ⟨h0, 0, none⟩) 1 1) (hh : w.heap.size = h0) (hl : q.length + 1 ≤ 1000)
    (h : ∀ v' w', Hid (OwnQ w' lo v' (q ++ [z])) → Hid (∃ row, w.grownBy w' row ∧ ∀ k, row = some k → lo ≤ k) → wpList P ops Q rest (a.put o.dst v') w') :
    wpList P ops Q (o :: rest) a (w.alloc (.cells #[z'] 3)) := by
  subst hh hz'
  obtain ⟨i, hi, hzz⟩ := Option.map_eq_some_iff.1 hinf
  simp only [Prod.mk.injEq] at hzz
  obtain ⟨hz, hsz, hby⟩ := hzz
  obtain ⟨g, off, cap, cur, rfl, h1, h2, h3, h4, h5, h6⟩ := H
  have hgl := lt_of_block h2
  have hal := (Below.refl w.heap.size w).alloc (Nat.le_refl _) (.cells #[.int .i64 (z : Int)] 3)
  have h2' : (w.alloc (.cells #[.int .i64 (z : Int)] 3)).heap[g]? = some (.cells cur 3 (0, 0)) := (hal.block g hgl).trans h2
  have hsrc : Src P i.size 32 (.slice (some ⟨w.heap.size, 0, none⟩) 1 1) 1 [.int .i64 (z : Int)] (w.alloc (.cells #[.int .i64 (z : Int)] 3)) :=
    Src.ofSlice _ hund _ 1 1 _ (by rw [hsz]; rfl) (cell_one_new _ _ _) (by simp [Value.oneCell'])
  refine wpList_plain hgd fun K hK => ?_
  by_cases hroom : q.length + 1 ≤ cap
  · have hin : off + q.length < cur.size := by omega
    have hrun := run_append_room_src (P := P) (w.alloc (.cells #[.int .i64 (z : Int)] 3)) 32 32 o.type 3 i hund hi g off q.length cap (.slice (some ⟨w.heap.size, 0, none⟩) 1 1) 1 [.int .i64 (z : Int)] hsrc hroom
      (fun j hj => by
        simp at hj; subst hj
        rw [hsz, Nat.mul_one, Nat.add_zero, blk_cell h2']; simp [hin])
      (fun j hj => blk_free h2')
    unfold Oper.wp execOp
    simp only [ho, resolve, invoke, builtin, Sem.run_bind, Sem.run_pure, Result.andThen_ok, List.map_toArray, List.map_cons, List.map_nil, hs, hx, hrun]
    refine hK _ _ (h _ _ ?_ ?_)
    · rw [hsz, Nat.mul_one]
      have hst := blk_setCell (k := off + q.length) h2' (.int .i64 (z : Int))
      refine ⟨g, off, cap, _, by simp, h1, hst, by simp; omega, h4, by simp; omega, fun j y hy => ?_⟩
      by_cases e : j < q.length
      · rw [List.getElem?_append_left e] at hy
        rw [Array.getElem?_setIfInBounds_ne (by omega)]
        exact h6 j y hy
      · have hj : j = q.length := by have := (List.getElem?_eq_some_iff.1 hy).1; simp at this; omega
        subst hj
        simp at hy; subst hy
        simp [hin]
    · refine ⟨some g, ?_, fun k hk => by obtain rfl := Option.some.inj hk; exact h1⟩
      rw [hsz, Nat.mul_one]
      have := grownBy_set (w.alloc (.cells #[.int .i64 (z : Int)] 3)) g (off + q.length) (.int .i64 (z : Int))
      exact ⟨rfl, rfl, rfl, by simp [World.setCells], fun k hk hne => (this.block k (by simp; omega) hne).trans (hal.block k hk)⟩
  · have hrun := run_append_grow (P := P) (w.alloc (.cells #[.int .i64 (z : Int)] 3)) 32 o.type 3 i (.int .i64 0) hund hi hz ⟨g, off, none⟩ q.length cap (q.map fun (y : Nat) => Value.int .i64 (y : Int)) (by rw [hsz]; simp)
      (fun j u hu => by
        rw [List.getElem?_map] at hu
        obtain ⟨y, hy, rfl⟩ := Option.map_eq_some_iff.1 hu
        have := h6 j y hy
        rw [← blk_cell h2'] at this
        rw [← this]
        congr 1
        rcases Nat.eq_zero_or_pos j with e | e
        · subst e; rfl
        · simp [Addr.add, Nat.ne_of_gt e])
      ⟨w.heap.size, 0, none⟩ 1 1 [.int .i64 (z : Int)] (by rw [hsz]; rfl) (cell_one_new _ _ _) (by omega) (by omega) (growslice_fits (by omega) (by rw [hby]; omega))
    unfold Oper.wp execOp
    simp only [ho, resolve, invoke, builtin, Sem.run_bind, Sem.run_pure, Result.andThen_ok, List.map_toArray, List.map_cons, List.map_nil, hs, hx, hrun]
    refine hK _ _ (h _ _ ?_ ?_)
    · have hge := grownCap_ge (w.alloc (.cells #[.int .i64 (z : Int)] 3)) (q.length + 1) cap 3
      have hcm : grownCap (w.alloc (.cells #[.int .i64 (z : Int)] 3)) (q.length + 1) cap 3 ≤ maxLen := grownCap_le_maxLen _ _ _ _ (by simp [maxLen]; omega)
      generalize grownCap (w.alloc (.cells #[.int .i64 (z : Int)] 3)) (q.length + 1) cap 3 = nc at *
      refine ⟨_, 0, nc, _, by simp, ?_, heap_alloc_new _ _, by simp; exact hge, hcm, ?_, fun j y hy => ?_⟩
      · simp; omega
      · simp [size_zeroCells, Value.cells]; omega
      · have hlt := (List.getElem?_eq_some_iff.1 hy).1
        simp only [List.length_append, List.length_singleton] at hlt
        rw [Nat.zero_add, Array.getElem?_append_left (by simp; omega)]
        have : (q.map (fun (y : Nat) => Value.int .i64 (y : Int))).toArray ++ [Value.int .i64 (z : Int)].toArray = ((q ++ [z]).map fun (y : Nat) => Value.int .i64 (y : Int)).toArray := by simp
        rw [this, List.getElem?_toArray, List.getElem?_map, hy]; rfl
    · exact ⟨none, ⟨rfl, rfl, rfl, by simp; omega, fun k hk _ => (Below.heap_alloc _ _ _ (by simp; omega)).trans (hal.block k hk)⟩, fun k hk => by simp at hk⟩
end
end Go.Proofs.Ytiecphhenpapoaa
