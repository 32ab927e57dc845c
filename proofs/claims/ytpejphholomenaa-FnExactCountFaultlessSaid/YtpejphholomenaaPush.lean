/- A slice of rows of the call's own grows by one row. -/
import Derived.Test.YtpejphholomenaaCopyRows
import Derived.Test.YtpejphholomenaaOwnD
import Derived.Test.YtpejphholomenaaFlat
namespace Go.Proofs.Ytpejphholomenaa
open Go.RowKit

theorem wpList_pushRow {ops : Array Oper} {rest : List Oper} {o : Oper} {a : Act} {Q : Exit → Act → World → Prop} (hgd : o.guard = none) (s x : Operand)
    (ho : o.op = .call { callee := .builtin .append, args := #[s, x], argTypes := #[28, 28] }) {w wr : World} {hi : Nat} {v u : Value} {zss : List (List Int)} {zs : List Int} (H : RowRel w wr hi v zss u zs) (hs : a.eval s = v)
    (h0 : Nat) (hx : a.eval x = .slice (some ⟨h0, 0, none⟩) 1 1) (hh : wr.heap.size = h0) (hl : zss.length + 1 ≤ 1073741824)
    (h : ∀ v' w', Hid (MRel w w' w'.heap.size v' (zss ++ [zs])) → Hid (Below w.heap.size wr w') → wpList Try.prog ops Q rest (a.put o.dst v') w') :
    wpList Try.prog ops Q (o :: rest) a (wr.alloc (.cells #[u] 34)) := by
  subst hh
  obtain ⟨iR, hiR, hr0, hr1, hr2⟩ := info_parts infoRow
  obtain ⟨vs, hv1, hv2⟩ := H.1.1
  have hvl : vs.length = zss.length := by have := hv1.1; omega
  obtain ⟨A', c', rfl, hq1, hq2, _⟩ := H.2.rd
  refine wpList_append_lies _ hgd s x _ ho w.heap.size 34 iR _ 1 24 Try.underlying28 hiR hr0 hr1 hr2 rfl (by omega) _ zss.length _ hs (World.ownsRow.alloc hv1 _) ⟨wr.heap.size, 0, none⟩ 1 1 [.slice A' zs.length c'] hx rfl
    (World.news_of_block (cs := #[.slice A' zs.length c']) (t := 34) (fr := (0, 0)) (heap_alloc_new wr _)) (by simp [Value.oneCell']) (by omega) (by unfold maxLen; omega) (by omega) (by simp; have := H.1.2.1.size; omega) (wr.heap.size + 1) (by simp) ?_
  intro g cap wi hown hg hat hlt
  have hS := RowRel.push H hv2 hvl hown hg hat hlt
  refine h _ wi hS ((((Below.refl _ _).alloc ?_ _)).grown hg ?_ fun k hk => ?_)
  · exact H.1.2.1.size
  · simp; have := H.1.2.1.size; omega
  · exact (World.ownsRow.lt hv1 k hk).1
theorem step_pushRow {ops : Array Oper} {o : Oper} {a : Act} {K : Act → World → Prop} {Q : Exit → Act → World → Prop} {X : Prop} (hgd : o.guard = none) (s x : Operand)
    (ho : o.op = .call { callee := .builtin .append, args := #[s, x], argTypes := #[28, 28] }) {w wr : World} {hi : Nat} {v u : Value} {zss : List (List Int)} {zs : List Int} (H : RowRel w wr hi v zss u zs) (hs : a.eval s = v)
    (h0 : Nat) (hx : a.eval x = .slice (some ⟨h0, 0, none⟩) 1 1) (hh : wr.heap.size = h0) (hl : zss.length + 1 ≤ 1073741824)
    (h : ∀ v' w', Hid (MRel w w' w'.heap.size v' (zss ++ [zs])) → Hid (Below w.heap.size wr w') → K (a.put o.dst v') w') :
    if Region.wanted o (yielded ops a.tmps) = true then Oper.wp Try.prog o a (wr.alloc (.cells #[u] 34)) K Q else X := by
  subst hh
  obtain ⟨iR, hiR, hr0, hr1, hr2⟩ := info_parts infoRow
  obtain ⟨vs, hv1, hv2⟩ := H.1.1
  have hvl : vs.length = zss.length := by have := hv1.1; omega
  obtain ⟨A', c', rfl, hq1, hq2, _⟩ := H.2.rd
  refine step_append_lies _ hgd s x _ ho w.heap.size 34 iR _ 1 24 Try.underlying28 hiR hr0 hr1 hr2 rfl (by omega) _ zss.length _ hs (World.ownsRow.alloc hv1 _) ⟨wr.heap.size, 0, none⟩ 1 1 [.slice A' zs.length c'] hx rfl
    (World.news_of_block (cs := #[.slice A' zs.length c']) (t := 34) (fr := (0, 0)) (heap_alloc_new wr _)) (by simp [Value.oneCell']) (by omega) (by unfold maxLen; omega) (by omega) (by simp; have := H.1.2.1.size; omega) (wr.heap.size + 1) (by simp) ?_
  intro g cap wi hown hg hat hlt
  have hS := RowRel.push H hv2 hvl hown hg hat hlt
  refine h _ wi hS ((((Below.refl _ _).alloc ?_ _)).grown hg ?_ fun k hk => ?_)
  · exact H.1.2.1.size
  · simp; have := H.1.2.1.size; omega
  · exact (World.ownsRow.lt hv1 k hk).1
theorem MRel.grown {w wr w1 : World} {hi : Nat} {v : Value} {zss : List (List Int)} {row : Option Nat} (h : MRel w wr hi v zss) (hg : wr.grownBy w1 row) (hr : ∀ k, row = some k → hi ≤ k) : MRel w w1 hi v zss :=
  ⟨h.1.grown hg hr, h.2.1.grown hg h.2.1.size fun k hk => Nat.le_trans h.2.2.2 (hr k hk), Nat.le_trans h.2.2.1 hg.size, h.2.2.2⟩
/-- The new row grows by one number. -/
theorem wpList_pushInt {ops : Array Oper} {rest : List Oper} {o : Oper} {a : Act} {Q : Exit → Act → World → Prop} (hgd : o.guard = none) (s x : Operand)
    (ho : o.op = .call { callee := .builtin .append, args := #[s, x], argTypes := #[34, 34] }) {w wr : World} {hi : Nat} {v u : Value} {zss : List (List Int)} {zs : List Int} (H : RowRel w wr hi v zss u zs) (hs : a.eval s = u)
    (z : Int) (h0 : Nat) (hx : a.eval x = .slice (some ⟨h0, 0, none⟩) 1 1) (hh : wr.heap.size = h0) (hl : zs.length + 1 ≤ 1073741824)
    (h : ∀ u' w', Hid (RowRel w w' hi v zss u' (zs ++ [z])) → Hid (Below hi wr w') → wpList Try.prog ops Q rest (a.put o.dst u') w') :
    wpList Try.prog ops Q (o :: rest) a (wr.alloc (.cells #[.int .i64 z] 3)) := by
  have HA : Acc elInt w hi wr u zs := ⟨ownF_int.2 H.2, H.1.2.1, H.1.2.2.2, H.1.2.2.1⟩
  refine wpList_push okInt hgd s x ho HA hs z #[.int .i64 z] rfl h0 hx hh hl fun u' w' H2 G => h u' w' ⟨H.1.grown G.1 fun k hk => (H.2.lt k hk).1, ownF_int.1 H2.out.1⟩ ((Below.refl _ _).grown G.1 H.1.2.2.1 fun k hk => (H.2.lt k hk).1)
/-- The new row grows by one number. -/
theorem step_pushInt {ops : Array Oper} {o : Oper} {a : Act} {K : Act → World → Prop} {Q : Exit → Act → World → Prop} {X : Prop} (hgd : o.guard = none) (s x : Operand)
    (ho : o.op = .call { callee := .builtin .append, args := #[s, x], argTypes := #[34, 34] }) {w wr : World} {hi : Nat} {v u : Value} {zss : List (List Int)} {zs : List Int} (H : RowRel w wr hi v zss u zs) (hs : a.eval s = u)
    (z : Int) (h0 : Nat) (hx : a.eval x = .slice (some ⟨h0, 0, none⟩) 1 1) (hh : wr.heap.size = h0) (hl : zs.length + 1 ≤ 1073741824)
    (h : ∀ u' w', Hid (RowRel w w' hi v zss u' (zs ++ [z])) → Hid (Below hi wr w') → K (a.put o.dst u') w') :
    if Region.wanted o (yielded ops a.tmps) = true then Oper.wp Try.prog o a (wr.alloc (.cells #[.int .i64 z] 3)) K Q else X := by
  have HA : Acc elInt w hi wr u zs := ⟨ownF_int.2 H.2, H.1.2.1, H.1.2.2.2, H.1.2.2.1⟩
  refine step_push okInt hgd s x ho HA hs z #[.int .i64 z] rfl h0 hx hh hl fun u' w' H2 G => h u' w' ⟨H.1.grown G.1 fun k hk => (H.2.lt k hk).1, ownF_int.1 H2.out.1⟩ ((Below.refl _ _).grown G.1 H.1.2.2.1 fun k hk => (H.2.lt k hk).1)
/-- A made row beside the slice of rows. -/
theorem RowRel.made {w wr : World} {hi : Nat} {v : Value} {zss : List (List Int)} (h : MRel w wr hi v zss) (n : Nat) (hn : n ≤ 9223372036854775807) :
    RowRel w (wr.alloc (.cells (madeCells #[.int .i64 0] n) 3)) hi v zss (.slice (some ⟨wr.heap.size, 0, none⟩) n n) (List.replicate n 0) := by
  refine ⟨h.below ((Below.refl _ _).alloc (Nat.le_refl _) _), ?_⟩
  have e : (List.replicate n (0 : Int)).length = n := by simp
  have := OwnI.of_row (w := wr.alloc (.cells (madeCells #[.int .i64 0] n) 3)) (lo := hi) (g := wr.heap.size) (zs := List.replicate n 0) h.2.2.1 (by rw [e]; exact hn) (by rw [e]; exact (World.rowIs_made wr _ _ _).congr fun i hi => by simp [hi])
  rwa [e] at this
end Go.Proofs.Ytpejphholomenaa
