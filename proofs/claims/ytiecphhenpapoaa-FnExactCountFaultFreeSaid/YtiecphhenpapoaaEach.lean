/- What the program's each owns while it lists for CountFaultFree; its callback. -/
import Derived.Test.YtiecphhenpapoaaFirst
import Derived.Test.YtiecphhenpapoaaFaultFree
import Derived.Test.YtiecphhenpapoaaElsP
import Derived.Deep.RegionHeld3
import Derived.Deep.RegionLaw
namespace Go.Proofs.Ytiecphhenpapoaa
open Go.RowKit
set_option linter.unusedVariables false

/-- The domino at a cell. -/
def dOf (k : Nat) (down : Bool) : Lk := (((k % 8 : Nat) : Int), ((k / 8 : Nat) : Int), down)
def fitB (s : Nat) (l : Lk) : Bool := domL l && (s &&& dM l == dM l)
def minN (s m : Nat) : Nat := s &&& (18446744073709551615 - m)
/-- The counter behind all tilings of s that continue hd. -/
def cntE (p : List Lk → Bool) : Nat → Nat → List Lk → Int → Int
  | 0, _, _, x => x
  | d + 1, s, hd, x =>
    if s = 0 then (if p hd then wrap64 (x + 1) else x)
    else
      let x1 := if fitB s (dOf (fstN s) false) then cntE p d (minN s (dM (dOf (fstN s) false))) (hd ++ [dOf (fstN s) false]) x else x
      if fitB s (dOf (fstN s) true) then cntE p d (minN s (dM (dOf (fstN s) true))) (hd ++ [dOf (fstN s) true]) x1 else x1

abbrev cbV (n0 : Nat) : Value := .func (.func 72) #[] #[.pointer (some ⟨n0, 0, none⟩), .pointer (some ⟨n0 + 1, 0, none⟩), .pointer (some ⟨n0 + 2, 0, none⟩)]
abbrev reV (n : Nat) : Value := .func (.func 139) #[] #[.pointer (some ⟨n, 0, none⟩), .pointer (some ⟨n + 2, 0, none⟩), .pointer (some ⟨n + 3, 0, none⟩)]
structure CF (w0 wr : World) (n0 n a b : Nat) (x : Int) (vw : Value) (hd : List Lk) : Prop where
  ea : wr.heap[n0]? = some (.cells #[.int .i64 a] 3 (0, 0))
  eb : wr.heap[n0 + 1]? = some (.cells #[.int .i64 b] 3 (0, 0))
  ec : wr.heap[n0 + 2]? = some (.cells #[.int .i64 x] 3 (0, 0))
  cc : wr.heap[n]? = some (.cells #[cbV n0] 84 (0, 0))
  cw : wr.heap[n + 2]? = some (.cells #[vw] 29 (0, 0))
  cr : wr.heap[n + 3]? = some (.cells #[reV n] 140 (0, 0))
  aw : Acc elDomino w0 (n + 1) wr vw hd
  bw : ∀ g, vw.ownBlock = some g → g = n + 1 ∨ n + 4 ≤ g
  l0 : n0 + 2 < n
  lw : w0.heap.size ≤ n0
section
variable {w0 wr w1 w2 : World} {n0 n a b : Nat} {x : Int} {vw v' : Value} {hd : List Lk} {y : Lk}
theorem CF.big (h : CF w0 wr n0 n a b x vw hd) : Below w0.heap.size w0 wr := h.aw.2.1
theorem CF.below (h : CF w0 wr n0 n a b x vw hd) (hb : Below wr.heap.size wr w1) : CF w0 w1 n0 n a b x vw hd :=
  ⟨blk_below h.ea hb, blk_below h.eb hb, blk_below h.ec hb, blk_below h.cc hb, blk_below h.cw hb, blk_below h.cr hb, h.aw.below hb, h.bw, h.l0, h.lw⟩
theorem CF.count (h : CF w0 wr n0 n a b x vw hd) (z : Int) : CF w0 (wr.setCell ⟨n0 + 2, 0, none⟩ (.int .i64 z)) n0 n a b z vw hd := by
  have hl := h.l0
  have hlw := h.lw
  have hk : ∀ j, j ≠ n0 + 2 → (wr.setCell ⟨n0 + 2, 0, none⟩ (.int .i64 z)).heap[j]? = wr.heap[j]? := fun j hj => Below.heap_setCell _ _ _ _ hj
  exact ⟨(hk _ (by omega)).trans h.ea, (hk _ (by omega)).trans h.eb, (blk_setCell h.ec _).trans (by simp), (hk _ (by omega)).trans h.cc, (hk _ (by omega)).trans h.cw, (hk _ (by omega)).trans h.cr,
    ⟨h.aw.1.same fun k hk2 => hk k (by have := h.bw k hk2; omega), h.aw.2.1.setCell (by show w0.heap.size ≤ n0 + 2; omega) _, h.aw.2.2.1, by simpa using h.aw.2.2.2⟩, h.bw, h.l0, h.lw⟩
theorem CF.push (h : CF w0 wr n0 n a b x vw hd) (HA : Acc elDomino w0 (n + 1) w2 v' (hd ++ [y])) (HG : Grew wr w2 vw v') :
    CF w0 (w2.setCell ⟨n + 2, 0, none⟩ v') n0 n a b x v' (hd ++ [y]) ∧ (∃ u, w2.heap[n + 2]? = some (.cells #[u] 29 (0, 0))) := by
  obtain ⟨g1, g, g2, g3, g4⟩ := HG
  have hl := h.l0
  have hlw := h.lw
  have hsz := lt_of_block h.cr
  have hsame : ∀ k, k < n + 4 → k ≠ n + 1 → k ≠ n + 2 → (w2.setCell ⟨n + 2, 0, none⟩ v').heap[k]? = wr.heap[k]? := fun k k1 k2 k3 =>
    (Below.heap_setCell _ _ _ _ (by show k ≠ n + 2; exact k3)).trans (g1.block k (by omega) (fun e => by have := h.bw k e.symm; omega))
  have hpw : w2.heap[n + 2]? = some (.cells #[vw] 29 (0, 0)) := (g1.block (n + 2) (by omega) (fun e => by have := h.bw _ e.symm; omega)).trans h.cw
  have hgb : g = n + 1 ∨ n + 4 ≤ g := by
    rcases g3 with g3 | g3
    · exact h.bw g g3
    · exact .inr (by omega)
  refine ⟨⟨(hsame _ (by omega) (by omega) (by omega)).trans h.ea, (hsame _ (by omega) (by omega) (by omega)).trans h.eb, (hsame _ (by omega) (by omega) (by omega)).trans h.ec, (hsame _ (by omega) (by omega) (by omega)).trans h.cc, (blk_setCell hpw _).trans (by simp), (hsame _ (by omega) (by omega) (by omega)).trans h.cr,
    ⟨HA.1.same fun k hk => Below.heap_setCell _ _ _ _ ?_, HA.2.1.setCell (by show w0.heap.size ≤ n + 2; omega) _, HA.2.2.1, by simpa using HA.2.2.2⟩, fun k hk => ?_, h.l0, h.lw⟩, ⟨_, hpw⟩⟩
  · rw [g2] at hk; obtain rfl := Option.some.inj hk; show g ≠ n + 2; omega
  · rw [g2] at hk; obtain rfl := Option.some.inj hk; exact hgb
theorem CF.pop (h : CF w0 wr n0 n a b x vw (hd ++ [y])) :
    ∃ g c, vw = .slice (some ⟨g, 0, none⟩) (hd.length + 1) c ∧ hd.length + 1 ≤ c ∧ c ≤ maxLen ∧ Hid (CF w0 (wr.setCell ⟨n + 2, 0, none⟩ (.slice (some ⟨g, 0, none⟩) hd.length c)) n0 n a b x (.slice (some ⟨g, 0, none⟩) hd.length c) hd) := by
  obtain ⟨g, c, rfl, h1, h2, h3⟩ := h.aw.1.pop (fun _ => rfl)
  have hl := h.l0
  have hlw := h.lw
  have hb := h.bw g rfl
  have hsame : ∀ k, k ≠ n + 2 → (wr.setCell ⟨n + 2, 0, none⟩ (.slice (some ⟨g, 0, none⟩) hd.length c)).heap[k]? = wr.heap[k]? := fun k k3 => Below.heap_setCell _ _ _ _ k3
  refine ⟨g, c, rfl, h1, h2, (hsame _ (by omega)).trans h.ea, (hsame _ (by omega)).trans h.eb, (hsame _ (by omega)).trans h.ec, (hsame _ (by omega)).trans h.cc, (blk_setCell h.cw _).trans (by simp), (hsame _ (by omega)).trans h.cr,
    ⟨h3.same fun k hk => hsame k ?_, h.aw.2.1.setCell (by show w0.heap.size ≤ n + 2; omega) _, h.aw.2.2.1, by simpa using h.aw.2.2.2⟩, h.bw, h.l0, h.lw⟩
  simp only [Value.ownBlock, Option.some.injEq] at hk; subst hk; omega
end

/-- How the closure leaves the rest. -/
def EF (n0 n : Nat) (wr w' : World) (vw vw' : Value) : Prop := (∀ k, k < wr.heap.size → k ≠ n0 + 2 → k ≠ n + 2 → vw.ownBlock ≠ some k → w'.heap[k]? = wr.heap[k]?) ∧ (∀ g, vw'.ownBlock = some g → vw.ownBlock = some g ∨ wr.heap.size ≤ g) ∧ wr.heap.size ≤ w'.heap.size
theorem EF.trans {n0 n : Nat} {wr w1 w2 : World} {v v1 v2 : Value} (h : EF n0 n wr w1 v v1) (h' : EF n0 n w1 w2 v1 v2) : EF n0 n wr w2 v v2 := by
  obtain ⟨a1, a2, a3⟩ := h
  obtain ⟨b1, b2, b3⟩ := h'
  refine ⟨fun k k1 k2 k3 k4 => (b1 k (by omega) k2 k3 fun e => ?_).trans (a1 k k1 k2 k3 k4), fun g hg => ?_, by omega⟩
  · rcases a2 k e with e | e
    · exact k4 e
    · omega
  · rcases b2 g hg with e | e
    · exact a2 g e
    · exact .inr (by omega)
theorem EF.below {n0 n : Nat} {wr w1 : World} {v : Value} (h : Below wr.heap.size wr w1) : EF n0 n wr w1 v v := ⟨fun k k1 _ _ _ => h.block k k1, fun g hg => .inl hg, h.size⟩
theorem EF.cell {n0 n : Nat} {wr : World} {v v' : Value} (p : Addr) (u : Value) (hp : p.block = n0 + 2 ∨ p.block = n + 2) (hv : v'.ownBlock = v.ownBlock) : EF n0 n wr (wr.setCell p u) v v' :=
  ⟨fun k _ k2 k3 _ => Below.heap_setCell _ _ _ _ (by omega), fun g hg => .inl (by rw [← hv]; exact hg), by simp⟩
theorem EF.grew {n0 n : Nat} {wr w2 : World} {v v' : Value} (u : Value) (h : Grew wr w2 v v') : EF n0 n wr (w2.setCell ⟨n + 2, 0, none⟩ u) v v' := by
  obtain ⟨g1, g, g2, g3, g4⟩ := h
  refine ⟨fun k k1 k2 k3 k4 => (Below.heap_setCell _ _ _ _ (by show k ≠ n + 2; exact k3)).trans (g1.block k k1 fun e => k4 e.symm), fun g' hg => ?_, by simpa using g1.size⟩
  rw [g2] at hg
  obtain rfl := Option.some.inj hg
  exact g3

/-- The callback counts. -/
theorem back_any (w0 : World) (n0 n a b : Nat) (x : Int) (vw : Value) (hd : List Lk) (wr : World) (h : CF w0 wr n0 n a b x vw hd) :
    Calls Try.prog 72 #[vw, .pointer (some ⟨n0, 0, none⟩), .pointer (some ⟨n0 + 1, 0, none⟩), .pointer (some ⟨n0 + 2, 0, none⟩)] wr
      fun e w' => e = .returned (.tuple #[]) ∧ CF w0 w' n0 n a b (if iffB a b hd then wrap64 (x + 1) else x) vw hd ∧ EF n0 n wr w' vw vw := by
  have H := Lib.hid h
  have c0 : wr.cell? ⟨n0, 0, none⟩ = some (.int .i64 a) := cell_of_one h.ea
  have c1 : wr.cell? ⟨n0 + 1, 0, none⟩ = some (.int .i64 b) := cell_of_one h.eb
  have HR := Lib.hid (h.aw.1.rd okDomino)
  obtain ⟨A, c, rfl, _, _, _⟩ := h.aw.1.rd okDomino
  clear h
  cases hi : iffB a b hd
  · have HE : Hid ((if false = true then wrap64 (x + 1) else x) = x) := by unfold Hid; simp
    rw [HE.out]
    go_enter Try.func72, Try.ntmps72
    go_wp2_with fail
    refine (IsFaultFree_any a b _ hd _ _ HR.out (Nat.le_refl _)).mono ?_
    rintro e w1 ⟨rfl, hb1⟩
    rw [hi]
    have H1 := Lib.hid (H.out.below hb1)
    have HB1 := Lib.hid hb1
    clear hb1
    go_wp2_with fail
    go_end0
    exact ⟨rfl, H1.out, EF.below HB1.out⟩
  · have HE : Hid ((if true = true then wrap64 (x + 1) else x) = wrap64 (x + 1)) := by unfold Hid; simp
    rw [HE.out]
    go_enter Try.func72, Try.ntmps72
    go_wp2_with fail
    refine (IsFaultFree_any a b _ hd _ _ HR.out (Nat.le_refl _)).mono ?_
    rintro e w1 ⟨rfl, hb1⟩
    rw [hi]
    have H1 := Lib.hid (H.out.below hb1)
    have d0 : w1.cell? ⟨n0 + 2, 0, none⟩ = some (.int .i64 x) := cell_of_one H1.out.ec
    have d1 := free_of_one H1.out.ec
    have H2 := Lib.hid (H1.out.count (wrap64 (x + 1)))
    have HB1 := Lib.hid hb1
    clear hb1 c0 c1
    go_wp2_with fail
    go_end0
    exact ⟨rfl, H2.out, (EF.below HB1.out).trans (EF.cell ⟨n0 + 2, 0, none⟩ _ (.inl rfl) rfl)⟩

def EPost (w0 wr : World) (n0 n a b : Nat) (x : Int) (vw : Value) (hd : List Lk) (e : Ending) (w' : World) : Prop := e = .returned (.tuple #[]) ∧ ∃ vw', CF w0 w' n0 n a b x vw' hd ∧ EF n0 n wr w' vw vw'
/-- One call of each's closure. -/
def EachAt (w0 : World) (n0 n a b d s : Nat) (hd : List Lk) : Prop := ∀ (wr : World) (x : Int) (vw : Value), CF w0 wr n0 n a b x vw hd →
  Calls Try.prog 139 #[.int .u64 (s : Int), .pointer (some ⟨n, 0, none⟩), .pointer (some ⟨n + 2, 0, none⟩), .pointer (some ⟨n + 3, 0, none⟩)] wr
    (EPost w0 wr n0 n a b (cntE (iffB a b) d s hd x) vw hd)
theorem each_end (w0 : World) (n0 n a b d : Nat) (hd : List Lk) : EachAt w0 n0 n a b (d + 1) 0 hd := by
  intro wr x vw h
  have HC : Hid (cntE (iffB a b) (d + 1) 0 hd x = if iffB a b hd then wrap64 (x + 1) else x) := by unfold Hid; rw [cntE, if_pos rfl]
  rw [HC.out]
  clear HC
  have HK := Lib.hid (back_any w0 n0 n a b x vw hd wr h)
  have c0 : wr.cell? ⟨n, 0, none⟩ = some (cbV n0) := cell_of_one h.cc
  have c1 : wr.cell? ⟨n + 2, 0, none⟩ = some vw := cell_of_one h.cw
  obtain ⟨A, c, rfl, _, _, _⟩ := h.aw.1.rd okDomino
  clear h
  generalize (if iffB a b hd then wrap64 (x + 1) else x) = z at *
  go_enter Try.func139, Try.ntmps139
  go_wp2_with fail
  refine HK.out.mono ?_
  rintro e w1 ⟨rfl, h1, h2⟩
  have H1 := Lib.hid h1
  have H2 := Lib.hid h2
  clear h1 h2
  go_wp2_with fail
  go_end0
  exact ⟨rfl, _, H1.out, H2.out⟩
end Go.Proofs.Ytiecphhenpapoaa
