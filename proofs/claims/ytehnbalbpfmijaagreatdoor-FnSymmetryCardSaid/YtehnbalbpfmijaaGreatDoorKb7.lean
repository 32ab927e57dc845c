/- What the claim's walk rests on: parts SPart, TileLaw, Faults, MovL. -/
import Derived.Test.YtehnbalbpfmijaaGreatDoorKb6
import Derived.Deep.LoopGhost
namespace Go.Proofs.YtehnbalbpfmijaaGreatDoor
open Go.RowKit
set_option linter.unusedVariables false

theorem infoBool64 : (Tryz.prog.info? 4).map (fun i => (i.zero, i.size, i.bytes)) = some (some (.bool false), 1, 1) := by kernel_rfl
/-- The reference's marks: entry k. -/
def uRow (T : Nat) : Array Value := ((List.range 64).map fun k => Value.bool (T.testBit k)).toArray
theorem uRow_get (T k : Nat) (hk : k ≤ 63) : (uRow T)[k]? = some (.bool (T.testBit k)) := by simp [uRow, show k < 64 by omega]
theorem uRow_set (T k : Nat) (hk : k ≤ 63) : (uRow T).setIfInBounds k (.bool true) = uRow (T ||| 2 ^ k) := by
  apply Array.ext
  · simp [uRow]
  · intro i h1 h2
    have hi : i < 64 := by simpa [uRow] using h2
    have hi' : i < (uRow T).size := by simpa [uRow] using hi
    rw [Array.getElem_setIfInBounds hi']
    simp only [uRow, List.getElem_toArray, List.getElem_map, List.getElem_range, Nat.testBit_or, Nat.testBit_two_pow]
    by_cases e : k = i
    · simp [e]
    · simp [e]
theorem uRow_zero : madeCells #[.bool false] 64 = uRow 0 := by kernel_rfl
/-- The numbers of a domino's cells. -/
def aI (l : Lk) : Nat := cix l.1.toNat l.2.1.toNat
def bI (l : Lk) : Nat := if l.2.2 then cix l.1.toNat (l.2.1.toNat + 1) else cix (l.1.toNat + 1) l.2.1.toNat
theorem dM_ab (l : Lk) : dM l = 2 ^ aI l ||| 2 ^ bI l := by
  obtain ⟨x, y, d⟩ := l
  cases d <;> simp [dM, domM, aI, bI]
/-- What the reference asks of domino k. -/
def qAt (R : Nat) (ls : List Lk) (k : Nat) : Bool := domL (dAt ls k) && (decide (k = 0) || domLt (dAt ls (k - 1)) (dAt ls k)) &&
  (R.testBit (aI (dAt ls k)) && R.testBit (bI (dAt ls k)) && !(covTo ls k).testBit (aI (dAt ls k)) && !(covTo ls k).testBit (bI (dAt ls k)))
def sPartB (R : Nat) (ls : List Lk) : Bool := upFrom (qAt R ls) 0 ls.length

/-- One struct that lies in a slice, in a world that grows. -/
abbrev ElT (V w' : World) (p : Addr) (x y : Int) (d : Bool) : Prop := w'.cell? p = some (.int .i64 x) ∧ w'.cell? ⟨p.block, p.off + 1, none⟩ = some (.int .i64 y) ∧ w'.cell? ⟨p.block, p.off + 2, none⟩ = some (.bool d) ∧ V.heap.size ≤ w'.heap.size ∧ Below V.heap.size V w'
theorem ElT.keep {V W0 w1 : World} {p : Addr} {x y : Int} {d : Bool} (hb : Below W0.heap.size W0 w1) (hp : p.block < V.heap.size) (h : ElT V W0 p x y d) : ElT V w1 p x y d := by
  obtain ⟨h1, h2, h3, h7, h8⟩ := h
  exact ⟨(hb.cell (by omega)).trans h1, (hb.cell (by simp; omega)).trans h2, (hb.cell (by simp; omega)).trans h3, Nat.le_trans h7 hb.size, h8.trans (hb.mono h7)⟩
theorem ElT.drew {V W0 : World} {p : Addr} {x y : Int} {d : Bool} (h : ElT V W0 p x y d) : ElT V W0.drew p x y d := ⟨h.1, h.2.1, h.2.2.1, h.2.2.2.1, h.2.2.2.2.drew⟩
/-- Two of them. -/
abbrev ElTT (V w' : World) (p : Addr) (x y : Int) (d : Bool) (q : Addr) (x' y' : Int) (d' : Bool) : Prop := w'.cell? p = some (.int .i64 x) ∧ w'.cell? ⟨p.block, p.off + 1, none⟩ = some (.int .i64 y) ∧ w'.cell? ⟨p.block, p.off + 2, none⟩ = some (.bool d) ∧
  w'.cell? q = some (.int .i64 x') ∧ w'.cell? ⟨q.block, q.off + 1, none⟩ = some (.int .i64 y') ∧ w'.cell? ⟨q.block, q.off + 2, none⟩ = some (.bool d') ∧ V.heap.size ≤ w'.heap.size ∧ Below V.heap.size V w'
theorem ElTT.keep {V W0 w1 : World} {p : Addr} {x y : Int} {d : Bool} {q : Addr} {x' y' : Int} {d' : Bool} (hb : Below W0.heap.size W0 w1) (hp : p.block < V.heap.size) (hq : q.block < V.heap.size) (h : ElTT V W0 p x y d q x' y' d') : ElTT V w1 p x y d q x' y' d' := by
  obtain ⟨h1, h2, h3, h4, h5, h6, h7, h8⟩ := h
  exact ⟨(hb.cell (by omega)).trans h1, (hb.cell (by simp; omega)).trans h2, (hb.cell (by simp; omega)).trans h3, (hb.cell (by omega)).trans h4, (hb.cell (by simp; omega)).trans h5, (hb.cell (by simp; omega)).trans h6, Nat.le_trans h7 hb.size, h8.trans (hb.mono h7)⟩
theorem ElTT.drew {V W0 : World} {p : Addr} {x y : Int} {d : Bool} {q : Addr} {x' y' : Int} {d' : Bool} (h : ElTT V W0 p x y d q x' y' d') : ElTT V W0.drew p x y d q x' y' d' := ⟨h.1, h.2.1, h.2.2.1, h.2.2.2.1, h.2.2.2.2.1, h.2.2.2.2.2.1, h.2.2.2.2.2.2.1, h.2.2.2.2.2.2.2.drew⟩

/-- The marks, and the region's cell, in a world of the loop. -/
structure SPs (w wr : World) (u : Value) (T : Nat) : Prop where
  reg : wr.heap[w.heap.size]? = some (.cells #[u] 35 (0, 0))
  row : wr.heap[w.heap.size + 1]? = some (.cells (uRow T) 4 (0, 0))
  big : Below w.heap.size w wr
theorem SPs.below {w wr w1 : World} {u : Value} {T : Nat} (h : SPs w wr u T) (hb : Below wr.heap.size wr w1) : SPs w w1 u T := ⟨blk_below h.reg hb, blk_below h.row hb, h.big.trans (hb.mono h.big.size)⟩
theorem SPs.set {w wr : World} {u : Value} {T k : Nat} (h : SPs w wr u T) (hk : k ≤ 63) : SPs w (wr.setCell ⟨w.heap.size + 1, k, none⟩ (.bool true)) u (T ||| 2 ^ k) :=
  ⟨(Below.heap_setCell _ _ _ _ (by simp)).trans h.reg, by rw [← uRow_set T k hk]; exact blk_setCell h.row _, h.big.setCell (by show w.heap.size ≤ w.heap.size + 1; omega) _⟩

/-- The same, with the domino's two cells. -/
structure STl (w V : World) (n : Nat) (u : Value) (T x y x2 y2 : Nat) : Prop where
  s : SPs w V u T
  a : V.heap[n]? = some (.cells #[.int .i64 (x : Int), .int .i64 (y : Int)] 44 (0, 0))
  b : V.heap[n + 1]? = some (.cells #[.int .i64 (x2 : Int), .int .i64 (y2 : Int)] 44 (0, 0))
  hn : w.heap.size + 2 ≤ n
theorem STl.below {w V V1 : World} {n : Nat} {u : Value} {T x y x2 y2 : Nat} (h : STl w V n u T x y x2 y2) (hb : Below V.heap.size V V1) : STl w V1 n u T x y x2 y2 := ⟨h.s.below hb, blk_below h.a hb, blk_below h.b hb, h.hn⟩
theorem STl.set {w V : World} {n : Nat} {u : Value} {T x y x2 y2 k : Nat} (h : STl w V n u T x y x2 y2) (hk : k ≤ 63) : STl w (V.setCell ⟨w.heap.size + 1, k, none⟩ (.bool true)) n u (T ||| 2 ^ k) x y x2 y2 := by
  have hn := h.hn
  exact ⟨h.s.set hk, (Below.heap_setCell _ _ _ _ (by show n ≠ w.heap.size + 1; omega)).trans h.a, (Below.heap_setCell _ _ _ _ (by show n + 1 ≠ w.heap.size + 1; omega)).trans h.b, hn⟩
theorem STl.facts {w V : World} {n : Nat} {u : Value} {T x y x2 y2 : Nat} (h : STl w V n u T x y x2 y2) : V.cell? ⟨w.heap.size, 0, none⟩ = some u ∧ V.cell? ⟨n, 0, none⟩ = some (.int .i64 (x : Int)) ∧ V.cell? ⟨n, 1, none⟩ = some (.int .i64 (y : Int)) ∧
    V.cell? ⟨n + 1, 0, none⟩ = some (.int .i64 (x2 : Int)) ∧ V.cell? ⟨n + 1, 1, none⟩ = some (.int .i64 (y2 : Int)) ∧ Hid (∀ k, k ≤ 63 → V.cell? ⟨w.heap.size + 1, k, none⟩ = some (.bool (T.testBit k))) ∧ (∀ k, V.frozen? ⟨w.heap.size + 1, k, none⟩ = false) :=
  ⟨by rw [blk_cell h.s.reg]; rfl, by rw [blk_cell h.a]; rfl, by rw [blk_cell h.a]; rfl, by rw [blk_cell h.b]; rfl, by rw [blk_cell h.b]; rfl, fun k hk => by rw [blk_cell h.s.row, uRow_get T k hk], fun k => blk_free h.s.row⟩

set_option maxRecDepth 100000 in
set_option maxHeartbeats 4000000 in
theorem specIsPartial_yes (u v : Value) (zs : List Int) (ls : List Lk) (B : Nat) (w : World) (hu : RdI w B u zs) (h : RdF elDomino w B v ls) (hB : B ≤ w.heap.size) (hok : regOkB zs = true) :
    Calls Tryz.prog 24 #[.agg #[u], v] w fun e w' => e = .returned (.bool (sPartB (setZ zs) ls)) ∧ Below w.heap.size w w' := by
  have HU := Lib.hid hu
  have HOK := Lib.hid hok
  have HHC := Lib.hid (fun x y hx hy V hV hB' => HasCell_yes u zs B V hV hB' hok x y hx hy)
  obtain ⟨A0, c0, rfl, g10, g20, _⟩ := hu
  obtain ⟨A, c, rfl, g1, g2, G3⟩ := RdT.of (E := elDomino) rfl (fun _ => rfl) h
  unfold maxLen at g2 g20
  clear h
  obtain ⟨r, hr⟩ : ∃ r, sPartB (setZ zs) ls = r := ⟨_, rfl⟩
  have HR : Hid (upFrom (qAt (setZ zs) ls) 0 ls.length = r) := hr
  rw [hr]
  obtain ⟨R, hRR⟩ : ∃ R : Nat, R = setZ zs := ⟨_, rfl⟩
  rw [← hRR] at HR HHC
  clear hok hr hRR
  have hmk : ∀ w : World, (Instr.makeSlice 72 (.int .i64 64) (.int .i64 64)).run Tryz.prog w = .ok (.slice (some ⟨w.heap.size, 0, none⟩) 64 64) (w.alloc (.cells (uRow 0) 4)) :=
    fun w => by rw [← uRow_zero]; exact run_make_row' (P := Tryz.prog) 72 4 (.bool false) 1 Tryz.underlying72 infoBool64 rfl .i64 .i64 64 (by omega) (by omega) w
  obtain ⟨W, hW, k1, k2, hb⟩ := two_alloc w (.cells #[.slice A0 zs.length c0] 35) (.cells (uRow 0) 4)
  have HW := Lib.hid hW
  have HS0 : Hid (SPs w W (.slice A0 zs.length c0) 0) := ⟨k1, k2, hb⟩
  clear hW k1 k2 hb
  go_enter Tryz.func24, Tryz.ntmps24
  go_wp2_with fail
  rw [← HW.out]
  go_loopw [6] (fun i wr => ∃ (k : Nat), k ≤ ls.length ∧ i = .int .i64 k ∧ Hid (SPs w wr (.slice A0 zs.length c0) (covTo ls k)) ∧ Hid (upFrom (qAt R ls) k ls.length = r)) (fun i _ => ls.length - (intOf i).toNat)
  case atStart => exact ⟨0, Nat.zero_le _, rfl, HS0, HR⟩
  case round =>
    obtain ⟨k, hk, rfl, HS, HE⟩ := hrel
    by_cases hlt : k < ls.length
    · have ht : decide ((k : Int) < (ls.length : Int)) = true := by simp only [decide_eq_true_eq]; omega
      obtain ⟨ad, rfl, hbl, hx, hy, hz⟩ := G3.out k hlt
      have hbl2 : (ad.add (k * 3)).block < w.heap.size := by rw [addBlock]; omega
      have HT0 : Hid (ElT wr wr (ad.add (k * 3)) (lx ls k) (ly ls k) (ld ls k)) := ⟨(HS.out.big.cell (p := ad.add (k * 3)) hbl2).trans hx, (HS.out.big.cell (p := ⟨(ad.add (k * 3)).block, (ad.add (k * 3)).off + 1, none⟩) hbl2).trans hy, (HS.out.big.cell (p := ⟨(ad.add (k * 3)).block, (ad.add (k * 3)).off + 2, none⟩) hbl2).trans hz, Nat.le_refl _, Below.refl _ _⟩
      have LP : Hid ((ad.add (k * 3)).block < wr.heap.size) := by unfold Hid; have := HS.out.big.size; omega
      have HP := Lib.hid (upFrom_step (qAt R ls) k ls.length hlt)
      have HPA : Hid (qAt R ls k = (domB (lx ls k) (ly ls k) (ld ls k) && (decide (k = 0) || domLt (dAt ls (k - 1)) (lx ls k, ly ls k, ld ls k)) && (R.testBit (aI (lx ls k, ly ls k, ld ls k)) && R.testBit (bI (lx ls k, ly ls k, ld ls k)) && !(covTo ls k).testBit (aI (lx ls k, ly ls k, ld ls k)) && !(covTo ls k).testBit (bI (lx ls k, ly ls k, ld ls k))))) := rfl
      have HT : Hid (covTo ls (k + 1) = if domB (lx ls k) (ly ls k) (ld ls k) then covTo ls k ||| dM (lx ls k, ly ls k, ld ls k) else covTo ls k) := rfl
      generalize lx ls k = x at *
      generalize ly ls k = y at *
      generalize ld ls k = d at *
      clear hx hy hz
      have hk0 : (0 : Int) ≤ (k : Int) := by omega
      have hk1 : (k : Int) < (ls.length : Int) := by omega
      cases hd : domB x y d
      · have HF : Hid (false = r) := by unfold Hid; rw [← HE.out, HP.out, HPA.out, hd]; rfl
        have H1 := Lib.hid hd
        clear HPA HP HT hd
        go_wp2_with fail
        refine wp_region_held_drew (S := fun w' => ElT wr w' (ad.add (k * 3)) x y d) (by kernel_rfl) (by exact HT0.out.drew) (fun hHeld => ?_)
        refine wpAnyH_take (i := 0) (oi := ⟨_, _, _, _, _, _⟩) (v := ?vap3346q0) rfl (by kernel_rfl) (by kernel_rfl) (by kernel_rfl) (fun _ _ _ h => h) (Or.inl ⟨by rfl, ?hap3346q0⟩) (by assumption) ?_
        case hap3346q0 => (intro w hSw; (try dsimp only at hSw); go_simp; try with_reducible rfl)
        try simp only [Act.put, List.setIfInBounds_toArray, List.set_cons_zero, List.set_cons_succ]
        refine wpAnyH_take (i := 1) (oi := ⟨_, _, _, _, _, _⟩) (v := ?vap3346q1) rfl (by kernel_rfl) (by kernel_rfl) (by kernel_rfl) (fun _ _ _ h => h) (Or.inl ⟨by rfl, ?hap3346q1⟩) (by assumption) ?_
        case hap3346q1 => (intro w hSw; (try dsimp only at hSw); go_simp; try with_reducible rfl)
        try simp only [Act.put, List.setIfInBounds_toArray, List.set_cons_zero, List.set_cons_succ]
        refine wpAnyH_take (i := 2) (oi := ⟨_, _, _, _, _, _⟩) (v := ?vap3346q2) rfl (by kernel_rfl) (by kernel_rfl) (by kernel_rfl) (fun _ _ _ h => h) (Or.inl ⟨by rfl, ?hap3346q2⟩) (by assumption) ?_
        case hap3346q2 => (intro w hSw; (try dsimp only at hSw); go_simp; try with_reducible rfl)
        try simp only [Act.put, List.setIfInBounds_toArray, List.set_cons_zero, List.set_cons_succ]
        refine wpAnyH_take (i := 3) (oi := ⟨_, _, _, _, _, _⟩) (v := ?vap3346q3) rfl (by kernel_rfl) (by kernel_rfl) (by kernel_rfl) (fun _ _ _ h => h) (Or.inl ⟨by rfl, ?hap3346q3⟩) (by assumption) ?_
        case hap3346q3 => (intro w hSw; (try dsimp only at hSw); go_simp; try with_reducible rfl)
        try simp only [Act.put, List.setIfInBounds_toArray, List.set_cons_zero, List.set_cons_succ]
        refine wpAnyH_ready (rs := [4]) (by kernel_rfl) (by simp) ?_
        refine AllReadyH.cons (o := ⟨_, _, _, _, _, _⟩) rfl (fun K hK => ?_) AllReadyH.nil
        go_simp; go_at_call 43; refine (specDominoOk_any x y d _).mono ?_; rintro e w3 ⟨rfl, hb3⟩; rw [H1.out]
        refine hK.out _ _ (by first | exact ElT.keep hb3 LP.out (by assumption) | exact ElTT.keep hb3 LP.out LQ.out (by assumption)) (fun hHeld => ?_)
        clear hK K
        try simp only [Act.put, List.setIfInBounds_toArray, List.set_cons_zero, List.set_cons_succ]
        refine wpAnyH_take (i := 5) (oi := ⟨_, _, _, _, _, _⟩) (v := ?vap3346q5) rfl (by kernel_rfl) (by kernel_rfl) (by kernel_rfl) (fun _ _ _ h => h) (Or.inl ⟨by rfl, ?hap3346q5⟩) (by assumption) ?_
        case hap3346q5 => (intro w hSw; (try dsimp only at hSw); go_simp; try with_reducible rfl)
        try simp only [Act.put, List.setIfInBounds_toArray, List.set_cons_zero, List.set_cons_succ]
        refine wpAnyH_take (i := 6) (oi := ⟨_, _, _, _, _, _⟩) (v := ?vap3346q6) rfl (by kernel_rfl) (by kernel_rfl) (by kernel_rfl) (fun _ _ _ h => h) (Or.inl ⟨by rfl, ?hap3346q6⟩) (by assumption) ?_
        case hap3346q6 => (intro w hSw; (try dsimp only at hSw); go_simp; try with_reducible rfl)
        try simp only [Act.put, List.setIfInBounds_toArray, List.set_cons_zero, List.set_cons_succ]
        refine wpAnyH_take (i := 7) (oi := ⟨_, _, _, _, _, _⟩) (v := undef) rfl (by kernel_rfl) (by kernel_rfl) (by kernel_rfl) (fun _ _ _ h => h) (Or.inr ⟨by rfl, rfl⟩) (by assumption) ?_
        try simp only [Act.put, List.setIfInBounds_toArray, List.set_cons_zero, List.set_cons_succ]
        refine wpAnyH_take (i := 8) (oi := ⟨_, _, _, _, _, _⟩) (v := undef) rfl (by kernel_rfl) (by kernel_rfl) (by kernel_rfl) (fun _ _ _ h => h) (Or.inr ⟨by rfl, rfl⟩) (by assumption) ?_
        try simp only [Act.put, List.setIfInBounds_toArray, List.set_cons_zero, List.set_cons_succ]
        refine wpAnyH_take (i := 9) (oi := ⟨_, _, _, _, _, _⟩) (v := undef) rfl (by kernel_rfl) (by kernel_rfl) (by kernel_rfl) (fun _ _ _ h => h) (Or.inr ⟨by rfl, rfl⟩) (by assumption) ?_
        try simp only [Act.put, List.setIfInBounds_toArray, List.set_cons_zero, List.set_cons_succ]
        refine wpAnyH_take (i := 10) (oi := ⟨_, _, _, _, _, _⟩) (v := undef) rfl (by kernel_rfl) (by kernel_rfl) (by kernel_rfl) (fun _ _ _ h => h) (Or.inr ⟨by rfl, rfl⟩) (by assumption) ?_
        try simp only [Act.put, List.setIfInBounds_toArray, List.set_cons_zero, List.set_cons_succ]
        refine wpAnyH_take (i := 11) (oi := ⟨_, _, _, _, _, _⟩) (v := undef) rfl (by kernel_rfl) (by kernel_rfl) (by kernel_rfl) (fun _ _ _ h => h) (Or.inr ⟨by rfl, rfl⟩) (by assumption) ?_
        try simp only [Act.put, List.setIfInBounds_toArray, List.set_cons_zero, List.set_cons_succ]
        refine wpAnyH_take (i := 12) (oi := ⟨_, _, _, _, _, _⟩) (v := undef) rfl (by kernel_rfl) (by kernel_rfl) (by kernel_rfl) (fun _ _ _ h => h) (Or.inr ⟨by rfl, rfl⟩) (by assumption) ?_
        try simp only [Act.put, List.setIfInBounds_toArray, List.set_cons_zero, List.set_cons_succ]
        refine wpAnyH_take (i := 13) (oi := ⟨_, _, _, _, _, _⟩) (v := undef) rfl (by kernel_rfl) (by kernel_rfl) (by kernel_rfl) (fun _ _ _ h => h) (Or.inr ⟨by rfl, rfl⟩) (by assumption) ?_
        try simp only [Act.put, List.setIfInBounds_toArray, List.set_cons_zero, List.set_cons_succ]
        refine wpAnyH_take (i := 14) (oi := ⟨_, _, _, _, _, _⟩) (v := undef) rfl (by kernel_rfl) (by kernel_rfl) (by kernel_rfl) (fun _ _ _ h => h) (Or.inr ⟨by rfl, rfl⟩) (by assumption) ?_
        try simp only [Act.put, List.setIfInBounds_toArray, List.set_cons_zero, List.set_cons_succ]
        refine wpAnyH_take (i := 15) (oi := ⟨_, _, _, _, _, _⟩) (v := undef) rfl (by kernel_rfl) (by kernel_rfl) (by kernel_rfl) (fun _ _ _ h => h) (Or.inr ⟨by rfl, rfl⟩) (by assumption) ?_
        try simp only [Act.put, List.setIfInBounds_toArray, List.set_cons_zero, List.set_cons_succ]
        refine wpAnyH_take (i := 16) (oi := ⟨_, _, _, _, _, _⟩) (v := undef) rfl (by kernel_rfl) (by kernel_rfl) (by kernel_rfl) (fun _ _ _ h => h) (Or.inr ⟨by rfl, rfl⟩) (by assumption) ?_
        try simp only [Act.put, List.setIfInBounds_toArray, List.set_cons_zero, List.set_cons_succ]
        refine wpAnyH_take (i := 17) (oi := ⟨_, _, _, _, _, _⟩) (v := undef) rfl (by kernel_rfl) (by kernel_rfl) (by kernel_rfl) (fun _ _ _ h => h) (Or.inr ⟨by rfl, rfl⟩) (by assumption) ?_
        try simp only [Act.put, List.setIfInBounds_toArray, List.set_cons_zero, List.set_cons_succ]
        refine wpAnyH_take (i := 18) (oi := ⟨_, _, _, _, _, _⟩) (v := undef) rfl (by kernel_rfl) (by kernel_rfl) (by kernel_rfl) (fun _ _ _ h => h) (Or.inr ⟨by rfl, rfl⟩) (by assumption) ?_
        try simp only [Act.put, List.setIfInBounds_toArray, List.set_cons_zero, List.set_cons_succ]
        refine wpAnyH_take (i := 19) (oi := ⟨_, _, _, _, _, _⟩) (v := undef) rfl (by kernel_rfl) (by kernel_rfl) (by kernel_rfl) (fun _ _ _ h => h) (Or.inr ⟨by rfl, rfl⟩) (by assumption) ?_
        try simp only [Act.put, List.setIfInBounds_toArray, List.set_cons_zero, List.set_cons_succ]
        refine wpAnyH_take (i := 20) (oi := ⟨_, _, _, _, _, _⟩) (v := undef) rfl (by kernel_rfl) (by kernel_rfl) (by kernel_rfl) (fun _ _ _ h => h) (Or.inr ⟨by rfl, rfl⟩) (by assumption) ?_
        try simp only [Act.put, List.setIfInBounds_toArray, List.set_cons_zero, List.set_cons_succ]
        refine wpAnyH_take (i := 21) (oi := ⟨_, _, _, _, _, _⟩) (v := undef) rfl (by kernel_rfl) (by kernel_rfl) (by kernel_rfl) (fun _ _ _ h => h) (Or.inr ⟨by rfl, rfl⟩) (by assumption) ?_
        try simp only [Act.put, List.setIfInBounds_toArray, List.set_cons_zero, List.set_cons_succ]
        refine wpAnyH_take (i := 22) (oi := ⟨_, _, _, _, _, _⟩) (v := ?vap3346q22) rfl (by kernel_rfl) (by kernel_rfl) (by kernel_rfl) (fun _ _ _ h => h) (Or.inl ⟨by rfl, ?hap3346q22⟩) (by assumption) ?_
        case hap3346q22 => (intro w hSw; (try dsimp only at hSw); go_simp; try with_reducible rfl)
        try simp only [Act.put, List.setIfInBounds_toArray, List.set_cons_zero, List.set_cons_succ]
        refine wpAnyH_done (by kernel_rfl) ?_ _
        have HB3 := Lib.hid (HS.out.big.trans ((show ElT wr _ (ad.add (k * 3)) x y d from by assumption).2.2.2.2.mono HS.out.big.size))
        go_wp2_with fail
        go_ret
        exact ⟨ret_bool HF.out, HB3.out⟩
      · have H1 := Lib.hid hd
        have hdd := (domB_iff _ _ _).1 hd
        obtain ⟨x, rfl⟩ := Int.eq_ofNat_of_zero_le hdd.1.1
        obtain ⟨y, rfl⟩ := Int.eq_ofNat_of_zero_le hdd.1.2
        obtain ⟨x2, y2, hx2, hy2, b1, b2, b3, b4, HAB⟩ : ∃ x2 y2 : Nat, sndX x d = (x2 : Int) ∧ sndY y d = (y2 : Int) ∧ x ≤ 7 ∧ y ≤ 7 ∧ x2 ≤ 7 ∧ y2 ≤ 7 ∧ Hid (aI ((x : Int), (y : Int), d) = cix x y ∧ bI ((x : Int), (y : Int), d) = cix x2 y2) := by
          cases d
          · simp at hdd
            refine ⟨x + 1, y, ?_, rfl, by omega, by omega, by omega, by omega, ?_⟩
            · have : wrap64 ((x : Int) + 1) = (x : Int) + 1 := IntWalk.wrap64_in _ (by omega)
              simp [sndX, this]
            · unfold Hid aI bI; simp
          · simp at hdd
            refine ⟨x, y + 1, rfl, ?_, by omega, by omega, by omega, by omega, ?_⟩
            · have : wrap64 ((y : Int) + 1) = (y : Int) + 1 := IntWalk.wrap64_in _ (by omega)
              simp [sndY, this]
            · unfold Hid aI bI; simp
        have HX2 := Lib.hid hx2; have HY2 := Lib.hid hy2
        have HM := Lib.hid (dM_ab ((x : Int), (y : Int), d))
        rw [HAB.out.1, HAB.out.2] at HPA HM
        rw [hd, if_pos rfl, HM.out] at HT
        clear hdd hx2 hy2 HAB HM
        rcases Nat.eq_zero_or_pos k with hk0' | hk0'
        · have t0 : decide (0 < k) = false := by simp; omega
          have HPB : Hid (qAt R ls k = (R.testBit (cix x y) && R.testBit (cix x2 y2) && !(covTo ls k).testBit (cix x y) && !(covTo ls k).testBit (cix x2 y2))) := by unfold Hid; rw [HPA.out, hd, hk0']; rfl
          clear HPA hd hk0'
          go_wp2_with fail
          refine wp_region_held_drew (S := fun w' => ElT wr w' (ad.add (k * 3)) x y d) (by kernel_rfl) (by exact HT0.out.drew) (fun hHeld => ?_)
          refine wpAnyH_take (i := 0) (oi := ⟨_, _, _, _, _, _⟩) (v := ?vap3347q0) rfl (by kernel_rfl) (by kernel_rfl) (by kernel_rfl) (fun _ _ _ h => h) (Or.inl ⟨by rfl, ?hap3347q0⟩) (by assumption) ?_
          case hap3347q0 => (intro w hSw; (try dsimp only at hSw); go_simp; try with_reducible rfl)
          try simp only [Act.put, List.setIfInBounds_toArray, List.set_cons_zero, List.set_cons_succ]
          refine wpAnyH_take (i := 1) (oi := ⟨_, _, _, _, _, _⟩) (v := ?vap3347q1) rfl (by kernel_rfl) (by kernel_rfl) (by kernel_rfl) (fun _ _ _ h => h) (Or.inl ⟨by rfl, ?hap3347q1⟩) (by assumption) ?_
          case hap3347q1 => (intro w hSw; (try dsimp only at hSw); go_simp; try with_reducible rfl)
          try simp only [Act.put, List.setIfInBounds_toArray, List.set_cons_zero, List.set_cons_succ]
          refine wpAnyH_take (i := 2) (oi := ⟨_, _, _, _, _, _⟩) (v := ?vap3347q2) rfl (by kernel_rfl) (by kernel_rfl) (by kernel_rfl) (fun _ _ _ h => h) (Or.inl ⟨by rfl, ?hap3347q2⟩) (by assumption) ?_
          case hap3347q2 => (intro w hSw; (try dsimp only at hSw); go_simp; try with_reducible rfl)
          try simp only [Act.put, List.setIfInBounds_toArray, List.set_cons_zero, List.set_cons_succ]
          refine wpAnyH_take (i := 3) (oi := ⟨_, _, _, _, _, _⟩) (v := ?vap3347q3) rfl (by kernel_rfl) (by kernel_rfl) (by kernel_rfl) (fun _ _ _ h => h) (Or.inl ⟨by rfl, ?hap3347q3⟩) (by assumption) ?_
          case hap3347q3 => (intro w hSw; (try dsimp only at hSw); go_simp; try with_reducible rfl)
          try simp only [Act.put, List.setIfInBounds_toArray, List.set_cons_zero, List.set_cons_succ]
          refine wpAnyH_ready (rs := [4]) (by kernel_rfl) (by simp) ?_
          refine AllReadyH.cons (o := ⟨_, _, _, _, _, _⟩) rfl (fun K hK => ?_) AllReadyH.nil
          go_simp; go_at_call 43; refine (specDominoOk_any x y d _).mono ?_; rintro e w3 ⟨rfl, hb3⟩; rw [H1.out]
          refine hK.out _ _ (by first | exact ElT.keep hb3 LP.out (by assumption) | exact ElTT.keep hb3 LP.out LQ.out (by assumption)) (fun hHeld => ?_)
          clear hK K
          try simp only [Act.put, List.setIfInBounds_toArray, List.set_cons_zero, List.set_cons_succ]
          refine wpAnyH_take (i := 5) (oi := ⟨_, _, _, _, _, _⟩) (v := ?vap3347q5) rfl (by kernel_rfl) (by kernel_rfl) (by kernel_rfl) (fun _ _ _ h => h) (Or.inl ⟨by rfl, ?hap3347q5⟩) (by assumption) ?_
          case hap3347q5 => (intro w hSw; (try dsimp only at hSw); go_simp; try with_reducible rfl)
          try simp only [Act.put, List.setIfInBounds_toArray, List.set_cons_zero, List.set_cons_succ]
          refine wpAnyH_take (i := 6) (oi := ⟨_, _, _, _, _, _⟩) (v := ?vap3347q6) rfl (by kernel_rfl) (by kernel_rfl) (by kernel_rfl) (fun _ _ _ h => h) (Or.inl ⟨by rfl, ?hap3347q6⟩) (by assumption) ?_
          case hap3347q6 => (intro w hSw; (try dsimp only at hSw); go_simp; try with_reducible rfl)
          try simp only [Act.put, List.setIfInBounds_toArray, List.set_cons_zero, List.set_cons_succ]
          refine wpAnyH_take (i := 7) (oi := ⟨_, _, _, _, _, _⟩) (v := ?vap3347q7) rfl (by kernel_rfl) (by kernel_rfl) (by kernel_rfl) (fun _ _ _ h => h) (Or.inl ⟨by rfl, ?hap3347q7⟩) (by assumption) ?_
          case hap3347q7 => (intro w hSw; (try dsimp only at hSw); go_simp; try with_reducible rfl)
          try simp only [Act.put, List.setIfInBounds_toArray, List.set_cons_zero, List.set_cons_succ]
          refine wpAnyH_take (i := 8) (oi := ⟨_, _, _, _, _, _⟩) (v := ?vap3347q8) rfl (by kernel_rfl) (by kernel_rfl) (by kernel_rfl) (fun _ _ _ h => h) (Or.inl ⟨by rfl, ?hap3347q8⟩) (by assumption) ?_
          case hap3347q8 => (intro w hSw; (try dsimp only at hSw); go_simp; try with_reducible rfl)
          try simp only [Act.put, List.setIfInBounds_toArray, List.set_cons_zero, List.set_cons_succ]
          refine wpAnyH_take (i := 9) (oi := ⟨_, _, _, _, _, _⟩) (v := ?vap3347q9) rfl (by kernel_rfl) (by kernel_rfl) (by kernel_rfl) (fun _ _ _ h => h) (Or.inl ⟨by rfl, ?hap3347q9⟩) (by assumption) ?_
          case hap3347q9 => (intro w hSw; (try dsimp only at hSw); go_simp; try with_reducible rfl)
          try simp only [Act.put, List.setIfInBounds_toArray, List.set_cons_zero, List.set_cons_succ]
          refine wpAnyH_take (i := 10) (oi := ⟨_, _, _, _, _, _⟩) (v := undef) rfl (by kernel_rfl) (by kernel_rfl) (by kernel_rfl) (fun _ _ _ h => h) (Or.inr ⟨by rfl, rfl⟩) (by assumption) ?_
          try simp only [Act.put, List.setIfInBounds_toArray, List.set_cons_zero, List.set_cons_succ]
          refine wpAnyH_take (i := 11) (oi := ⟨_, _, _, _, _, _⟩) (v := undef) rfl (by kernel_rfl) (by kernel_rfl) (by kernel_rfl) (fun _ _ _ h => h) (Or.inr ⟨by rfl, rfl⟩) (by assumption) ?_
          try simp only [Act.put, List.setIfInBounds_toArray, List.set_cons_zero, List.set_cons_succ]
          refine wpAnyH_take (i := 12) (oi := ⟨_, _, _, _, _, _⟩) (v := undef) rfl (by kernel_rfl) (by kernel_rfl) (by kernel_rfl) (fun _ _ _ h => h) (Or.inr ⟨by rfl, rfl⟩) (by assumption) ?_
          try simp only [Act.put, List.setIfInBounds_toArray, List.set_cons_zero, List.set_cons_succ]
          refine wpAnyH_take (i := 13) (oi := ⟨_, _, _, _, _, _⟩) (v := undef) rfl (by kernel_rfl) (by kernel_rfl) (by kernel_rfl) (fun _ _ _ h => h) (Or.inr ⟨by rfl, rfl⟩) (by assumption) ?_
          try simp only [Act.put, List.setIfInBounds_toArray, List.set_cons_zero, List.set_cons_succ]
          refine wpAnyH_take (i := 14) (oi := ⟨_, _, _, _, _, _⟩) (v := undef) rfl (by kernel_rfl) (by kernel_rfl) (by kernel_rfl) (fun _ _ _ h => h) (Or.inr ⟨by rfl, rfl⟩) (by assumption) ?_
          try simp only [Act.put, List.setIfInBounds_toArray, List.set_cons_zero, List.set_cons_succ]
          refine wpAnyH_take (i := 15) (oi := ⟨_, _, _, _, _, _⟩) (v := undef) rfl (by kernel_rfl) (by kernel_rfl) (by kernel_rfl) (fun _ _ _ h => h) (Or.inr ⟨by rfl, rfl⟩) (by assumption) ?_
          try simp only [Act.put, List.setIfInBounds_toArray, List.set_cons_zero, List.set_cons_succ]
          refine wpAnyH_take (i := 16) (oi := ⟨_, _, _, _, _, _⟩) (v := undef) rfl (by kernel_rfl) (by kernel_rfl) (by kernel_rfl) (fun _ _ _ h => h) (Or.inr ⟨by rfl, rfl⟩) (by assumption) ?_
          try simp only [Act.put, List.setIfInBounds_toArray, List.set_cons_zero, List.set_cons_succ]
          refine wpAnyH_take (i := 17) (oi := ⟨_, _, _, _, _, _⟩) (v := undef) rfl (by kernel_rfl) (by kernel_rfl) (by kernel_rfl) (fun _ _ _ h => h) (Or.inr ⟨by rfl, rfl⟩) (by assumption) ?_
          try simp only [Act.put, List.setIfInBounds_toArray, List.set_cons_zero, List.set_cons_succ]
          refine wpAnyH_take (i := 18) (oi := ⟨_, _, _, _, _, _⟩) (v := undef) rfl (by kernel_rfl) (by kernel_rfl) (by kernel_rfl) (fun _ _ _ h => h) (Or.inr ⟨by rfl, rfl⟩) (by assumption) ?_
          try simp only [Act.put, List.setIfInBounds_toArray, List.set_cons_zero, List.set_cons_succ]
          refine wpAnyH_take (i := 19) (oi := ⟨_, _, _, _, _, _⟩) (v := undef) rfl (by kernel_rfl) (by kernel_rfl) (by kernel_rfl) (fun _ _ _ h => h) (Or.inr ⟨by rfl, rfl⟩) (by assumption) ?_
          try simp only [Act.put, List.setIfInBounds_toArray, List.set_cons_zero, List.set_cons_succ]
          refine wpAnyH_take (i := 20) (oi := ⟨_, _, _, _, _, _⟩) (v := undef) rfl (by kernel_rfl) (by kernel_rfl) (by kernel_rfl) (fun _ _ _ h => h) (Or.inr ⟨by rfl, rfl⟩) (by assumption) ?_
          try simp only [Act.put, List.setIfInBounds_toArray, List.set_cons_zero, List.set_cons_succ]
          refine wpAnyH_take (i := 21) (oi := ⟨_, _, _, _, _, _⟩) (v := ?vap3347q21) rfl (by kernel_rfl) (by kernel_rfl) (by kernel_rfl) (fun _ _ _ h => h) (Or.inl ⟨by rfl, ?hap3347q21⟩) (by assumption) ?_
          case hap3347q21 => (intro w hSw; (try dsimp only at hSw); go_simp; try with_reducible rfl)
          try simp only [Act.put, List.setIfInBounds_toArray, List.set_cons_zero, List.set_cons_succ]
          refine wpAnyH_take (i := 22) (oi := ⟨_, _, _, _, _, _⟩) (v := ?vap3347q22) rfl (by kernel_rfl) (by kernel_rfl) (by kernel_rfl) (fun _ _ _ h => h) (Or.inl ⟨by rfl, ?hap3347q22⟩) (by assumption) ?_
          case hap3347q22 => (intro w hSw; (try dsimp only at hSw); go_simp; try with_reducible rfl)
          try simp only [Act.put, List.setIfInBounds_toArray, List.set_cons_zero, List.set_cons_succ]
          refine wpAnyH_done (by kernel_rfl) ?_ _
          have hTT := (show ElT wr _ (ad.add (k * 3)) x y d from by assumption)
          have HS3 := Lib.hid (HS.out.below hTT.2.2.2.2)
          obtain ⟨m0, m1, m2, _⟩ := hTT
          go_wp2_with fail
          refine (CellsUnder_yes x y d _ H1.out).mono ?_
          rintro e w5 ⟨rfl, hb5⟩
          have HS5 := Lib.hid (HS3.out.below hb5)
          rw [HX2.out, HY2.out]
          clear hb5
          go_upto_region 8 with (fail)
          obtain ⟨X, hX, kx, ky, hbx⟩ := two_alloc w5 (.cells #[.int .i64 (x : Int), .int .i64 (y : Int)] 44) (.cells #[.int .i64 (x2 : Int), .int .i64 (y2 : Int)] 44)
          rw [← hX]
          have HX0 : Hid (STl w X w5.heap.size (.slice A0 zs.length c0) (covTo ls k) x y x2 y2) := ⟨HS5.out.below hbx, kx, ky, by have h1 := lt_of_block HS5.out.row; omega⟩
          clear hX kx ky hbx m0 m1 m2
          obtain ⟨T, HTT⟩ : ∃ T, Hid (covTo ls k = T) := ⟨_, rfl⟩
          rw [HTT.out] at HX0 HPB HT
          obtain ⟨p, HPP⟩ : ∃ p, Hid (cix x y = p) := ⟨_, rfl⟩
          obtain ⟨q, HQQ⟩ : ∃ q, Hid (cix x2 y2 = q) := ⟨_, rfl⟩
          have hp63 : p ≤ 63 := by rw [← HPP.out]; unfold cix; omega
          have hq63 : q ≤ 63 := by rw [← HQQ.out]; unfold cix; omega
          have HHA : Hid (∀ V, RdI V B (.slice A0 zs.length c0) zs → B ≤ V.heap.size → Calls Tryz.prog 46 #[.agg #[.slice A0 zs.length c0], spotV (x : Int) (y : Int)] V fun e w' => e = .returned (.bool (R.testBit p)) ∧ Below V.heap.size V w') := fun V h1 h2 => by rw [← HPP.out]; exact HHC.out x y b1 b2 V h1 h2
          have HHB : Hid (∀ V, RdI V B (.slice A0 zs.length c0) zs → B ≤ V.heap.size → Calls Tryz.prog 46 #[.agg #[.slice A0 zs.length c0], spotV (x2 : Int) (y2 : Int)] V fun e w' => e = .returned (.bool (R.testBit q)) ∧ Below V.heap.size V w') := fun V h1 h2 => by rw [← HQQ.out]; exact HHC.out x2 y2 b3 b4 V h1 h2
          have HCA : Hid (∀ V, Calls Tryz.prog 47 #[spotV (x : Int) (y : Int)] V fun e w' => e = .returned (.int .i64 (p : Int)) ∧ Below V.heap.size V w') := fun V => by rw [← HPP.out]; exact specCellIndex_yes x y b1 b2 V
          have HCB : Hid (∀ V, Calls Tryz.prog 47 #[spotV (x2 : Int) (y2 : Int)] V fun e w' => e = .returned (.int .i64 (q : Int)) ∧ Below V.heap.size V w') := fun V => by rw [← HQQ.out]; exact specCellIndex_yes x2 y2 b3 b4 V
          rw [HPP.out, HQQ.out] at HPB HT
          have hpi : (p : Int) < 64 := by omega
          have hqi : (q : Int) < 64 := by omega
          obtain ⟨c1, a0, a1, b0', b1', _, _⟩ := HX0.out.facts
          go_wp2_with fail
          refine (HHA.out _ (HU.out.below (HX0.out.s.big.mono hB)) (Nat.le_trans hB HX0.out.s.big.size)).mono ?_
          rintro e w6 ⟨rfl, hb6⟩
          have HX6 := Lib.hid (HX0.out.below hb6)
          clear hb6 c1 a0 a1 b0' b1'
          cases i1 : R.testBit p
          · have HF : Hid (false = r) := by unfold Hid; rw [← HE.out, HP.out, HPB.out, i1]; rfl
            go_wp2_with fail
            go_ret
            exact ⟨ret_bool HF.out, HX6.out.s.big⟩
          obtain ⟨c1, a0, a1, b0', b1', _, _⟩ := HX6.out.facts
          go_wp2_with fail
          refine (HHB.out _ (HU.out.below (HX6.out.s.big.mono hB)) (Nat.le_trans hB HX6.out.s.big.size)).mono ?_
          rintro e w7 ⟨rfl, hb7⟩
          have HX7 := Lib.hid (HX6.out.below hb7)
          clear hb7 c1 a0 a1 b0' b1'
          cases i2 : R.testBit q
          · have HF : Hid (false = r) := by unfold Hid; rw [← HE.out, HP.out, HPB.out, i1, i2]; rfl
            go_wp2_with fail
            go_ret
            exact ⟨ret_bool HF.out, HX7.out.s.big⟩
          obtain ⟨c1, a0, a1, b0', b1', _, _⟩ := HX7.out.facts
          go_wp2_with fail
          refine (HCA.out _).mono ?_
          rintro e w8 ⟨rfl, hb8⟩
          have HX8 := Lib.hid (HX7.out.below hb8)
          clear hb8 c1 a0 a1 b0' b1'
          obtain ⟨c1, a0, a1, b0', b1', HU8, _⟩ := HX8.out.facts
          have u8 := HU8.out p hp63
          cases i3 : T.testBit p
          case true =>
            rw [i3] at u8
            have HF : Hid (false = r) := by unfold Hid; rw [← HE.out, HP.out, HPB.out, i1, i2, i3]; rfl
            go_wp2_with fail
            go_ret
            exact ⟨ret_bool HF.out, HX8.out.s.big⟩
          rw [i3] at u8
          go_wp2_with fail
          refine (HCB.out _).mono ?_
          rintro e w9 ⟨rfl, hb9⟩
          have HX9 := Lib.hid (HX8.out.below hb9)
          clear hb9 c1 a0 a1 b0' b1' u8 HU8
          obtain ⟨c1, a0, a1, b0', b1', HU9, _⟩ := HX9.out.facts
          have u9 := HU9.out q hq63
          cases i4 : T.testBit q
          case true =>
            rw [i4] at u9
            have HF : Hid (false = r) := by unfold Hid; rw [← HE.out, HP.out, HPB.out, i1, i2, i3, i4]; rfl
            go_wp2_with fail
            go_ret
            exact ⟨ret_bool HF.out, HX9.out.s.big⟩
          rw [i4] at u9
          have HEE : Hid (upFrom (qAt R ls) (k + 1) ls.length = r) := by unfold Hid; rw [← HE.out, HP.out, HPB.out, i1, i2, i3, i4]; rfl
          clear HE HP HPB i1 i2 i3 i4
          go_wp2_with fail
          refine (HCA.out _).mono ?_
          rintro e w10 ⟨rfl, hb10⟩
          have HX10 := Lib.hid (HX9.out.below hb10)
          clear hb10 c1 a0 a1 b0' b1' u9 HU9
          obtain ⟨c1, a0, a1, b0', b1', HU10, f10⟩ := HX10.out.facts
          have u10 := HU10.out p hp63
          have HX11 := Lib.hid (HX10.out.set hp63)
          obtain ⟨c1', a0', a1', b0'', b1'', HU11, f11⟩ := HX11.out.facts
          go_upto_region 11 with (fail)
          generalize w10.setCell ⟨w.heap.size + 1, p, none⟩ (.bool true) = w11 at *
          clear c1 a0 a1 b0' b1' u10 HU10 f10
          go_wp2_with fail
          refine (HCB.out _).mono ?_
          rintro e w12 ⟨rfl, hb12⟩
          have HX12 := Lib.hid (HX11.out.below hb12)
          clear hb12 c1' a0' a1' b0'' b1'' HU11 f11
          obtain ⟨_, _, _, _, _, HU12, f12⟩ := HX12.out.facts
          have u12 := HU12.out q hq63
          have HX13 := Lib.hid (HX12.out.set hq63)
          rw [Nat.or_assoc, ← HT.out] at HX13
          go_wp2_with fail
          go_roundw
          case rel => exact ⟨k + 1, by omega, by go_num, HX13.out.s, HEE⟩
          case measure => simp [intOf]; omega
        · have t0 : decide (0 < k) = true := by simp; omega
          obtain ⟨ad2, he2, _, px, py, pz⟩ := G3.out (k - 1) (by omega)
          obtain rfl := Option.some.inj he2
          have hblq : (ad.add ((k - 1) * 3)).block < w.heap.size := by rw [addBlock]; omega
          have LQ : Hid ((ad.add ((k - 1) * 3)).block < wr.heap.size) := by unfold Hid; have := HS.out.big.size; omega
          have HT1 : Hid (ElTT wr wr (ad.add (k * 3)) x y d (ad.add ((k - 1) * 3)) (lx ls (k - 1)) (ly ls (k - 1)) (ld ls (k - 1))) :=
            ⟨HT0.out.1, HT0.out.2.1, HT0.out.2.2.1, (HS.out.big.cell hblq).trans px, (HS.out.big.cell (p := ⟨(ad.add ((k - 1) * 3)).block, (ad.add ((k - 1) * 3)).off + 1, none⟩) hblq).trans py, (HS.out.big.cell (p := ⟨(ad.add ((k - 1) * 3)).block, (ad.add ((k - 1) * 3)).off + 2, none⟩) hblq).trans pz, Nat.le_refl _, Below.refl _ _⟩
          have HPQ : Hid (dAt ls (k - 1) = (lx ls (k - 1), ly ls (k - 1), ld ls (k - 1))) := rfl
          rw [HPQ.out] at HPA
          clear px py pz HPQ he2
          generalize lx ls (k - 1) = x' at *
          generalize ly ls (k - 1) = y' at *
          generalize ld ls (k - 1) = d' at *
          have hkz : ((k : Int) - 1).toNat = k - 1 := by omega
          have hkw : IntKind.i64.wrap ((k : Int) - 1) = (k : Int) - 1 := IntWalk.i64_in _ (by omega)
          have hk2 : (0 : Int) ≤ (k : Int) - 1 := by omega
          have hk4 : (1 : Int) ≤ (k : Int) := by omega
          have hk5 : 1 ≤ k := by omega
          have hk3 : (k : Int) - 1 < (ls.length : Int) := by omega
          have hd0 : decide (k = 0) = false := by simp; omega
          cases hb4 : domLt (x', y', d') (x, y, d)
          · have HB4 := Lib.hid hb4
            have HF : Hid (false = r) := by unfold Hid; rw [← HE.out, HP.out, HPA.out, hd, hd0, hb4]; rfl
            clear HPA HP hd hk0' HE hb4 hd0
            go_wp2_with fail
            refine wp_region_held_drew (S := fun w' => ElTT wr w' (ad.add (k * 3)) x y d (ad.add ((k - 1) * 3)) x' y' d') (by kernel_rfl) (by exact HT1.out.drew) (fun hHeld => ?_)
            refine wpAnyH_take (i := 0) (oi := ⟨_, _, _, _, _, _⟩) (v := ?vap3348q0) rfl (by kernel_rfl) (by kernel_rfl) (by kernel_rfl) (fun _ _ _ h => h) (Or.inl ⟨by rfl, ?hap3348q0⟩) (by assumption) ?_
            case hap3348q0 => (intro w hSw; (try dsimp only at hSw); go_simp; try with_reducible rfl)
            try simp only [Act.put, List.setIfInBounds_toArray, List.set_cons_zero, List.set_cons_succ]
            refine wpAnyH_take (i := 1) (oi := ⟨_, _, _, _, _, _⟩) (v := ?vap3348q1) rfl (by kernel_rfl) (by kernel_rfl) (by kernel_rfl) (fun _ _ _ h => h) (Or.inl ⟨by rfl, ?hap3348q1⟩) (by assumption) ?_
            case hap3348q1 => (intro w hSw; (try dsimp only at hSw); go_simp; try with_reducible rfl)
            try simp only [Act.put, List.setIfInBounds_toArray, List.set_cons_zero, List.set_cons_succ]
            refine wpAnyH_take (i := 2) (oi := ⟨_, _, _, _, _, _⟩) (v := ?vap3348q2) rfl (by kernel_rfl) (by kernel_rfl) (by kernel_rfl) (fun _ _ _ h => h) (Or.inl ⟨by rfl, ?hap3348q2⟩) (by assumption) ?_
            case hap3348q2 => (intro w hSw; (try dsimp only at hSw); go_simp; try with_reducible rfl)
            try simp only [Act.put, List.setIfInBounds_toArray, List.set_cons_zero, List.set_cons_succ]
            refine wpAnyH_take (i := 3) (oi := ⟨_, _, _, _, _, _⟩) (v := ?vap3348q3) rfl (by kernel_rfl) (by kernel_rfl) (by kernel_rfl) (fun _ _ _ h => h) (Or.inl ⟨by rfl, ?hap3348q3⟩) (by assumption) ?_
            case hap3348q3 => (intro w hSw; (try dsimp only at hSw); go_simp; try with_reducible rfl)
            try simp only [Act.put, List.setIfInBounds_toArray, List.set_cons_zero, List.set_cons_succ]
            refine wpAnyH_ready (rs := [4]) (by kernel_rfl) (by simp) ?_
            refine AllReadyH.cons (o := ⟨_, _, _, _, _, _⟩) rfl (fun K hK => ?_) AllReadyH.nil
            go_simp; go_at_call 43; refine (specDominoOk_any x y d _).mono ?_; rintro e w3 ⟨rfl, hb3⟩; rw [H1.out]
            refine hK.out _ _ (by first | exact ElT.keep hb3 LP.out (by assumption) | exact ElTT.keep hb3 LP.out LQ.out (by assumption)) (fun hHeld => ?_)
            clear hK K
            try simp only [Act.put, List.setIfInBounds_toArray, List.set_cons_zero, List.set_cons_succ]
            refine wpAnyH_take (i := 5) (oi := ⟨_, _, _, _, _, _⟩) (v := ?vap3348q5) rfl (by kernel_rfl) (by kernel_rfl) (by kernel_rfl) (fun _ _ _ h => h) (Or.inl ⟨by rfl, ?hap3348q5⟩) (by assumption) ?_
            case hap3348q5 => (intro w hSw; (try dsimp only at hSw); go_simp; try with_reducible rfl)
            try simp only [Act.put, List.setIfInBounds_toArray, List.set_cons_zero, List.set_cons_succ]
            refine wpAnyH_take (i := 6) (oi := ⟨_, _, _, _, _, _⟩) (v := ?vap3348q6) rfl (by kernel_rfl) (by kernel_rfl) (by kernel_rfl) (fun _ _ _ h => h) (Or.inl ⟨by rfl, ?hap3348q6⟩) (by assumption) ?_
            case hap3348q6 => (intro w hSw; (try dsimp only at hSw); go_simp; try with_reducible rfl)
            try simp only [Act.put, List.setIfInBounds_toArray, List.set_cons_zero, List.set_cons_succ]
            refine wpAnyH_take (i := 7) (oi := ⟨_, _, _, _, _, _⟩) (v := ?vap3348q7) rfl (by kernel_rfl) (by kernel_rfl) (by kernel_rfl) (fun _ _ _ h => h) (Or.inl ⟨by rfl, ?hap3348q7⟩) (by assumption) ?_
            case hap3348q7 => (intro w hSw; (try dsimp only at hSw); go_simp; try with_reducible rfl)
            try simp only [Act.put, List.setIfInBounds_toArray, List.set_cons_zero, List.set_cons_succ]
            refine wpAnyH_take (i := 8) (oi := ⟨_, _, _, _, _, _⟩) (v := ?vap3348q8) rfl (by kernel_rfl) (by kernel_rfl) (by kernel_rfl) (fun _ _ _ h => h) (Or.inl ⟨by rfl, ?hap3348q8⟩) (by assumption) ?_
            case hap3348q8 => (intro w hSw; (try dsimp only at hSw); go_simp; try with_reducible rfl)
            try simp only [Act.put, List.setIfInBounds_toArray, List.set_cons_zero, List.set_cons_succ]
            refine wpAnyH_take (i := 9) (oi := ⟨_, _, _, _, _, _⟩) (v := ?vap3348q9) rfl (by kernel_rfl) (by kernel_rfl) (by kernel_rfl) (fun _ _ _ h => h) (Or.inl ⟨by rfl, ?hap3348q9⟩) (by assumption) ?_
            case hap3348q9 => (intro w hSw; (try dsimp only at hSw); go_simp; try with_reducible rfl)
            try simp only [Act.put, List.setIfInBounds_toArray, List.set_cons_zero, List.set_cons_succ]
            refine wpAnyH_take (i := 10) (oi := ⟨_, _, _, _, _, _⟩) (v := ?vap3348q10) rfl (by kernel_rfl) (by kernel_rfl) (by kernel_rfl) (fun _ _ _ h => h) (Or.inl ⟨by rfl, ?hap3348q10⟩) (by assumption) ?_
            case hap3348q10 => (intro w hSw; (try dsimp only at hSw); go_simp; try with_reducible rfl)
            try simp only [Act.put, List.setIfInBounds_toArray, List.set_cons_zero, List.set_cons_succ]
            refine wpAnyH_take (i := 11) (oi := ⟨_, _, _, _, _, _⟩) (v := ?vap3348q11) rfl (by kernel_rfl) (by kernel_rfl) (by kernel_rfl) (fun _ _ _ h => h) (Or.inl ⟨by rfl, ?hap3348q11⟩) (by assumption) ?_
            case hap3348q11 => (intro w hSw; (try dsimp only at hSw); go_simp; try with_reducible rfl)
            try simp only [Act.put, List.setIfInBounds_toArray, List.set_cons_zero, List.set_cons_succ]
            refine wpAnyH_take (i := 12) (oi := ⟨_, _, _, _, _, _⟩) (v := ?vap3348q12) rfl (by kernel_rfl) (by kernel_rfl) (by kernel_rfl) (fun _ _ _ h => h) (Or.inl ⟨by rfl, ?hap3348q12⟩) (by assumption) ?_
            case hap3348q12 => (intro w hSw; (try dsimp only at hSw); go_simp; try with_reducible rfl)
            try simp only [Act.put, List.setIfInBounds_toArray, List.set_cons_zero, List.set_cons_succ]
            refine wpAnyH_take (i := 13) (oi := ⟨_, _, _, _, _, _⟩) (v := ?vap3348q13) rfl (by kernel_rfl) (by kernel_rfl) (by kernel_rfl) (fun _ _ _ h => h) (Or.inl ⟨by rfl, ?hap3348q13⟩) (by assumption) ?_
            case hap3348q13 => (intro w hSw; (try dsimp only at hSw); go_simp; try with_reducible rfl)
            try simp only [Act.put, List.setIfInBounds_toArray, List.set_cons_zero, List.set_cons_succ]
            refine wpAnyH_take (i := 14) (oi := ⟨_, _, _, _, _, _⟩) (v := ?vap3348q14) rfl (by kernel_rfl) (by kernel_rfl) (by kernel_rfl) (fun _ _ _ h => h) (Or.inl ⟨by rfl, ?hap3348q14⟩) (by assumption) ?_
            case hap3348q14 => (intro w hSw; (try dsimp only at hSw); go_simp; try with_reducible rfl)
            try simp only [Act.put, List.setIfInBounds_toArray, List.set_cons_zero, List.set_cons_succ]
            refine wpAnyH_take (i := 15) (oi := ⟨_, _, _, _, _, _⟩) (v := ?vap3348q15) rfl (by kernel_rfl) (by kernel_rfl) (by kernel_rfl) (fun _ _ _ h => h) (Or.inl ⟨by rfl, ?hap3348q15⟩) (by assumption) ?_
            case hap3348q15 => (intro w hSw; (try dsimp only at hSw); go_simp; try with_reducible rfl)
            try simp only [Act.put, List.setIfInBounds_toArray, List.set_cons_zero, List.set_cons_succ]
            refine wpAnyH_take (i := 16) (oi := ⟨_, _, _, _, _, _⟩) (v := ?vap3348q16) rfl (by kernel_rfl) (by kernel_rfl) (by kernel_rfl) (fun _ _ _ h => h) (Or.inl ⟨by rfl, ?hap3348q16⟩) (by assumption) ?_
            case hap3348q16 => (intro w hSw; (try dsimp only at hSw); go_simp; try with_reducible rfl)
            try simp only [Act.put, List.setIfInBounds_toArray, List.set_cons_zero, List.set_cons_succ]
            refine wpAnyH_take (i := 17) (oi := ⟨_, _, _, _, _, _⟩) (v := ?vap3348q17) rfl (by kernel_rfl) (by kernel_rfl) (by kernel_rfl) (fun _ _ _ h => h) (Or.inl ⟨by rfl, ?hap3348q17⟩) (by assumption) ?_
            case hap3348q17 => (intro w hSw; (try dsimp only at hSw); go_simp; try with_reducible rfl)
            try simp only [Act.put, List.setIfInBounds_toArray, List.set_cons_zero, List.set_cons_succ]
            refine wpAnyH_take (i := 18) (oi := ⟨_, _, _, _, _, _⟩) (v := ?vap3348q18) rfl (by kernel_rfl) (by kernel_rfl) (by kernel_rfl) (fun _ _ _ h => h) (Or.inl ⟨by rfl, ?hap3348q18⟩) (by assumption) ?_
            case hap3348q18 => (intro w hSw; (try dsimp only at hSw); go_simp; try with_reducible rfl)
            try simp only [Act.put, List.setIfInBounds_toArray, List.set_cons_zero, List.set_cons_succ]
            refine wpAnyH_ready (rs := [19]) (by kernel_rfl) (by simp) ?_
            refine AllReadyH.cons (o := ⟨_, _, _, _, _, _⟩) rfl (fun K hK => ?_) AllReadyH.nil
            go_simp; go_at_call 44; refine (specBefore_any x' y' d' x y d _).mono ?_; rintro e w3 ⟨rfl, hb3⟩; rw [HB4.out]
            refine hK.out _ _ (by first | exact ElT.keep hb3 LP.out (by assumption) | exact ElTT.keep hb3 LP.out LQ.out (by assumption)) (fun hHeld => ?_)
            clear hK K
            try simp only [Act.put, List.setIfInBounds_toArray, List.set_cons_zero, List.set_cons_succ]
            refine wpAnyH_take (i := 20) (oi := ⟨_, _, _, _, _, _⟩) (v := ?vap3348q20) rfl (by kernel_rfl) (by kernel_rfl) (by kernel_rfl) (fun _ _ _ h => h) (Or.inl ⟨by rfl, ?hap3348q20⟩) (by assumption) ?_
            case hap3348q20 => (intro w hSw; (try dsimp only at hSw); go_simp; try with_reducible rfl)
            try simp only [Act.put, List.setIfInBounds_toArray, List.set_cons_zero, List.set_cons_succ]
            refine wpAnyH_take (i := 21) (oi := ⟨_, _, _, _, _, _⟩) (v := ?vap3348q21) rfl (by kernel_rfl) (by kernel_rfl) (by kernel_rfl) (fun _ _ _ h => h) (Or.inl ⟨by rfl, ?hap3348q21⟩) (by assumption) ?_
            case hap3348q21 => (intro w hSw; (try dsimp only at hSw); go_simp; try with_reducible rfl)
            try simp only [Act.put, List.setIfInBounds_toArray, List.set_cons_zero, List.set_cons_succ]
            refine wpAnyH_take (i := 22) (oi := ⟨_, _, _, _, _, _⟩) (v := ?vap3348q22) rfl (by kernel_rfl) (by kernel_rfl) (by kernel_rfl) (fun _ _ _ h => h) (Or.inl ⟨by rfl, ?hap3348q22⟩) (by assumption) ?_
            case hap3348q22 => (intro w hSw; (try dsimp only at hSw); go_simp; try with_reducible rfl)
            try simp only [Act.put, List.setIfInBounds_toArray, List.set_cons_zero, List.set_cons_succ]
            refine wpAnyH_done (by kernel_rfl) ?_ _
            have HB3 := Lib.hid (HS.out.big.trans ((show ElTT wr _ (ad.add (k * 3)) x y d (ad.add ((k - 1) * 3)) x' y' d' from by assumption).2.2.2.2.2.2.2.mono HS.out.big.size))
            go_wp2_with fail
            go_ret
            exact ⟨ret_bool HF.out, HB3.out⟩
          · have HB4 := Lib.hid hb4
            have HPB : Hid (qAt R ls k = (R.testBit (cix x y) && R.testBit (cix x2 y2) && !(covTo ls k).testBit (cix x y) && !(covTo ls k).testBit (cix x2 y2))) := by unfold Hid; rw [HPA.out, hd, hd0, hb4]; rfl
            clear HPA hd hk0' hb4 hd0
            go_wp2_with fail
            refine wp_region_held_drew (S := fun w' => ElTT wr w' (ad.add (k * 3)) x y d (ad.add ((k - 1) * 3)) x' y' d') (by kernel_rfl) (by exact HT1.out.drew) (fun hHeld => ?_)
            refine wpAnyH_take (i := 0) (oi := ⟨_, _, _, _, _, _⟩) (v := ?vap3349q0) rfl (by kernel_rfl) (by kernel_rfl) (by kernel_rfl) (fun _ _ _ h => h) (Or.inl ⟨by rfl, ?hap3349q0⟩) (by assumption) ?_
            case hap3349q0 => (intro w hSw; (try dsimp only at hSw); go_simp; try with_reducible rfl)
            try simp only [Act.put, List.setIfInBounds_toArray, List.set_cons_zero, List.set_cons_succ]
            refine wpAnyH_take (i := 1) (oi := ⟨_, _, _, _, _, _⟩) (v := ?vap3349q1) rfl (by kernel_rfl) (by kernel_rfl) (by kernel_rfl) (fun _ _ _ h => h) (Or.inl ⟨by rfl, ?hap3349q1⟩) (by assumption) ?_
            case hap3349q1 => (intro w hSw; (try dsimp only at hSw); go_simp; try with_reducible rfl)
            try simp only [Act.put, List.setIfInBounds_toArray, List.set_cons_zero, List.set_cons_succ]
            refine wpAnyH_take (i := 2) (oi := ⟨_, _, _, _, _, _⟩) (v := ?vap3349q2) rfl (by kernel_rfl) (by kernel_rfl) (by kernel_rfl) (fun _ _ _ h => h) (Or.inl ⟨by rfl, ?hap3349q2⟩) (by assumption) ?_
            case hap3349q2 => (intro w hSw; (try dsimp only at hSw); go_simp; try with_reducible rfl)
            try simp only [Act.put, List.setIfInBounds_toArray, List.set_cons_zero, List.set_cons_succ]
            refine wpAnyH_take (i := 3) (oi := ⟨_, _, _, _, _, _⟩) (v := ?vap3349q3) rfl (by kernel_rfl) (by kernel_rfl) (by kernel_rfl) (fun _ _ _ h => h) (Or.inl ⟨by rfl, ?hap3349q3⟩) (by assumption) ?_
            case hap3349q3 => (intro w hSw; (try dsimp only at hSw); go_simp; try with_reducible rfl)
            try simp only [Act.put, List.setIfInBounds_toArray, List.set_cons_zero, List.set_cons_succ]
            refine wpAnyH_ready (rs := [4]) (by kernel_rfl) (by simp) ?_
            refine AllReadyH.cons (o := ⟨_, _, _, _, _, _⟩) rfl (fun K hK => ?_) AllReadyH.nil
            go_simp; go_at_call 43; refine (specDominoOk_any x y d _).mono ?_; rintro e w3 ⟨rfl, hb3⟩; rw [H1.out]
            refine hK.out _ _ (by first | exact ElT.keep hb3 LP.out (by assumption) | exact ElTT.keep hb3 LP.out LQ.out (by assumption)) (fun hHeld => ?_)
            clear hK K
            try simp only [Act.put, List.setIfInBounds_toArray, List.set_cons_zero, List.set_cons_succ]
            refine wpAnyH_take (i := 5) (oi := ⟨_, _, _, _, _, _⟩) (v := ?vap3349q5) rfl (by kernel_rfl) (by kernel_rfl) (by kernel_rfl) (fun _ _ _ h => h) (Or.inl ⟨by rfl, ?hap3349q5⟩) (by assumption) ?_
            case hap3349q5 => (intro w hSw; (try dsimp only at hSw); go_simp; try with_reducible rfl)
            try simp only [Act.put, List.setIfInBounds_toArray, List.set_cons_zero, List.set_cons_succ]
            refine wpAnyH_take (i := 6) (oi := ⟨_, _, _, _, _, _⟩) (v := ?vap3349q6) rfl (by kernel_rfl) (by kernel_rfl) (by kernel_rfl) (fun _ _ _ h => h) (Or.inl ⟨by rfl, ?hap3349q6⟩) (by assumption) ?_
            case hap3349q6 => (intro w hSw; (try dsimp only at hSw); go_simp; try with_reducible rfl)
            try simp only [Act.put, List.setIfInBounds_toArray, List.set_cons_zero, List.set_cons_succ]
            refine wpAnyH_take (i := 7) (oi := ⟨_, _, _, _, _, _⟩) (v := ?vap3349q7) rfl (by kernel_rfl) (by kernel_rfl) (by kernel_rfl) (fun _ _ _ h => h) (Or.inl ⟨by rfl, ?hap3349q7⟩) (by assumption) ?_
            case hap3349q7 => (intro w hSw; (try dsimp only at hSw); go_simp; try with_reducible rfl)
            try simp only [Act.put, List.setIfInBounds_toArray, List.set_cons_zero, List.set_cons_succ]
            refine wpAnyH_take (i := 8) (oi := ⟨_, _, _, _, _, _⟩) (v := ?vap3349q8) rfl (by kernel_rfl) (by kernel_rfl) (by kernel_rfl) (fun _ _ _ h => h) (Or.inl ⟨by rfl, ?hap3349q8⟩) (by assumption) ?_
            case hap3349q8 => (intro w hSw; (try dsimp only at hSw); go_simp; try with_reducible rfl)
            try simp only [Act.put, List.setIfInBounds_toArray, List.set_cons_zero, List.set_cons_succ]
            refine wpAnyH_take (i := 9) (oi := ⟨_, _, _, _, _, _⟩) (v := ?vap3349q9) rfl (by kernel_rfl) (by kernel_rfl) (by kernel_rfl) (fun _ _ _ h => h) (Or.inl ⟨by rfl, ?hap3349q9⟩) (by assumption) ?_
            case hap3349q9 => (intro w hSw; (try dsimp only at hSw); go_simp; try with_reducible rfl)
            try simp only [Act.put, List.setIfInBounds_toArray, List.set_cons_zero, List.set_cons_succ]
            refine wpAnyH_take (i := 10) (oi := ⟨_, _, _, _, _, _⟩) (v := ?vap3349q10) rfl (by kernel_rfl) (by kernel_rfl) (by kernel_rfl) (fun _ _ _ h => h) (Or.inl ⟨by rfl, ?hap3349q10⟩) (by assumption) ?_
            case hap3349q10 => (intro w hSw; (try dsimp only at hSw); go_simp; try with_reducible rfl)
            try simp only [Act.put, List.setIfInBounds_toArray, List.set_cons_zero, List.set_cons_succ]
            refine wpAnyH_take (i := 11) (oi := ⟨_, _, _, _, _, _⟩) (v := ?vap3349q11) rfl (by kernel_rfl) (by kernel_rfl) (by kernel_rfl) (fun _ _ _ h => h) (Or.inl ⟨by rfl, ?hap3349q11⟩) (by assumption) ?_
            case hap3349q11 => (intro w hSw; (try dsimp only at hSw); go_simp; try with_reducible rfl)
            try simp only [Act.put, List.setIfInBounds_toArray, List.set_cons_zero, List.set_cons_succ]
            refine wpAnyH_take (i := 12) (oi := ⟨_, _, _, _, _, _⟩) (v := ?vap3349q12) rfl (by kernel_rfl) (by kernel_rfl) (by kernel_rfl) (fun _ _ _ h => h) (Or.inl ⟨by rfl, ?hap3349q12⟩) (by assumption) ?_
            case hap3349q12 => (intro w hSw; (try dsimp only at hSw); go_simp; try with_reducible rfl)
            try simp only [Act.put, List.setIfInBounds_toArray, List.set_cons_zero, List.set_cons_succ]
            refine wpAnyH_take (i := 13) (oi := ⟨_, _, _, _, _, _⟩) (v := ?vap3349q13) rfl (by kernel_rfl) (by kernel_rfl) (by kernel_rfl) (fun _ _ _ h => h) (Or.inl ⟨by rfl, ?hap3349q13⟩) (by assumption) ?_
            case hap3349q13 => (intro w hSw; (try dsimp only at hSw); go_simp; try with_reducible rfl)
            try simp only [Act.put, List.setIfInBounds_toArray, List.set_cons_zero, List.set_cons_succ]
            refine wpAnyH_take (i := 14) (oi := ⟨_, _, _, _, _, _⟩) (v := ?vap3349q14) rfl (by kernel_rfl) (by kernel_rfl) (by kernel_rfl) (fun _ _ _ h => h) (Or.inl ⟨by rfl, ?hap3349q14⟩) (by assumption) ?_
            case hap3349q14 => (intro w hSw; (try dsimp only at hSw); go_simp; try with_reducible rfl)
            try simp only [Act.put, List.setIfInBounds_toArray, List.set_cons_zero, List.set_cons_succ]
            refine wpAnyH_take (i := 15) (oi := ⟨_, _, _, _, _, _⟩) (v := ?vap3349q15) rfl (by kernel_rfl) (by kernel_rfl) (by kernel_rfl) (fun _ _ _ h => h) (Or.inl ⟨by rfl, ?hap3349q15⟩) (by assumption) ?_
            case hap3349q15 => (intro w hSw; (try dsimp only at hSw); go_simp; try with_reducible rfl)
            try simp only [Act.put, List.setIfInBounds_toArray, List.set_cons_zero, List.set_cons_succ]
            refine wpAnyH_take (i := 16) (oi := ⟨_, _, _, _, _, _⟩) (v := ?vap3349q16) rfl (by kernel_rfl) (by kernel_rfl) (by kernel_rfl) (fun _ _ _ h => h) (Or.inl ⟨by rfl, ?hap3349q16⟩) (by assumption) ?_
            case hap3349q16 => (intro w hSw; (try dsimp only at hSw); go_simp; try with_reducible rfl)
            try simp only [Act.put, List.setIfInBounds_toArray, List.set_cons_zero, List.set_cons_succ]
            refine wpAnyH_take (i := 17) (oi := ⟨_, _, _, _, _, _⟩) (v := ?vap3349q17) rfl (by kernel_rfl) (by kernel_rfl) (by kernel_rfl) (fun _ _ _ h => h) (Or.inl ⟨by rfl, ?hap3349q17⟩) (by assumption) ?_
            case hap3349q17 => (intro w hSw; (try dsimp only at hSw); go_simp; try with_reducible rfl)
            try simp only [Act.put, List.setIfInBounds_toArray, List.set_cons_zero, List.set_cons_succ]
            refine wpAnyH_take (i := 18) (oi := ⟨_, _, _, _, _, _⟩) (v := ?vap3349q18) rfl (by kernel_rfl) (by kernel_rfl) (by kernel_rfl) (fun _ _ _ h => h) (Or.inl ⟨by rfl, ?hap3349q18⟩) (by assumption) ?_
            case hap3349q18 => (intro w hSw; (try dsimp only at hSw); go_simp; try with_reducible rfl)
            try simp only [Act.put, List.setIfInBounds_toArray, List.set_cons_zero, List.set_cons_succ]
            refine wpAnyH_ready (rs := [19]) (by kernel_rfl) (by simp) ?_
            refine AllReadyH.cons (o := ⟨_, _, _, _, _, _⟩) rfl (fun K hK => ?_) AllReadyH.nil
            go_simp; go_at_call 44; refine (specBefore_any x' y' d' x y d _).mono ?_; rintro e w3 ⟨rfl, hb3⟩; rw [HB4.out]
            refine hK.out _ _ (by first | exact ElT.keep hb3 LP.out (by assumption) | exact ElTT.keep hb3 LP.out LQ.out (by assumption)) (fun hHeld => ?_)
            clear hK K
            try simp only [Act.put, List.setIfInBounds_toArray, List.set_cons_zero, List.set_cons_succ]
            refine wpAnyH_take (i := 20) (oi := ⟨_, _, _, _, _, _⟩) (v := ?vap3349q20) rfl (by kernel_rfl) (by kernel_rfl) (by kernel_rfl) (fun _ _ _ h => h) (Or.inl ⟨by rfl, ?hap3349q20⟩) (by assumption) ?_
            case hap3349q20 => (intro w hSw; (try dsimp only at hSw); go_simp; try with_reducible rfl)
            try simp only [Act.put, List.setIfInBounds_toArray, List.set_cons_zero, List.set_cons_succ]
            refine wpAnyH_take (i := 21) (oi := ⟨_, _, _, _, _, _⟩) (v := ?vap3349q21) rfl (by kernel_rfl) (by kernel_rfl) (by kernel_rfl) (fun _ _ _ h => h) (Or.inl ⟨by rfl, ?hap3349q21⟩) (by assumption) ?_
            case hap3349q21 => (intro w hSw; (try dsimp only at hSw); go_simp; try with_reducible rfl)
            try simp only [Act.put, List.setIfInBounds_toArray, List.set_cons_zero, List.set_cons_succ]
            refine wpAnyH_take (i := 22) (oi := ⟨_, _, _, _, _, _⟩) (v := ?vap3349q22) rfl (by kernel_rfl) (by kernel_rfl) (by kernel_rfl) (fun _ _ _ h => h) (Or.inl ⟨by rfl, ?hap3349q22⟩) (by assumption) ?_
            case hap3349q22 => (intro w hSw; (try dsimp only at hSw); go_simp; try with_reducible rfl)
            try simp only [Act.put, List.setIfInBounds_toArray, List.set_cons_zero, List.set_cons_succ]
            refine wpAnyH_done (by kernel_rfl) ?_ _
            have hTT := (show ElTT wr _ (ad.add (k * 3)) x y d (ad.add ((k - 1) * 3)) x' y' d' from by assumption)
            have HS3 := Lib.hid (HS.out.below hTT.2.2.2.2.2.2.2)
            obtain ⟨m0, m1, m2, _⟩ := hTT
            go_wp2_with fail
            refine (CellsUnder_yes x y d _ H1.out).mono ?_
            rintro e w5 ⟨rfl, hb5⟩
            have HS5 := Lib.hid (HS3.out.below hb5)
            rw [HX2.out, HY2.out]
            clear hb5
            go_upto_region 8 with (fail)
            obtain ⟨X, hX, kx, ky, hbx⟩ := two_alloc w5 (.cells #[.int .i64 (x : Int), .int .i64 (y : Int)] 44) (.cells #[.int .i64 (x2 : Int), .int .i64 (y2 : Int)] 44)
            rw [← hX]
            have HX0 : Hid (STl w X w5.heap.size (.slice A0 zs.length c0) (covTo ls k) x y x2 y2) := ⟨HS5.out.below hbx, kx, ky, by have h1 := lt_of_block HS5.out.row; omega⟩
            clear hX kx ky hbx m0 m1 m2
            obtain ⟨T, HTT⟩ : ∃ T, Hid (covTo ls k = T) := ⟨_, rfl⟩
            rw [HTT.out] at HX0 HPB HT
            obtain ⟨p, HPP⟩ : ∃ p, Hid (cix x y = p) := ⟨_, rfl⟩
            obtain ⟨q, HQQ⟩ : ∃ q, Hid (cix x2 y2 = q) := ⟨_, rfl⟩
            have hp63 : p ≤ 63 := by rw [← HPP.out]; unfold cix; omega
            have hq63 : q ≤ 63 := by rw [← HQQ.out]; unfold cix; omega
            have HHA : Hid (∀ V, RdI V B (.slice A0 zs.length c0) zs → B ≤ V.heap.size → Calls Tryz.prog 46 #[.agg #[.slice A0 zs.length c0], spotV (x : Int) (y : Int)] V fun e w' => e = .returned (.bool (R.testBit p)) ∧ Below V.heap.size V w') := fun V h1 h2 => by rw [← HPP.out]; exact HHC.out x y b1 b2 V h1 h2
            have HHB : Hid (∀ V, RdI V B (.slice A0 zs.length c0) zs → B ≤ V.heap.size → Calls Tryz.prog 46 #[.agg #[.slice A0 zs.length c0], spotV (x2 : Int) (y2 : Int)] V fun e w' => e = .returned (.bool (R.testBit q)) ∧ Below V.heap.size V w') := fun V h1 h2 => by rw [← HQQ.out]; exact HHC.out x2 y2 b3 b4 V h1 h2
            have HCA : Hid (∀ V, Calls Tryz.prog 47 #[spotV (x : Int) (y : Int)] V fun e w' => e = .returned (.int .i64 (p : Int)) ∧ Below V.heap.size V w') := fun V => by rw [← HPP.out]; exact specCellIndex_yes x y b1 b2 V
            have HCB : Hid (∀ V, Calls Tryz.prog 47 #[spotV (x2 : Int) (y2 : Int)] V fun e w' => e = .returned (.int .i64 (q : Int)) ∧ Below V.heap.size V w') := fun V => by rw [← HQQ.out]; exact specCellIndex_yes x2 y2 b3 b4 V
            rw [HPP.out, HQQ.out] at HPB HT
            have hpi : (p : Int) < 64 := by omega
            have hqi : (q : Int) < 64 := by omega
            obtain ⟨c1, a0, a1, b0', b1', _, _⟩ := HX0.out.facts
            go_wp2_with fail
            refine (HHA.out _ (HU.out.below (HX0.out.s.big.mono hB)) (Nat.le_trans hB HX0.out.s.big.size)).mono ?_
            rintro e w6 ⟨rfl, hb6⟩
            have HX6 := Lib.hid (HX0.out.below hb6)
            clear hb6 c1 a0 a1 b0' b1'
            cases i1 : R.testBit p
            · have HF : Hid (false = r) := by unfold Hid; rw [← HE.out, HP.out, HPB.out, i1]; rfl
              go_wp2_with fail
              go_ret
              exact ⟨ret_bool HF.out, HX6.out.s.big⟩
            obtain ⟨c1, a0, a1, b0', b1', _, _⟩ := HX6.out.facts
            go_wp2_with fail
            refine (HHB.out _ (HU.out.below (HX6.out.s.big.mono hB)) (Nat.le_trans hB HX6.out.s.big.size)).mono ?_
            rintro e w7 ⟨rfl, hb7⟩
            have HX7 := Lib.hid (HX6.out.below hb7)
            clear hb7 c1 a0 a1 b0' b1'
            cases i2 : R.testBit q
            · have HF : Hid (false = r) := by unfold Hid; rw [← HE.out, HP.out, HPB.out, i1, i2]; rfl
              go_wp2_with fail
              go_ret
              exact ⟨ret_bool HF.out, HX7.out.s.big⟩
            obtain ⟨c1, a0, a1, b0', b1', _, _⟩ := HX7.out.facts
            go_wp2_with fail
            refine (HCA.out _).mono ?_
            rintro e w8 ⟨rfl, hb8⟩
            have HX8 := Lib.hid (HX7.out.below hb8)
            clear hb8 c1 a0 a1 b0' b1'
            obtain ⟨c1, a0, a1, b0', b1', HU8, _⟩ := HX8.out.facts
            have u8 := HU8.out p hp63
            cases i3 : T.testBit p
            case true =>
              rw [i3] at u8
              have HF : Hid (false = r) := by unfold Hid; rw [← HE.out, HP.out, HPB.out, i1, i2, i3]; rfl
              go_wp2_with fail
              go_ret
              exact ⟨ret_bool HF.out, HX8.out.s.big⟩
            rw [i3] at u8
            go_wp2_with fail
            refine (HCB.out _).mono ?_
            rintro e w9 ⟨rfl, hb9⟩
            have HX9 := Lib.hid (HX8.out.below hb9)
            clear hb9 c1 a0 a1 b0' b1' u8 HU8
            obtain ⟨c1, a0, a1, b0', b1', HU9, _⟩ := HX9.out.facts
            have u9 := HU9.out q hq63
            cases i4 : T.testBit q
            case true =>
              rw [i4] at u9
              have HF : Hid (false = r) := by unfold Hid; rw [← HE.out, HP.out, HPB.out, i1, i2, i3, i4]; rfl
              go_wp2_with fail
              go_ret
              exact ⟨ret_bool HF.out, HX9.out.s.big⟩
            rw [i4] at u9
            have HEE : Hid (upFrom (qAt R ls) (k + 1) ls.length = r) := by unfold Hid; rw [← HE.out, HP.out, HPB.out, i1, i2, i3, i4]; rfl
            clear HE HP HPB i1 i2 i3 i4
            go_wp2_with fail
            refine (HCA.out _).mono ?_
            rintro e w10 ⟨rfl, hb10⟩
            have HX10 := Lib.hid (HX9.out.below hb10)
            clear hb10 c1 a0 a1 b0' b1' u9 HU9
            obtain ⟨c1, a0, a1, b0', b1', HU10, f10⟩ := HX10.out.facts
            have u10 := HU10.out p hp63
            have HX11 := Lib.hid (HX10.out.set hp63)
            obtain ⟨c1', a0', a1', b0'', b1'', HU11, f11⟩ := HX11.out.facts
            go_upto_region 11 with (fail)
            generalize w10.setCell ⟨w.heap.size + 1, p, none⟩ (.bool true) = w11 at *
            clear c1 a0 a1 b0' b1' u10 HU10 f10
            go_wp2_with fail
            refine (HCB.out _).mono ?_
            rintro e w12 ⟨rfl, hb12⟩
            have HX12 := Lib.hid (HX11.out.below hb12)
            clear hb12 c1' a0' a1' b0'' b1'' HU11 f11
            obtain ⟨_, _, _, _, _, HU12, f12⟩ := HX12.out.facts
            have u12 := HU12.out q hq63
            have HX13 := Lib.hid (HX12.out.set hq63)
            rw [Nat.or_assoc, ← HT.out] at HX13
            go_wp2_with fail
            go_roundw
            case rel => exact ⟨k + 1, by omega, by go_num, HX13.out.s, HEE⟩
            case measure => simp [intOf]; omega
    · have ht : decide ((k : Int) < (ls.length : Int)) = false := by simp only [decide_eq_false_iff_not]; omega
      have HF : Hid (true = r) := by unfold Hid; rw [← HE.out, upFrom_end _ k _ (by omega)]
      have c1 := cell_of_one HS.out.reg
      go_wp2_with fail
      refine (specRegionOk_yes _ zs B _ (HU.out.below (HS.out.big.mono hB)) (Nat.le_trans hB HS.out.big.size) HOK.out).mono ?_
      rintro e w3 ⟨rfl, hb3⟩
      have HB3 := Lib.hid (HS.out.big.trans (hb3.mono HS.out.big.size))
      go_wp2_with fail
      go_ret
      exact ⟨ret_bool HF.out, HB3.out⟩
end Go.Proofs.YtehnbalbpfmijaaGreatDoor

namespace Go.Proofs.YtehnbalbpfmijaaGreatDoor
open Go.RowKit
set_option linter.unusedVariables false

theorem upFrom_eq {p q : Nat → Bool} {n : Nat} (h : ∀ k, k < n → (∀ j, j < k → p j = true) → p k = q k) : upFrom p 0 n = upFrom q 0 n := by
  rw [Bool.eq_iff_iff, upFrom_iff, upFrom_iff]
  constructor
  · intro hp j _ hj
    rw [← h j hj fun i hi => hp i (Nat.zero_le _) (by omega)]
    exact hp j (Nat.zero_le _) hj
  · intro hq
    have : ∀ j, j < n → p j = true := by
      intro j
      induction j using Nat.strongRecOn with
      | _ j ih =>
        intro hj
        rw [h j hj fun i hi => ih i hi (by omega)]
        exact hq j (Nat.zero_le _) hj
    exact fun j _ hj => this j hj
theorem ab_ne {l : Lk} (h : domL l = true) : aI l ≠ bI l ∧ aI l < 64 ∧ bI l < 64 := by
  obtain ⟨x, y, d⟩ := l
  have hd := (domB_iff _ _ _).1 h
  obtain ⟨a, rfl⟩ := Int.eq_ofNat_of_zero_le hd.1.1
  obtain ⟨b, rfl⟩ := Int.eq_ofNat_of_zero_le hd.1.2
  cases d <;> simp at hd <;> simp [aI, bI, cix] <;> omega
theorem lft_bit {R : Nat} (ls : List Lk) : ∀ k, (∀ j, j < k → domL (dAt ls j) = true) → ∀ i, i < 64 → (lftTo R ls k).testBit i = (R.testBit i && !(covTo ls k).testBit i)
  | 0, _, i, _ => by simp [lftTo, covTo]
  | k + 1, h, i, hi => by
    have ih := lft_bit (R := R) ls k (fun j hj => h j (by omega)) i hi
    have hd := h k (by omega)
    have hm := dM_lt hd
    have e : 18446744073709551615 - dM (dAt ls k) = 2 ^ 64 - (dM (dAt ls k) + 1) := by omega
    rw [lftTo, covTo, if_pos hd, Nat.testBit_and, ih, e, Nat.testBit_two_pow_sub_succ hm, Nat.testBit_or]
    cases R.testBit i <;> cases (covTo ls k).testBit i <;> cases (dM (dAt ls k)).testBit i <;> simp [hi]
theorem ab_bit (a b i : Nat) : (2 ^ a ||| 2 ^ b).testBit i = (decide (a = i) || decide (b = i)) := by rw [Nat.testBit_or, Nat.testBit_two_pow, Nat.testBit_two_pow]
theorem and_ab (L a b : Nat) : (L &&& (2 ^ a ||| 2 ^ b) == 2 ^ a ||| 2 ^ b) = (L.testBit a && L.testBit b) := by
  rw [Bool.eq_iff_iff, beq_iff_eq, Bool.and_eq_true]
  constructor
  · intro h
    constructor
    · have := congrArg (fun n => n.testBit a) h
      simp only [Nat.testBit_and, ab_bit] at this
      simpa using this
    · have := congrArg (fun n => n.testBit b) h
      simp only [Nat.testBit_and, ab_bit] at this
      simpa using this
  · rintro ⟨h1, h2⟩
    apply Nat.eq_of_testBit_eq
    intro i
    rw [Nat.testBit_and, ab_bit]
    by_cases e1 : a = i
    · subst e1; simp [h1]
    · by_cases e2 : b = i
      · subst e2; simp [h2]
      · simp [e1, e2]
theorem part_eq (R : Nat) (ls : List Lk) : partB R ls = sPartB R ls := by
  unfold partB sPartB
  refine upFrom_eq fun k hk hj => ?_
  have hdj : ∀ j, j < k → domL (dAt ls j) = true := fun j hjk => by
    have := hj j hjk
    simp only [pAt, Bool.and_eq_true] at this
    exact this.1.1
  unfold pAt qAt
  cases hd : domL (dAt ls k)
  · simp
  · obtain ⟨_, h1, h2⟩ := ab_ne hd
    rw [dM_ab, and_ab, lft_bit ls k hdj _ h1, lft_bit ls k hdj _ h2]
    cases R.testBit (aI (dAt ls k)) <;> cases R.testBit (bI (dAt ls k)) <;> cases (covTo ls k).testBit (aI (dAt ls k)) <;> cases (covTo ls k).testBit (bI (dAt ls k)) <;> simp
theorem cnt_or (T a : Nat) (h : T.testBit a = false) : ∀ n, cntB (T ||| 2 ^ a) n = cntB T n + (if a < n then 1 else 0)
  | 0 => by simp [cntB]
  | n + 1 => by
    have ih := cnt_or T a h n
    rw [cntB, cntB, ih, Nat.testBit_or, Nat.testBit_two_pow]
    by_cases e : a = n
    · subst e; simp [h]
    · have : (a < n + 1) = (a < n) := by rw [eq_iff_iff]; omega
      simp only [this, e, decide_false, Bool.or_false]
      omega
theorem cnt_mono {A B : Nat} (h : ∀ i, A.testBit i = true → B.testBit i = true) : ∀ n, cntB A n ≤ cntB B n ∧ (cntB A n = cntB B n → ∀ i, i < n → A.testBit i = B.testBit i)
  | 0 => ⟨Nat.le_refl _, fun _ i hi => by omega⟩
  | n + 1 => by
    obtain ⟨h1, h2⟩ := cnt_mono h n
    have hn := h n
    rw [cntB, cntB]
    cases ha : A.testBit n <;> cases hb : B.testBit n
    · refine ⟨by simpa using h1, fun e i hi => ?_⟩
      rcases Nat.lt_succ_iff_lt_or_eq.1 hi with hi | rfl
      · exact h2 (by simpa using e) i hi
      · rw [ha, hb]
    · exact ⟨by simp; omega, fun e => by simp at e; omega⟩
    · rw [ha, hb] at hn; simp at hn
    · refine ⟨by simp; omega, fun e i hi => ?_⟩
      rcases Nat.lt_succ_iff_lt_or_eq.1 hi with hi | rfl
      · exact h2 (by simpa using e) i hi
      · rw [ha, hb]
theorem cov_facts {R : Nat} {ls : List Lk} (h : sPartB R ls = true) : ∀ k, k ≤ ls.length → cntB (covTo ls k) 64 = 2 * k ∧ ∀ i, (covTo ls k).testBit i = true → R.testBit i = true
  | 0, _ => ⟨by simp only [covTo]; decide, fun i hi => by simp [covTo] at hi⟩
  | k + 1, hk => by
    obtain ⟨h1, h2⟩ := cov_facts h k (by omega)
    have hq := (upFrom_iff _ _ _).1 h k (Nat.zero_le _) (by omega)
    unfold qAt at hq
    simp only [Bool.and_eq_true, Bool.not_eq_true'] at hq
    obtain ⟨⟨hd, _⟩, ⟨⟨r1, r2⟩, c1⟩, c2⟩ := hq
    obtain ⟨hne, l1, l2⟩ := ab_ne hd
    rw [covTo, if_pos hd, dM_ab, ← Nat.or_assoc]
    have c2' : (covTo ls k ||| 2 ^ aI (dAt ls k)).testBit (bI (dAt ls k)) = false := by rw [Nat.testBit_or, c2, Nat.testBit_two_pow]; simp [hne]
    refine ⟨?_, fun i hi => ?_⟩
    · rw [cnt_or _ _ c2', cnt_or _ _ c1, h1, if_pos l1, if_pos l2]; omega
    · rw [Nat.testBit_or, Nat.testBit_or, Nat.testBit_two_pow, Nat.testBit_two_pow] at hi
      simp only [Bool.or_eq_true, decide_eq_true_eq] at hi
      rcases hi with (hi | hi) | hi
      · exact h2 i hi
      · rw [← hi]; exact r1
      · rw [← hi]; exact r2
theorem part_len {R : Nat} {ls : List Lk} (h : sPartB R ls = true) : ls.length ≤ 32 := by
  have h1 := (cov_facts h ls.length (Nat.le_refl _)).1
  have h2 := cntB_le (covTo ls ls.length) 64
  omega
def sTileB (R : Nat) (ls : List Lk) : Bool := sPartB R ls && decide (2 * ls.length = cntB R 64)
theorem tile_eq {R : Nat} (hR : R < 18446744073709551616) (ls : List Lk) : tileB R ls = sTileB R ls := by
  unfold tileB sTileB
  rw [part_eq]
  cases h : sPartB R ls
  · rfl
  · obtain ⟨h1, h2⟩ := cov_facts h ls.length (Nat.le_refl _)
    rw [Bool.true_and, Bool.true_and, Bool.eq_iff_iff, beq_iff_eq, decide_eq_true_eq]
    constructor
    · intro e; rw [e] at h1; omega
    · intro e
      apply Nat.eq_of_testBit_eq
      intro i
      by_cases hi : i < 64
      · exact (cnt_mono h2 64).2 (by omega) i hi
      · have hc := covTo_lt ls ls.length
        rw [Nat.testBit_lt_two_pow (Nat.lt_of_lt_of_le hc (Nat.pow_le_pow_right (n := 2) (i := 64) (by omega) (by omega))), Nat.testBit_lt_two_pow (Nat.lt_of_lt_of_le hR (Nat.pow_le_pow_right (n := 2) (i := 64) (by omega) (by omega)))]

set_option maxRecDepth 100000 in
theorem specIsTiling_yes (u v : Value) (zs : List Int) (ls : List Lk) (B : Nat) (w : World) (hu : RdI w B u zs) (h : RdF elDomino w B v ls) (hB : B ≤ w.heap.size) (hok : regOkB zs = true) :
    Calls Tryz.prog 11 #[.agg #[u], v] w fun e w' => e = .returned (.bool (sTileB (setZ zs) ls)) ∧ Below w.heap.size w w' := by
  have HU := Lib.hid hu
  have HV := Lib.hid h
  have HOK := Lib.hid hok
  have HPL := Lib.hid (fun h => part_len (R := setZ zs) (ls := ls) h)
  have HPI := Lib.hid (fun V a b c => specIsPartial_yes u v zs ls B V a b c hok)
  have HCC := Lib.hid (fun V a c => CountCells_yes u zs B V a c hok)
  have HCL := Lib.hid (cntB_le (setZ zs) 64)
  obtain ⟨A0, c0, rfl, g10, g20, _⟩ := hu
  obtain ⟨A, c, rfl, g1, g2, _⟩ := RdT.of (E := elDomino) rfl (fun _ => rfl) h
  unfold maxLen at g2 g20
  clear h hok
  obtain ⟨W, hW, k1, hb⟩ := one_alloc w (.cells #[.slice A0 zs.length c0] 35)
  have c1 : W.cell? ⟨w.heap.size, 0, none⟩ = some (.slice A0 zs.length c0) := by rw [blk_cell k1]; rfl
  have HW := Lib.hid hW
  have HB := Lib.hid hb
  have K1 := Lib.hid k1
  clear hW k1 hb
  go_enter Tryz.func11, Tryz.ntmps11
  go_upto_region 1 with (fail)
  rw [← HW.out]
  go_wp2_with fail
  refine (HPI.out _ (HU.out.below (HB.out.mono hB)) (HV.out.below (HB.out.mono hB)) (Nat.le_trans hB HB.out.size)).mono ?_
  rintro e w3 ⟨rfl, hb3⟩
  have HB3 := Lib.hid (HB.out.trans (hb3.mono HB.out.size))
  have c3 : w3.cell? ⟨w.heap.size, 0, none⟩ = some (.slice A0 zs.length c0) := by rw [blk_cell (blk_below K1.out hb3)]; rfl
  clear hb3 c1
  cases hp : sPartB (setZ zs) ls
  · have HF : Hid (false = sTileB (setZ zs) ls) := by unfold Hid sTileB; rw [hp]; rfl
    go_wp2_with fail
    go_ret
    exact ⟨ret_bool HF.out, HB3.out⟩
  · have hl := HPL.out hp
    have HF : Hid (decide (2 * ls.length = cntB (setZ zs) 64) = sTileB (setZ zs) ls) := by unfold Hid sTileB; rw [hp]; rfl
    have hcl := HCL.out
    clear HPI HPL
    generalize cntB (setZ zs) 64 = q at *
    have e2 : IntKind.i64.wrap (2 * (ls.length : Int)) = 2 * (ls.length : Int) := IntWalk.i64_in _ (by omega)
    go_wp2_with fail
    refine (HCC.out _ (HU.out.below (HB3.out.mono hB)) (Nat.le_trans hB HB3.out.size)).mono ?_
    rintro e w4 ⟨rfl, hb4⟩
    have HB4 := Lib.hid (HB3.out.trans (hb4.mono HB3.out.size))
    have HT : Hid ((2 * (ls.length : Int) == (q : Int)) = decide (2 * ls.length = q)) := by unfold Hid; rw [Bool.eq_iff_iff, beq_iff_eq, decide_eq_true_eq]; omega
    go_wp2_with fail
    go_ret
    exact ⟨ret_bool (HT.out.trans HF.out), HB4.out⟩
end Go.Proofs.YtehnbalbpfmijaaGreatDoor

namespace Go.Proofs.YtehnbalbpfmijaaGreatDoor
open Go.RowKit
set_option linter.unusedVariables false

/-- Line k is not crossed by a domino. -/
def okD (down : Bool) (k : Nat) (l : Lk) : Bool := if l.2.2 == down then true else if down then l.1 != (k : Int) - 1 else l.2.1 != (k : Int) - 1
def freeTo (down : Bool) (k : Nat) (ls : List Lk) : Nat → Bool
  | 0 => true
  | i + 1 => freeTo down k ls i && okD down k (dAt ls i)
def fltTo (down : Bool) (ls : List Lk) : Nat → List Int
  | 0 => []
  | k + 1 => fltTo down ls k ++ (if freeTo down (k + 1) ls ls.length then [((k + 1 : Nat) : Int)] else [])
theorem fltTo_len (down : Bool) (ls : List Lk) : ∀ k, (fltTo down ls k).length ≤ k
  | 0 => by simp [fltTo]
  | k + 1 => by have := fltTo_len down ls k; rw [fltTo]; split <;> simp <;> omega
def fltB (a b : Int) (ls : List Lk) : Bool := inB a 1 8 && inB b 1 8 && sTileB (setZ (rectZ a.toNat b.toNat)) ls
def fltZ (a b m : Int) (down : Bool) (ls : List Lk) : List Int := if fltB a b ls then fltTo down ls (m.toNat - 1) else []

end Go.Proofs.YtehnbalbpfmijaaGreatDoor

namespace Go.Proofs.YtehnbalbpfmijaaGreatDoor
open Go.RowKit
set_option linter.unusedVariables false

/-- A cell, turned (t) or mirrored. -/
def mapC (t : Bool) (s x y : Int) : Int × Int := if t then (s - 1 - y, x) else (s - 1 - x, y)
def movL (t : Bool) (s : Int) (l : Lk) : Lk :=
  overL (mapC t s l.1 l.2.1).1 (mapC t s l.1 l.2.1).2 (mapC t s (sndX l.1 l.2.2) (sndY l.2.1 l.2.2)).1 (mapC t s (sndX l.1 l.2.2) (sndY l.2.1 l.2.2)).2
def movTo (t : Bool) (s : Int) (ls : List Lk) : Nat → List Lk
  | 0 => []
  | k + 1 => movTo t s ls k ++ [movL t s (dAt ls k)]
theorem movTo_len (t : Bool) (s : Int) (ls : List Lk) : ∀ k, (movTo t s ls k).length = k
  | 0 => rfl
  | k + 1 => by rw [movTo, List.length_append, movTo_len t s ls k]; rfl
/-- What MirrorTiling and TurnTiling return. -/
def movZ (t : Bool) (s : Int) (ls : List Lk) : List Lk := if fltB s s ls then sortI (movTo t s ls ls.length) ls.length else []
theorem rect_bit_tab : ((List.range 9).all fun s => (List.range 8).all fun x => (List.range 8).all fun y => (setZ (rectZ s s)).testBit (cix x y) == (decide (x < s) && decide (y < s))) = true := by decide +kernel
theorem rect_bit (s x y : Nat) (hs : s ≤ 8) (hx : x ≤ 7) (hy : y ≤ 7) : (setZ (rectZ s s)).testBit (cix x y) = (decide (x < s) && decide (y < s)) := by
  have h := rect_bit_tab
  rw [List.all_eq_true] at h
  have h := h s (by simp; omega)
  rw [List.all_eq_true] at h
  have h := h x (by simp; omega)
  rw [List.all_eq_true] at h
  have h := h y (by simp; omega)
  simpa using h
/-- A domino of a tiling of a square lies in it. -/
theorem tile_in {s : Nat} (hs : s ≤ 8) {ls : List Lk} (h : sTileB (setZ (rectZ s s)) ls = true) {k : Nat} (hk : k < ls.length) :
    domB (lx ls k) (ly ls k) (ld ls k) = true ∧ (0 ≤ lx ls k ∧ lx ls k < s) ∧ (0 ≤ ly ls k ∧ ly ls k < s) ∧ (0 ≤ sndX (lx ls k) (ld ls k) ∧ sndX (lx ls k) (ld ls k) < s) ∧ (0 ≤ sndY (ly ls k) (ld ls k) ∧ sndY (ly ls k) (ld ls k) < s) := by
  unfold sTileB sPartB at h
  rw [Bool.and_eq_true, upFrom_iff] at h
  have hq := h.1 k (Nat.zero_le _) hk
  unfold qAt at hq
  simp only [Bool.and_eq_true] at hq
  obtain ⟨⟨hd, _⟩, ⟨⟨ha, hb⟩, _⟩, _⟩ := hq
  have hd : domB (lx ls k) (ly ls k) (ld ls k) = true := hd
  refine ⟨hd, ?_⟩
  have hr := (domB_iff _ _ _).1 hd
  unfold dAt aI at ha
  unfold dAt bI at hb
  simp only at ha hb
  generalize lx ls k = x at *
  generalize ly ls k = y at *
  generalize ld ls k = d at *
  obtain ⟨⟨h1, h2⟩, h3⟩ := hr
  cases d
  · simp at h3
    rw [rect_bit s _ _ hs (by omega) (by omega)] at ha
    rw [if_neg (by simp), rect_bit s _ _ hs (by omega) (by omega)] at hb
    simp at ha hb
    have e : sndX x false = x + 1 := by unfold sndX wrap64; simp; omega
    have e2 : sndY y false = y := by unfold sndY; simp
    rw [e, e2]
    omega
  · simp at h3
    rw [rect_bit s _ _ hs (by omega) (by omega)] at ha
    rw [if_pos rfl, rect_bit s _ _ hs (by omega) (by omega)] at hb
    simp at ha hb
    have e : sndX x true = x := by unfold sndX; simp
    have e2 : sndY y true = y + 1 := by unfold sndY wrap64; simp; omega
    rw [e, e2]
    omega
theorem snd_next {x y : Int} {d : Bool} (h : domB x y d = true) : (sndX x d = x ∧ sndY y d = y + 1) ∨ (sndX x d = x + 1 ∧ sndY y d = y) := by
  have hr := (domB_iff _ _ _).1 h
  obtain ⟨⟨h1, h2⟩, h3⟩ := hr
  cases d
  · simp at h3
    exact .inr ⟨by unfold sndX wrap64; simp; omega, by unfold sndY; simp⟩
  · simp at h3
    exact .inl ⟨by unfold sndX; simp, by unfold sndY wrap64; simp; omega⟩
theorem next_mov (t : Bool) {s : Nat} (hs : s ≤ 8) {x y x2 y2 : Int} (h1 : 0 ≤ x ∧ x < s) (h2 : 0 ≤ y ∧ y < s) (h3 : 0 ≤ x2 ∧ x2 < s) (h4 : 0 ≤ y2 ∧ y2 < s) (h : (x2 = x ∧ y2 = y + 1) ∨ (x2 = x + 1 ∧ y2 = y)) :
    nextB (mapC t s x y).1 (mapC t s x y).2 (mapC t s x2 y2).1 (mapC t s x2 y2).2 := by
  unfold nextB mapC
  cases t <;> simp <;> omega
theorem tile_short {s : Nat} (hs : s ≤ 8) {ls : List Lk} (h : sTileB (setZ (rectZ s s)) ls = true) : ls.length ≤ 32 := by
  unfold sTileB at h
  rw [Bool.and_eq_true, decide_eq_true_eq] at h
  have key : ∀ R n, cntB R n ≤ n := by
    intro R n
    induction n with
    | zero => simp [cntB]
    | succ n ih => rw [cntB]; split <;> omega
  have := key (setZ (rectZ s s)) 64
  omega
end Go.Proofs.YtehnbalbpfmijaaGreatDoor
