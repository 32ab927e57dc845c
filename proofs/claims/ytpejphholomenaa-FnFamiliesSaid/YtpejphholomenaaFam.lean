/- Families of paths that do not touch: the plain function; the contracts of the program's families, its closure walk, and CountFamilies. -/
import Derived.Test.YtpejphholomenaaSet
import Derived.Test.YtpejphholomenaaSpotsOk
import Derived.Test.YtpejphholomenaaCurOwn
import Derived.Test.YtpejphholomenaaQuiet
import Derived.Deep.RegionHeld3
import Derived.Deep.RegionLaw
import Derived.StillTailTactics
import Derived.Laws.EntriesVeiled
namespace Go.Proofs.Ytpejphholomenaa
open Go.RowKit

/-- The ways to go on from a point, and then the rest; d bounds the steps. -/
def walkZ (ex ey : Nat) (rest : Nat → Int) : Nat → Nat → Nat → Nat → Int
  | 0, _, _, _ => 0
  | d + 1, x, y, T =>
    if ex < x then 0 else if ey < y then 0 else if hasB T x y then 0
    else if x = ex ∧ y = ey then rest (T ||| 2 ^ cix x y)
    else walkZ ex ey rest d (x + 1) y (T ||| 2 ^ cix x y) + walkZ ex ey rest d x (y + 1) (T ||| 2 ^ cix x y)
def famZ : List (Int × Int) → List (Int × Int) → Nat → Int
  | p :: ps, q :: qs, T => walkZ q.1.toNat q.2.toNat (famZ ps qs) 20 p.1.toNat p.2.toNat T
  | _, _, _ => 1
theorem walkZ_x {ex ey d x y T : Nat} {rest : Nat → Int} (h : ex < x) : walkZ ex ey rest (d + 1) x y T = 0 := by rw [walkZ, if_pos h]
theorem walkZ_y {ex ey d x y T : Nat} {rest : Nat → Int} (h : ¬ ex < x) (h2 : ey < y) : walkZ ex ey rest (d + 1) x y T = 0 := by rw [walkZ, if_neg h, if_pos h2]
theorem walkZ_t {ex ey d x y T : Nat} {rest : Nat → Int} (h : ¬ ex < x) (h2 : ¬ ey < y) (h3 : hasB T x y = true) : walkZ ex ey rest (d + 1) x y T = 0 := by rw [walkZ, if_neg h, if_neg h2, if_pos h3]
theorem walkZ_e {ex ey d x y T : Nat} {rest : Nat → Int} (h : x = ex) (h2 : y = ey) (h3 : hasB T x y = false) : walkZ ex ey rest (d + 1) x y T = rest (T ||| 2 ^ cix x y) := by
  rw [walkZ, if_neg (by omega), if_neg (by omega), if_neg (by rw [h3]; decide), if_pos ⟨h, h2⟩]
theorem walkZ_s {ex ey d x y T : Nat} {rest : Nat → Int} (h : ¬ ex < x) (h2 : ¬ ey < y) (h3 : hasB T x y = false) (h4 : ¬ (x = ex ∧ y = ey)) :
    walkZ ex ey rest (d + 1) x y T = walkZ ex ey rest d (x + 1) y (T ||| 2 ^ cix x y) + walkZ ex ey rest d x (y + 1) (T ||| 2 ^ cix x y) := by
  rw [walkZ, if_neg h, if_neg h2, if_neg (by rw [h3]; decide), if_neg h4]

/-! ### What the closure finds -/
def clos (h : Nat) : Value := .func (.func 125) #[] #[.pointer (some ⟨h + 1, 0, none⟩), .pointer (some ⟨h + 2, 0, none⟩), .pointer (some ⟨h, 0, none⟩), .pointer (some ⟨h + 3, 0, none⟩)]
structure Env (w : World) (h : Nat) (vS vE : Value) (ps qs : List (Int × Int)) : Prop where
  s : w.heap[h]? = some (.cells #[vS] 24 (0, 0))
  e : w.heap[h + 1]? = some (.cells #[vE] 24 (0, 0))
  k : w.heap[h + 3]? = some (.cells #[clos h] 130 (0, 0))
  rs : RdP w h vS ps
  re : RdP w h vE qs
theorem RdP.keep {w w' : World} {B : Nat} {v : Value} {ps : List (Int × Int)} (h : RdP w B v ps) (hk : ∀ k, k < B → w'.heap[k]? = w.heap[k]?) : RdP w' B v ps := by
  obtain ⟨A, c, e, h1, h2, h3⟩ := h
  refine ⟨A, c, e, h1, h2, fun j hj => ?_⟩
  obtain ⟨ad, e2, hb, x1, x2⟩ := h3 j hj
  exact ⟨ad, e2, hb, (World.cell?_of_block (hk _ (by rw [addBlock]; exact hb))).trans x1, (World.cell?_of_block (hk _ (by show (ad.add (j * 2)).block < B; rw [addBlock]; exact hb))).trans x2⟩
theorem Env.lt {w : World} {h : Nat} {vS vE : Value} {ps qs : List (Int × Int)} (E : Env w h vS vE ps qs) : h + 3 < w.heap.size := lt_of_block E.k
theorem Env.grown {w w' : World} {h : Nat} {vS vE : Value} {ps qs : List (Int × Int)} (E : Env w h vS vE ps qs) (hg : w.grownBy w' (some (h + 2))) : Env w' h vS vE ps qs := by
  have hl := E.lt
  have hk : ∀ k, k < h + 4 → k ≠ h + 2 → w'.heap[k]? = w.heap[k]? := fun k h1 h2 => hg.block k (by omega) (by simpa using h2)
  exact ⟨by rw [hk _ (by omega) (by omega)]; exact E.s, by rw [hk _ (by omega) (by omega)]; exact E.e, by rw [hk _ (by omega) (by omega)]; exact E.k,
    E.rs.keep fun k hk' => hk k (by omega) (by omega), E.re.keep fun k hk' => hk k (by omega) (by omega)⟩
def Out (w : World) (h : Nat) (o : Int) : Prop := w.heap[h + 2]? = some (.cells #[.int .i64 o] 3 (0, 0)) ∧ wrap64 o = o
def WalkPost (w : World) (h : Nat) (n : Int) (e : Ending) (w' : World) : Prop := e = .returned (.tuple #[]) ∧ Out w' h (wrap64 n) ∧ w.grownBy w' (some (h + 2))

/-- The cells that the closure reads. -/
abbrev FamS (w w' : World) (h b : Nat) (A : Addr) (n c : Nat) (x y ex ey : Int) : Prop :=
  w'.cell? ⟨b, 0, none⟩ = some (.int .i64 x) ∧ w'.cell? ⟨b, 1, none⟩ = some (.int .i64 y) ∧ w'.cell? ⟨h + 1, 0, none⟩ = some (.slice (some A) n c) ∧
  w'.cell? A = some (.int .i64 ex) ∧ w'.cell? ⟨A.block, A.off + 1, none⟩ = some (.int .i64 ey) ∧ w.heap.size ≤ w'.heap.size ∧ Below w.heap.size w w'
theorem FamS.keep {w W0 w1 : World} {h b : Nat} {A : Addr} {n c : Nat} {x y ex ey : Int} (hb : Below W0.heap.size W0 w1) (l1 : b < w.heap.size) (l2 : h + 1 < w.heap.size) (l3 : A.block < w.heap.size) (H : FamS w W0 h b A n c x y ex ey) : FamS w w1 h b A n c x y ex ey := by
  obtain ⟨h1, h2, h3, h4, h5, h6, h7⟩ := H
  exact ⟨(hb.cell (by simp; omega)).trans h1, (hb.cell (by simp; omega)).trans h2, (hb.cell (by simp; omega)).trans h3, (hb.cell (by omega)).trans h4, (hb.cell (by simp; omega)).trans h5, Nat.le_trans h6 hb.size, h7.trans (hb.mono h6)⟩
theorem FamS.drew {w W0 : World} {h b : Nat} {A : Addr} {n c : Nat} {x y ex ey : Int} (H : FamS w W0 h b A n c x y ex ey) : FamS w W0.drew h b A n c x y ex ey := by
  obtain ⟨h1, h2, h3, h4, h5, h6, h7⟩ := H
  exact ⟨h1, h2, h3, h4, h5, h6, h7.drew⟩

theorem FamS.drewN {w W0 : World} {h b : Nat} {A : Addr} {n c : Nat} {x y ex ey : Int} (H : FamS w W0 h b A n c x y ex ey) (m : Nat) : FamS w (W0.drewN m) h b A n c x y ex ey := by
  obtain ⟨h1, h2, h3, h4, h5, h6, h7⟩ := H
  exact ⟨h1, h2, h3, h4, h5, h6, h7.trans (Drawn.below ⟨m, rfl⟩ _)⟩
theorem FamS.start {w : World} {h : Nat} {A : Addr} {n c : Nat} {x y ex ey : Int} (hl : h + 1 < w.heap.size) (hA : A.block < h) (h1 : w.cell? ⟨h + 1, 0, none⟩ = some (.slice (some A) n c)) (h2 : w.cell? A = some (.int .i64 ex)) (h3 : w.cell? ⟨A.block, A.off + 1, none⟩ = some (.int .i64 ey)) :
    FamS (w.alloc (.cells #[.int .i64 x, .int .i64 y] 32)) (w.alloc (.cells #[.int .i64 x, .int .i64 y] 32)) h w.heap.size A n c x y ex ey := by
  have hb : Below w.heap.size w (w.alloc (.cells #[.int .i64 x, .int .i64 y] 32)) := (Below.refl _ _).alloc (Nat.le_refl _) _
  have hn := heap_alloc_new w (.cells #[.int .i64 x, .int .i64 y] 32)
  exact ⟨by rw [blk_cell hn]; rfl, by rw [blk_cell hn]; rfl, (hb.cell (by simp; omega)).trans h1, (hb.cell (by omega)).trans h2, (hb.cell (by simp; omega)).trans h3, Nat.le_refl _, Below.refl _ _⟩
def FamPost (w : World) (n : Int) (e : Ending) (w' : World) : Prop := e = .returned (.int .i64 (wrap64 n)) ∧ Below w.heap.size w w'

theorem rdP_tail {w : World} {B : Nat} {A : Addr} {c : Nat} {p : Int × Int} {ps : List (Int × Int)} (h : RdP w B (.slice (some A) (ps.length + 1) c) (p :: ps)) :
    RdP w B (.slice (if c = 1 then some A else some ⟨A.block, A.off + 2, none⟩) ps.length (c - 1)) ps := by
  obtain ⟨A', c', e, h1, h2, h3⟩ := h
  simp only [Value.slice.injEq] at e
  obtain ⟨rfl, _, rfl⟩ := e
  simp only [List.length_cons] at h1
  refine ⟨_, _, rfl, by omega, by omega, fun j hj => ?_⟩
  obtain ⟨ad, e2, hb, x1, x2⟩ := h3 (j + 1) (by simp; omega)
  simp only [Option.some.injEq] at e2
  subst e2
  have e3 : (⟨A.block, A.off + 2, none⟩ : Addr) = A.add 2 := by simp [Addr.add]
  have e4 : (A.add 2).add (j * 2) = A.add ((j + 1) * 2) := by rw [addAdd]; congr 1; omega
  refine ⟨A.add 2, by rw [if_neg (by omega), e3], by rw [addBlock]; exact hb, ?_, ?_⟩
  · rw [e4, x1]; simp [px]
  · rw [e4, x2]; simp [py]

/-- One call of the closure, in a world of its own, at the head of the lists. -/
def WalkAt (h : Nat) (vS vE : Value) (p : Int × Int) (ex ey : Nat) (ps qs : List (Int × Int)) (rest : Nat → Int) (d x y T : Nat) : Prop := ∀ (o : Int) (w : World), Env w h vS vE (p :: ps) (((ex : Int), (ey : Int)) :: qs) → Out w h o →
  Calls Try.prog 125 #[spotV x y, .int .u64 (T : Int), .pointer (some ⟨h + 1, 0, none⟩), .pointer (some ⟨h + 2, 0, none⟩), .pointer (some ⟨h, 0, none⟩), .pointer (some ⟨h + 3, 0, none⟩)] w
    (WalkPost w h (o + walkZ ex ey rest d x y T))

theorem walk_zero {w w' : World} {h : Nat} {o n : Int} (HO : Out w h o) (hn : n = 0) (hl : h + 3 < w.heap.size) (hb : Below w.heap.size w w') : WalkPost w h (o + n) (.returned (.tuple #[])) w' := by
  subst hn
  refine ⟨rfl, ?_, hb.os, hb.tape, hb.output, hb.size, fun k hk _ => hb.block k hk⟩
  rw [Int.add_zero, HO.2]
  exact ⟨(hb.block (h + 2) (by omega)).trans HO.1, HO.2⟩

set_option maxRecDepth 100000 in
set_option maxHeartbeats 4000000 in
theorem walk_no (h : Nat) (vS vE : Value) (p : Int × Int) (ex ey : Nat) (ps qs : List (Int × Int)) (rest : Nat → Int) (d x y T : Nat) (hx : x ≤ 6) (hy : y ≤ 6) (hT : T < 18446744073709551616)
    (hno : ex < x ∨ ey < y ∨ hasB T x y = true) : WalkAt h vS vE p ex ey ps qs rest (d + 1) x y T := by
  intro o w E O
  obtain ⟨A0, c, rfl, g1, g2, hq⟩ := id E.re
  obtain ⟨A, rfl, hAb, hA0, hA1⟩ := hq 0 (by simp)
  have HLT := E.lt
  have he1 : w.cell? ⟨h + 1, 0, none⟩ = some (.slice (some A) (qs.length + 1) c) := cell_of_one E.e
  rw [Nat.zero_mul, Addr.add_zero'] at hA0 hA1
  have hA0 : w.cell? A = some (.int .i64 (ex : Int)) := hA0
  have hA1 : w.cell? ⟨A.block, A.off + 1, none⟩ = some (.int .i64 (ey : Int)) := hA1
  unfold maxLen at g2
  have g1' : qs.length + 1 ≤ c := g1
  have hO1 : w.cell? ⟨h + 2, 0, none⟩ = some (.int .i64 o) := cell_of_one O.1
  have HO := Lib.hid O
  have HS := Lib.hid (FamS.start (x := x) (y := y) (show h + 1 < w.heap.size by omega) hAb he1 hA0 hA1)
  have HB0 : Hid (Below w.heap.size w (w.alloc (.cells #[.int .i64 x, .int .i64 y] 32))) := (Below.refl _ _).alloc (Nat.le_refl _) _
  clear E O hq hO1 hA0 hA1 he1
  have L1 : Hid (w.heap.size < (w.alloc (.cells #[.int .i64 x, .int .i64 y] 32)).heap.size) := by unfold Hid; simp
  have L2 : Hid (h + 1 < (w.alloc (.cells #[.int .i64 x, .int .i64 y] 32)).heap.size) := by unfold Hid; simp; omega
  have L3 : Hid (A.block < (w.alloc (.cells #[.int .i64 x, .int .i64 y] 32)).heap.size) := by unfold Hid; simp; omega
  by_cases c1 : ex < x
  · have b1 : decide (ex < x) = true := by simp; omega
    have hE := Lib.hid (walkZ_x (ey := ey) (d := d) (y := y) (T := T) (rest := rest) c1)
    clear hno
    go_enter Try.func125, Try.ntmps125
    go_wp2_with fail
    generalize w.alloc (.cells #[.int .i64 x, .int .i64 y] 32) = W0 at *
    obtain ⟨f1, f2, f3, f4, f5, f6, f7⟩ := HS.out
    have HB : ∀ nq, Hid (Below w.heap.size w (W0.drewN nq)) := fun nq => HB0.out.trans (Drawn.below ⟨nq, rfl⟩ _)
    go_quiet (fail)
    go_wp2_with fail
    go_end0
    exact walk_zero HO.out hE.out HLT (HB _).out
  by_cases c2 : ey < y
  · have b1 : decide (ex < x) = false := by simp; omega
    have b2 : decide (ey < y) = true := by simp; omega
    have hE := Lib.hid (walkZ_y (d := d) (T := T) (rest := rest) c1 c2)
    clear hno
    go_enter Try.func125, Try.ntmps125
    go_wp2_with fail
    generalize w.alloc (.cells #[.int .i64 x, .int .i64 y] 32) = W0 at *
    obtain ⟨f1, f2, f3, f4, f5, f6, f7⟩ := HS.out
    have HB : ∀ nq, Hid (Below w.heap.size w (W0.drewN nq)) := fun nq => HB0.out.trans (Drawn.below ⟨nq, rfl⟩ _)
    go_quiet (fail)
    go_wp2_with fail
    go_end0
    exact walk_zero HO.out hE.out HLT (HB _).out
  · have b1 : decide (ex < x) = false := by simp; omega
    have b2 : decide (ey < y) = false := by simp; omega
    have hb : hasB T x y = true := by rcases hno with h1 | h1 | h1; omega; omega; exact h1
    have hE := Lib.hid (walkZ_t (d := d) (rest := rest) c1 c2 hb)
    have HH := Lib.hid hb
    clear hno hb
    go_enter Try.func125, Try.ntmps125
    go_wp2_with fail
    generalize w.alloc (.cells #[.int .i64 x, .int .i64 y] 32) = W0 at *
    go_region_held3 (fun w' => FamS W0 w' h w.heap.size A (qs.length + 1) c x y ex ey)
        (first
          | exact HS.out.drew
          | exact FamS.keep hb1 L1.out L2.out L3.out (by assumption))
        (first
          | (go_at_call 126; refine (has_yes _ _ _ hT (by omega) (by omega) _).mono ?_; rintro e w1 ⟨rfl, hb1⟩; rw [HH.out]))
    go_wp2_with fail
    go_end0
    exact walk_zero HO.out hE.out HLT (HB0.out.trans ((show FamS W0 _ h w.heap.size A (qs.length + 1) c x y ex ey from by assumption).2.2.2.2.2.2.mono HB0.out.size))
theorem walk_fin {w W3 w4 : World} {h : Nat} {o n r : Int} (HO : Out w h o) (hr : r = wrap64 (o + n)) (hl : h + 3 < w.heap.size) (hb : Below w.heap.size w W3) (hb4 : Below W3.heap.size W3.drew w4) :
    WalkPost w h (o + n) (.returned (.tuple #[])) (w4.setCell ⟨h + 2, 0, none⟩ (.int .i64 r)) := by
  subst hr
  have hs := hb.size
  have hk : ∀ k, k < w.heap.size → w4.heap[k]? = w.heap[k]? := fun k hk => (hb4.block k (by omega)).trans (hb.block k hk)
  have hi : wrap64 (wrap64 (o + n)) = wrap64 (o + n) := by unfold wrap64; omega
  refine ⟨rfl, ⟨(blk_setCell ((hk _ (by omega)).trans HO.1) _).trans (by simp), hi⟩, ?_⟩
  exact World.grownBy.trans (b := w4) ⟨hb4.os.trans hb.os, hb4.tape.trans hb.tape, hb4.output.trans hb.output, Nat.le_trans hs hb4.size, fun k h1 _ => hk k h1⟩ (grownBy_set w4 (h + 2) 0 _)

set_option maxRecDepth 100000 in
set_option maxHeartbeats 4000000 in
/-- The end of a path. -/
theorem walk_end (h : Nat) (vS vE : Value) (p : Int × Int) (ex ey : Nat) (ps qs : List (Int × Int)) (rest : Nat → Int) (d T : Nat) (hex : ex ≤ 5) (hey : ey ≤ 5) (hT : T < 18446744073709551616)
    (hb : hasB T ex ey = false) (IH : ∀ (T : Nat) (u v : Value) (B : Nat) (w : World), T < 18446744073709551616 → RdP w B u ps → RdP w B v qs → B ≤ w.heap.size →
      Calls Try.prog 68 #[u, v, .int .u64 (T : Int)] w (FamPost w (rest T))) : WalkAt h vS vE p ex ey ps qs rest (d + 1) ex ey T := by
  have HH := Lib.hid hb
  have hE := Lib.hid (walkZ_e (ex := ex) (ey := ey) (d := d) (rest := rest) rfl rfl hb)
  clear hb
  intro o w E O
  obtain ⟨A0, c, rfl, g1, g2, hq⟩ := id E.re
  obtain ⟨A, rfl, hAb, hA0, hA1⟩ := hq 0 (by simp)
  have HLT := E.lt
  have he1 : w.cell? ⟨h + 1, 0, none⟩ = some (.slice (some A) (qs.length + 1) c) := cell_of_one E.e
  rw [Nat.zero_mul, Addr.add_zero'] at hA0 hA1
  have hA0 : w.cell? A = some (.int .i64 (ex : Int)) := hA0
  have hA1 : w.cell? ⟨A.block, A.off + 1, none⟩ = some (.int .i64 (ey : Int)) := hA1
  unfold maxLen at g2
  have g1' : qs.length + 1 ≤ c := g1
  have hO1 : w.cell? ⟨h + 2, 0, none⟩ = some (.int .i64 o) := cell_of_one O.1
  have HO := Lib.hid O
  have HS := Lib.hid (FamS.start (x := ex) (y := ey) (show h + 1 < w.heap.size by omega) hAb he1 hA0 hA1)
  have HB0 : Hid (Below w.heap.size w (w.alloc (.cells #[.int .i64 ex, .int .i64 ey] 32))) := (Below.refl _ _).alloc (Nat.le_refl _) _
  have HE := Lib.hid E
  clear E O hq hO1 hA0 hA1 he1
  have L1 : Hid (w.heap.size < (w.alloc (.cells #[.int .i64 ex, .int .i64 ey] 32)).heap.size) := by unfold Hid; simp
  have L2 : Hid (h + 1 < (w.alloc (.cells #[.int .i64 ex, .int .i64 ey] 32)).heap.size) := by unfold Hid; simp; omega
  have L3 : Hid (A.block < (w.alloc (.cells #[.int .i64 ex, .int .i64 ey] 32)).heap.size) := by unfold Hid; simp; omega
  have b1 : decide (ex < ex) = false := by simp
  have b2 : decide (ey < ey) = false := by simp
  go_enter Try.func125, Try.ntmps125
  go_wp2_with fail
  generalize w.alloc (.cells #[.int .i64 ex, .int .i64 ey] 32) = W0 at *
  go_region_held3 (fun w' => FamS W0 w' h w.heap.size A (qs.length + 1) c ex ey ex ey)
      (first
        | exact HS.out.drew
        | exact FamS.keep hb1 L1.out L2.out L3.out (by assumption))
      (first
        | (go_at_call 126; refine (has_yes _ _ _ hT (by omega) (by omega) _).mono ?_; rintro e w1 ⟨rfl, hb1⟩; rw [HH.out]))
  obtain ⟨f1, f2, f3, f4, f5, f6, f7⟩ := (show FamS W0 w1 h w.heap.size A (qs.length + 1) c ex ey ex ey from by assumption)
  have HF1 : Hid (FamS W0 w1 h w.heap.size A (qs.length + 1) c ex ey ex ey) := ⟨f1, f2, f3, f4, f5, f6, f7⟩
  clear f6 f7
  go_wp2_with fail
  refine (with_yes T ex ey hT (by omega) (by omega) _).mono ?_
  rintro e w2 ⟨rfl, hb2⟩
  have hF2 := FamS.keep hb2 L1.out L2.out L3.out HF1.out
  have HF2 := Lib.hid hF2
  clear f1 f2 f3 f4 f5
  obtain ⟨f1, f2, f3, f4, f5, f6, f7⟩ := hF2
  clear f6 f7
  go_wp2_with fail
  have HB3 : ∀ nq, Hid (Below w.heap.size w (w2.drewN nq)) := fun nq => (HB0.out.trans (HF2.out.2.2.2.2.2.2.mono HB0.out.size)).trans (Drawn.below ⟨nq, rfl⟩ _)
  go_quiet (fail)
  go_wp2_with fail
  have hB3 := (HB3 nq).out
  generalize w2.drewN nq = W3 at *
  clear f1 f2 f3 f4 f5 HB3 hb2 HF2 HF1 hb1
  obtain ⟨AS, cS, hvS, s1, s2, sQ⟩ := HE.out.rs
  have s1' : ps.length + 1 ≤ cS := s1
  unfold maxLen at s2
  have e1 : W3.cell? ⟨h, 0, none⟩ = some (.slice AS (ps.length + 1) cS) := by rw [hB3.cell (by simp; omega), cell_of_one HE.out.s, hvS]; rfl
  have e2 : W3.cell? ⟨h + 1, 0, none⟩ = some (.slice (some A) (qs.length + 1) c) := by rw [hB3.cell (by simp; omega), cell_of_one HE.out.e]; rfl
  have e3 : W3.cell? ⟨h + 2, 0, none⟩ = some (.int .i64 o) := by rw [hB3.cell (by simp; omega), cell_of_one HO.out.1]
  have e4 : W3.frozen? ⟨h + 2, 0, none⟩ = false := by rw [hB3.frozen (by simp; omega), free_of_one HO.out.1]
  obtain ⟨AS, rfl, hSb, _⟩ := sQ 0 (by simp)
  have q1 : (1 : Int) ≤ (qs.length : Int) + 1 := by omega
  have q2 : (1 : Int) ≤ (ps.length : Int) + 1 := by omega
  have hrS := Lib.hid (rdP_tail ((hvS ▸ HE.out.rs : RdP w h (.slice (some AS) (ps.length + 1) cS) (p :: ps)).keep fun k hk => hB3.block k (by omega)))
  have hrE := Lib.hid (rdP_tail ((HE.out.re : RdP w h (.slice (some A) (qs.length + 1) c) (((ex : Int), (ey : Int)) :: qs)).keep fun k hk => hB3.block k (by omega)))
  obtain ⟨BS, hBS⟩ : ∃ BS, (if cS = 1 then some AS else some ⟨AS.block, AS.off + 2, none⟩) = BS := ⟨_, rfl⟩
  obtain ⟨BE, hBE⟩ : ∃ BE, (if c = 1 then some A else some ⟨A.block, A.off + 2, none⟩) = BE := ⟨_, rfl⟩
  rw [hBS] at hrS
  rw [hBE] at hrE
  have hT2 := with_lt hT (show cix ex ey ≤ 63 by unfold cix; omega)
  have HX : ∀ m : Int, Hid (wrap64 (o + wrap64 m) = wrap64 (o + m)) := fun m => by unfold Hid wrap64; omega
  have hs3 : h + 3 < W3.heap.size := Nat.lt_of_lt_of_le HLT hB3.size
  have HB3 := Lib.hid hB3
  have HE3 := Lib.hid e3
  have HE4 := Lib.hid e4
  clear sQ hB3
  go_region_law (first
    | (go_simp; go_at_call 68; refine (IH _ _ _ h W3.drew hT2 (hrS.out.keep fun _ _ => rfl) (hrE.out.keep fun _ _ => rfl) (show h ≤ W3.heap.size by omega)).mono ?_; rintro e w4 ⟨rfl, hb4⟩; have e5 := (hb4.cell (p := ⟨h + 2, 0, none⟩) (show h + 2 < W3.heap.size by omega)).trans HE3.out; have e6 := (hb4.frozen (p := ⟨h + 2, 0, none⟩) (show h + 2 < W3.heap.size by omega)).trans HE4.out))
  all_goals
    go_wp2_with fail
    go_end0
    exact walk_fin HO.out (by rw [hE.out, IntWalk.i64_left]; exact (HX _).out) HLT HB3.out hb4
set_option maxRecDepth 100000 in
set_option maxHeartbeats 4000000 in
/-- A step. -/
theorem walk_step (h : Nat) (vS vE : Value) (p : Int × Int) (ex ey : Nat) (ps qs : List (Int × Int)) (rest : Nat → Int) (d x y T : Nat) (hx : x ≤ 6) (hy : y ≤ 6) (c1 : ¬ ex < x) (c2 : ¬ ey < y) (hne : ¬ (x = ex ∧ y = ey)) (hT : T < 18446744073709551616)
    (hb : hasB T x y = false)
    (H1 : WalkAt h vS vE p ex ey ps qs rest d (x + 1) y (T ||| 2 ^ cix x y)) (H2 : WalkAt h vS vE p ex ey ps qs rest d x (y + 1) (T ||| 2 ^ cix x y)) : WalkAt h vS vE p ex ey ps qs rest (d + 1) x y T := by
  have HH := Lib.hid hb
  have hE := Lib.hid (walkZ_s (d := d) (rest := rest) c1 c2 hb hne)
  clear hb
  intro o w E O
  obtain ⟨A0, c, rfl, g1, g2, hq⟩ := id E.re
  obtain ⟨A, rfl, hAb, hA0, hA1⟩ := hq 0 (by simp)
  have HLT := E.lt
  have he1 : w.cell? ⟨h + 1, 0, none⟩ = some (.slice (some A) (qs.length + 1) c) := cell_of_one E.e
  rw [Nat.zero_mul, Addr.add_zero'] at hA0 hA1
  have hA0 : w.cell? A = some (.int .i64 (ex : Int)) := hA0
  have hA1 : w.cell? ⟨A.block, A.off + 1, none⟩ = some (.int .i64 (ey : Int)) := hA1
  unfold maxLen at g2
  have g1' : qs.length + 1 ≤ c := g1
  have hO1 : w.cell? ⟨h + 2, 0, none⟩ = some (.int .i64 o) := cell_of_one O.1
  have HO := Lib.hid O
  have HS := Lib.hid (FamS.start (x := x) (y := y) (show h + 1 < w.heap.size by omega) hAb he1 hA0 hA1)
  have HB0 : Hid (Below w.heap.size w (w.alloc (.cells #[.int .i64 x, .int .i64 y] 32))) := (Below.refl _ _).alloc (Nat.le_refl _) _
  have HE := Lib.hid E
  clear E O hq hO1 hA0 hA1 he1
  have L1 : Hid (w.heap.size < (w.alloc (.cells #[.int .i64 x, .int .i64 y] 32)).heap.size) := by unfold Hid; simp
  have L2 : Hid (h + 1 < (w.alloc (.cells #[.int .i64 x, .int .i64 y] 32)).heap.size) := by unfold Hid; simp; omega
  have L3 : Hid (A.block < (w.alloc (.cells #[.int .i64 x, .int .i64 y] 32)).heap.size) := by unfold Hid; simp; omega
  have b1 : decide (ex < x) = false := by simp; omega
  have b2 : decide (ey < y) = false := by simp; omega
  go_enter Try.func125, Try.ntmps125
  go_wp2_with fail
  generalize w.alloc (.cells #[.int .i64 x, .int .i64 y] 32) = W0 at *
  go_region_held3 (fun w' => FamS W0 w' h w.heap.size A (qs.length + 1) c x y ex ey)
      (first
        | exact HS.out.drew
        | exact FamS.keep hb1 L1.out L2.out L3.out (by assumption))
      (first
        | (go_at_call 126; refine (has_yes _ _ _ hT (by omega) (by omega) _).mono ?_; rintro e w1 ⟨rfl, hb1⟩; rw [HH.out]))
  obtain ⟨f1, f2, f3, f4, f5, f6, f7⟩ := (show FamS W0 w1 h w.heap.size A (qs.length + 1) c x y ex ey from by assumption)
  have HF1 : Hid (FamS W0 w1 h w.heap.size A (qs.length + 1) c x y ex ey) := ⟨f1, f2, f3, f4, f5, f6, f7⟩
  clear f6 f7
  go_wp2_with fail
  refine (with_yes T x y hT (by omega) (by omega) _).mono ?_
  rintro e w2 ⟨rfl, hb2⟩
  have hF2 := FamS.keep hb2 L1.out L2.out L3.out HF1.out
  have HF2 := Lib.hid hF2
  clear f1 f2 f3 f4 f5
  obtain ⟨f1, f2, f3, f4, f5, f6, f7⟩ := hF2
  clear f6 f7
  go_wp2_with fail
  have HB3 : ∀ nq, Hid (Below w.heap.size w (w2.drewN nq)) := fun nq => (HB0.out.trans (HF2.out.2.2.2.2.2.2.mono HB0.out.size)).trans (Drawn.below ⟨nq, rfl⟩ _)
  have hsq : ∀ W : World, Sem.run Try.prog (binOp .eql 32 (.agg #[.int .i64 x, .int .i64 y]) (.agg #[.int .i64 ex, .int .i64 ey])) W = .ok (.bool false) W := fun W => by
    by_cases h1 : (x : Int) = (ex : Int)
    · have h2 : ¬ (y : Int) = (ey : Int) := fun h => hne ⟨by omega, by omega⟩
      go_simp
    · go_simp
  go_quiet (fail)
  clear hsq
  have hB3 := (HB3 nq).out
  have hF3 : FamS W0 (w2.drewN nq) h w.heap.size A (qs.length + 1) c x y ex ey := HF2.out.drewN nq
  obtain ⟨f1, f2, f3, f4, f5, f6, f7⟩ := hF3
  generalize w2.drewN nq = W3 at *
  have hsz : w.heap.size < W3.heap.size := Nat.lt_of_lt_of_le L1.out f6
  have HFa := Lib.hid f1
  have HFb := Lib.hid f2
  clear HB3 hb2 HF2 HF1 hb1 f3 f4 f5 f6 f7
  have hk3 : W3.cell? ⟨h + 3, 0, none⟩ = some (clos h) := by rw [hB3.cell (by simp; omega), cell_of_one HE.out.k]
  have hg3 : w.grownBy W3 (some (h + 2)) := ⟨hB3.os, hB3.tape, hB3.output, hB3.size, fun k hk _ => hB3.block k hk⟩
  have HE3 := Lib.hid (HE.out.grown hg3)
  have HO3 : Hid (Out W3 h o) := ⟨(hB3.block (h + 2) (by omega)).trans HO.out.1, HO.out.2⟩
  have HG3 := Lib.hid hg3
  have HX1 : Hid ((x : Int) + 1 = ((x + 1 : Nat) : Int)) := by unfold Hid; omega
  have HX2 : Hid ((y : Int) + 1 = ((y + 1 : Nat) : Int)) := by unfold Hid; omega
  unfold clos at hk3
  clear hg3
  go_wp2_with fail
  rw [HX1.out]
  refine (H1 o W3 HE3.out HO3.out).mono ?_
  rintro e w4 ⟨rfl, hO4, hg4⟩
  have hbk := hg4.block w.heap.size hsz (by simp; omega)
  have k1 : w4.cell? ⟨w.heap.size, 0, none⟩ = some (.int .i64 (x : Int)) := (World.cell?_of_block hbk).trans HFa.out
  have k2 : w4.cell? ⟨w.heap.size, 1, none⟩ = some (.int .i64 (y : Int)) := (World.cell?_of_block hbk).trans HFb.out
  have HE4 := Lib.hid (HE3.out.grown hg4)
  have HO4 := Lib.hid hO4
  have HG4 := Lib.hid (HG3.out.trans hg4)
  have k3 : w4.cell? ⟨h + 3, 0, none⟩ = some (clos h) := cell_of_one HE4.out.k
  unfold clos at k3
  clear f1 f2 hk3 hbk hO4 hg4
  go_wp2_with fail
  rw [HX2.out]
  refine (H2 _ w4 HE4.out HO4.out).mono ?_
  rintro e w5 ⟨rfl, hO5, hg5⟩
  go_wp2_with fail
  go_end0
  refine ⟨rfl, ?_, HG4.out.trans hg5⟩
  rw [hE.out, ← Int.add_assoc]
  have hw : ∀ a b : Int, wrap64 (wrap64 a + b) = wrap64 (a + b) := fun a b => by unfold wrap64; omega
  rw [← hw]
  exact hO5

/-- The closure, at every point. -/
theorem walk_any (h : Nat) (vS vE : Value) (p : Int × Int) (ex ey : Nat) (ps qs : List (Int × Int)) (rest : Nat → Int) (hex : ex ≤ 5) (hey : ey ≤ 5)
    (IH : ∀ (T : Nat) (u v : Value) (B : Nat) (w : World), T < 18446744073709551616 → RdP w B u ps → RdP w B v qs → B ≤ w.heap.size →
      Calls Try.prog 68 #[u, v, .int .u64 (T : Int)] w (FamPost w (rest T))) :
    ∀ (d x y T : Nat), x ≤ 6 → y ≤ 6 → T < 18446744073709551616 → (ex : Int) - x + (ey - y) < d → 0 < d → WalkAt h vS vE p ex ey ps qs rest d x y T
  | 0, _, _, _, _, _, _, _, h0 => absurd h0 (by omega)
  | d + 1, x, y, T, hx, hy, hT, hd, _ => by
    by_cases c1 : ex < x
    · exact walk_no h vS vE p ex ey ps qs rest d x y T hx hy hT (.inl c1)
    · by_cases c2 : ey < y
      · exact walk_no h vS vE p ex ey ps qs rest d x y T hx hy hT (.inr (.inl c2))
      · cases hb : hasB T x y
        · have hT2 := with_lt hT (show cix x y ≤ 63 by unfold cix; omega)
          by_cases hne : x = ex ∧ y = ey
          · obtain ⟨rfl, rfl⟩ := hne
            exact walk_end h vS vE p x y ps qs rest d T hex hey hT hb IH
          · exact walk_step h vS vE p ex ey ps qs rest d x y T hx hy c1 c2 hne hT hb
              (walk_any h vS vE p ex ey ps qs rest hex hey IH d (x + 1) y _ (by omega) hy hT2 (by omega) (by omega))
              (walk_any h vS vE p ex ey ps qs rest hex hey IH d x (y + 1) _ hx (by omega) hT2 (by omega) (by omega))
        · exact walk_no h vS vE p ex ey ps qs rest d x y T hx hy hT (.inr (.inr hb))
end Go.Proofs.Ytpejphholomenaa
