/- The closure of the program's ListTrees, and ListTrees. -/
import Derived.Test.YtiecphhenpapoaaSubs
import Derived.Test.YtiecphhenpapoaaElsP
import Derived.Test.YtiecphhenpapoaaAppendF
import Derived.Deep.RegionHeld3
import Derived.Deep.RegionLaw
import Derived.StillTailTactics
import Derived.Laws.EntriesVeiled
namespace Go.Proofs.Ytiecphhenpapoaa
open Go.RowKit
set_option linter.unusedVariables false

theorem infoLinkRow : (Try.prog.info? 39).map (fun i => (i.zero, i.size, i.bytes)) = some (some (.slice none 0 0), 1, 24) := by kernel_rfl
abbrev eLL : El Sl := elSl 39 42
theorem okLL : eLL.Ok Try.prog := okSl Try.underlying42 infoLinkRow

/-! ### What the closure finds -/
def tclos (n n1 : Nat) : Value := .func (.func 94) #[] #[.pointer (some ⟨n1 + 4, 0, none⟩), .pointer (some ⟨n, 0, none⟩), .pointer (some ⟨n + 1, 0, none⟩), .pointer (some ⟨n1 + 3, 0, none⟩), .pointer (some ⟨n1 + 2, 0, none⟩), .pointer (some ⟨n1 + 5, 0, none⟩)]
structure LEnv (n n1 a b : Nat) (va : Value) (all : List Lk) (w : World) : Prop where
  ea : w.heap[n]? = some (.cells #[.int .i64 a] 3 (0, 0))
  eb : w.heap[n + 1]? = some (.cells #[.int .i64 b] 3 (0, 0))
  el : w.heap[n1 + 2]? = some (.cells #[va] 39 (0, 0))
  es : w.heap[n1 + 5]? = some (.cells #[tclos n n1] 100 (0, 0))
  rd : RdF elLink w n1 va all
  lt : n + 1 < n1
def tlay (n1 : Nat) : TLay := ⟨n1 + 3, n1 + 4, n1, n1 + 1, n1, n1 + 6⟩
theorem tlay_ok (n1 : Nat) : (tlay n1).Ok := by constructor <;> simp [tlay]
theorem LEnv.fix {n n1 a b : Nat} {va : Value} {all : List Lk} {w w' : World} (h : LEnv n n1 a b va all w) (hf : Fix (tlay n1) w w') : LEnv n n1 a b va all w' := by
  have hl := h.lt
  have hk : ∀ k, k < n1 + 6 → k ≠ n1 + 3 → k ≠ n1 + 4 → k ≠ n1 → k ≠ n1 + 1 → w'.heap[k]? = w.heap[k]? := hf
  exact ⟨(hk _ (by omega) (by omega) (by omega) (by omega) (by omega)).trans h.ea, (hk _ (by omega) (by omega) (by omega) (by omega) (by omega)).trans h.eb, (hk _ (by omega) (by omega) (by omega) (by omega) (by omega)).trans h.el,
    (hk _ (by omega) (by omega) (by omega) (by omega) (by omega)).trans h.es, h.rd.keep fun p hp => World.cell?_of_block (hk _ (by omega) (by omega) (by omega) (by omega) (by omega)), h.lt⟩
abbrev TrS (w0 : World) (n1 : Nat) := TS elLink eLL w0 (tlay n1)
def TrSt (w0 : World) (n n1 a b : Nat) (va : Value) (all : List Lk) (wr : World) (hd : List Lk) (os : List (List Lk)) : Prop := LEnv n n1 a b va all wr ∧ TSt elLink eLL w0 (tlay n1) wr hd os
def TPost (w0 : World) (n n1 a b : Nat) (va : Value) (all hd : List Lk) (os : List (List Lk)) (e : Ending) (w' : World) : Prop := e = .returned (.tuple #[]) ∧ TrSt w0 n n1 a b va all w' hd os
/-- One call of the closure. -/
def RestT (w0 : World) (n n1 a b : Nat) (va : Value) (all : List Lk) (d k : Nat) (hd : List Lk) : Prop := ∀ (wr : World) (os : List (List Lk)), TrSt w0 n n1 a b va all wr hd os → (os ++ tails (treeB a b) hd (all.drop k) d).length ≤ 1000000 →
  Calls Try.prog 94 #[.int .i64 (k : Int), .pointer (some ⟨n1 + 4, 0, none⟩), .pointer (some ⟨n, 0, none⟩), .pointer (some ⟨n + 1, 0, none⟩), .pointer (some ⟨n1 + 3, 0, none⟩), .pointer (some ⟨n1 + 2, 0, none⟩), .pointer (some ⟨n1 + 5, 0, none⟩)] wr
    (TPost w0 n n1 a b va all hd (os ++ tails (treeB a b) hd (all.drop k) d))

set_option maxRecDepth 100000 in
set_option maxHeartbeats 4000000 in
theorem trest_end (w0 : World) (n n1 a b : Nat) (va : Value) (all : List Lk) (hab : a * b ≤ 9) (hab1 : 0 < a * b) (k : Nat) (hd : List Lk) (hl : hd.length = a * b - 1) : RestT w0 n n1 a b va all 0 k hd := by
  intro wr os hS hO
  rw [tails_zero] at hO ⊢
  obtain ⟨hE, vo, vw, ho, ss, hT⟩ := hS
  have HE := Lib.hid hE
  have HT := Lib.hid hT
  obtain ⟨Aw, cw, rfl, q1, q2⟩ := hT.lenw okLink
  obtain ⟨Ao, co, rfl, r1, r2⟩ := hT.leno okLL
  unfold maxLen at q2 r2
  have c1 : wr.cell? ⟨n1 + 4, 0, none⟩ = some (.slice Aw hd.length cw) := hT.cellw
  have c2 : wr.cell? ⟨n, 0, none⟩ = some (.int .i64 a) := cell_of_one hE.ea
  have c3 : wr.cell? ⟨n + 1, 0, none⟩ = some (.int .i64 b) := cell_of_one hE.eb
  have HRD := Lib.hid (hT.aw.1.rd okLink)
  have hmul : (a : Int) * (b : Int) = ((a * b : Nat) : Int) := by simp
  have hm0 : 0 ≤ (a : Int) * (b : Int) := by omega
  have hm1 : (a : Int) * (b : Int) ≤ 9 := by omega
  have hm2 : ((hd.length : Int) == (a : Int) * (b : Int) - 1) = true := by rw [beq_iff_eq]; omega
  have hh9 : hd.length ≤ 9 := by omega
  have HSS : Hid (ss.length = os.length) := hT.el.1
  have HO : Hid ((os ++ if treeB (a : Int) b hd then [hd] else []).length ≤ 1000000) := hO
  clear hmul hl hO hE hT
  cases hB : treeB (a : Int) b hd
  · have HR : Hid (os ++ (if false = true then [hd] else []) = os) := by unfold Hid; simp
    rw [HR.out]
    go_enter Try.func94, Try.ntmps94
    go_wp2_with fail
    refine (IsTree_any a b _ hd _ _ HRD.out (Nat.le_refl _)).mono ?_
    rintro e w1 ⟨rfl, hb1⟩
    rw [hB]
    have HT1 := Lib.hid (HT.out.below hb1)
    have HE1 := Lib.hid (HE.out.fix (HT.out.fix hb1))
    clear hb1
    go_wp2_with fail
    go_end0
    exact ⟨rfl, HE1.out, _, _, _, _, HT1.out⟩
  · have HR : Hid (os ++ (if true = true then [hd] else []) = os ++ [hd]) := by unfold Hid; simp
    rw [HR.out]
    have HOL : Hid (os.length ≤ 999999) := by unfold Hid; have := HO.out; rw [hB, HR.out] at this; simp at this; omega
    clear HO
    go_enter Try.func94, Try.ntmps94
    go_wp2_with fail
    refine (IsTree_any a b _ hd _ _ HRD.out (Nat.le_refl _)).mono ?_
    rintro e w1 ⟨rfl, hb1⟩
    rw [hB]
    have HT1 := Lib.hid (HT.out.below hb1)
    have HE1 := Lib.hid (HE.out.fix (HT.out.fix hb1))
    have d1 : w1.cell? ⟨n1 + 4, 0, none⟩ = some (.slice Aw hd.length cw) := HT1.out.cellw
    have d2 : w1.cell? ⟨n1 + 3, 0, none⟩ = some (.slice Ao ss.length co) := HT1.out.cello
    have HS0 : Hid (n1 + 6 ≤ w1.heap.size) := Nat.le_trans HT1.out.lh HT1.out.hs
    have HACC : Hid (Acc elLink w1 w1.heap.size (w1.alloc (.cells #[] 101)).drew (.slice (some ⟨w1.heap.size, 0, none⟩) 0 0) []) := (Acc.start w1).below (Below.refl _ _).drew
    have hba : Below w1.heap.size w1 (w1.alloc (.cells #[] 101)).drew := ((Below.refl _ _).alloc (Nat.le_refl _) _).drew
    have e1 : (w1.alloc (.cells #[] 101)).cell? ⟨n1 + 4, 0, none⟩ = some (.slice Aw hd.length cw) := (hba.cell (p := ⟨n1 + 4, 0, none⟩) (by have := HS0.out; show n1 + 4 < _; omega)).trans d1
    have e2 : (w1.alloc (.cells #[] 101)).cell? ⟨n1 + 3, 0, none⟩ = some (.slice Ao ss.length co) := (hba.cell (p := ⟨n1 + 3, 0, none⟩) (by have := HS0.out; show n1 + 3 < _; omega)).trans d2
    have HRA := Lib.hid ((HT1.out.aw.1.rd okLink).below hba)
    have HTA := Lib.hid (HT1.out.below hba)
    have HBA := Lib.hid hba
    clear hb1 c1 c2 c3 hba HRD HT HE
    go_wp2_with fail
    go_region_law (first
      | (refine step_pushSrcF okLink (by rfl) _ _ (by rfl) HACC.out (by rfl) hd _ _ HRA.out (by rfl) (by simp; omega) ?_; intro u2 w2 HA2 HG2; rw [List.nil_append] at HA2; obtain ⟨A2, k2, hu2, _⟩ := HA2.out.1.rd okLink; subst hu2; have HB2 : Hid (Below w1.heap.size w1 w2) := HA2.out.2.1; have HT2 := Lib.hid (HT1.out.below HB2.out); have f1 : w2.cell? ⟨n1 + 3, 0, none⟩ = some (.slice Ao ss.length co) := HT2.out.cello; have f3 : (w2.alloc (.cells #[.slice A2 hd.length k2] 39)).cell? ⟨n1 + 3, 0, none⟩ = some (.slice Ao ss.length co) := ((((Below.refl w2.heap.size w2).alloc (Nat.le_refl _) _).cell (p := ⟨n1 + 3, 0, none⟩) (by have h1 := HS0.out; have h2 := HB2.out.size; show n1 + 3 < _; omega)).trans f1))
      | (refine step_push okLL (by rfl) _ _ (by rfl) HT2.out.ao (by rfl) (A2, hd.length, k2) _ (by rfl) _ (by rfl) (by rfl) (by have h1 := HSS.out; have h2 := HOL.out; omega) ?_; intro v3 w3 HA3 HG3; obtain ⟨A3, k3, hv3, _⟩ := HA3.out.1.rd okLL; rw [show (ss ++ [((A2, hd.length, k2) : Sl)]).length = ss.length + 1 by simp] at hv3; subst hv3; have HP3 := Lib.hid (HT2.out.pushOut (tlay_ok n1) (p := w1.heap.size) (s := (A2, hd.length, k2)) (y := hd) HT1.out.hs HB2.out.size HA2.out.1 (fun g hg => (HT1.out.aw.1.lt g hg).2) (fun g hg => (HT1.out.ao.1.lt g hg).2) HA3.out HG3.out); obtain ⟨u9, hk9⟩ := HP3.out.2.2; have hk9 : w3.heap[n1 + 3]? = some (.cells #[u9] 42 (0, 0)) := hk9; have ck := cell_of_one hk9; have fk := free_of_one hk9; clear hk9))
    all_goals
      go_wp2_with fail
      go_end0
      exact ⟨rfl, HE1.out.fix ((HT1.out.fix HB2.out).trans HP3.out.2.1), _, _, _, _, HP3.out.1⟩

theorem tails_drop (p : List Lk → Bool) (hd all : List Lk) (i d : Nat) (h : i < all.length) : tails p hd (all.drop i) (d + 1) = tails p (hd ++ [all[i]]) (all.drop (i + 1)) d ++ tails p hd (all.drop (i + 1)) (d + 1) := by
  rw [List.drop_eq_getElem_cons h, tails_cons]

set_option maxRecDepth 100000 in
set_option maxHeartbeats 8000000 in
theorem trest_step (w0 : World) (n n1 a b : Nat) (va : Value) (all : List Lk) (hab : a * b ≤ 9) (hal : all.length ≤ 32) (d k : Nat) (hd : List Lk) (hl : hd.length + (d + 1) = a * b - 1) (hk : k ≤ all.length)
    (IH : ∀ (i : Nat) (h : i < all.length), RestT w0 n n1 a b va all d (i + 1) (hd ++ [all[i]])) : RestT w0 n n1 a b va all (d + 1) k hd := by
  intro wr os hS hO
  obtain ⟨hE, vo, vw, ho, ss, hT⟩ := hS
  have HS := Lib.hid (show TrSt w0 n n1 a b va all wr hd os from ⟨hE, _, _, _, _, hT⟩)
  obtain ⟨Aw, cw, rfl, q1, q2⟩ := hT.lenw okLink
  unfold maxLen at q2
  have c1 : wr.cell? ⟨n1 + 4, 0, none⟩ = some (.slice Aw hd.length cw) := hT.cellw
  have c2 : wr.cell? ⟨n, 0, none⟩ = some (.int .i64 a) := cell_of_one hE.ea
  have c3 : wr.cell? ⟨n + 1, 0, none⟩ = some (.int .i64 b) := cell_of_one hE.eb
  have hmul : (a : Int) * (b : Int) = ((a * b : Nat) : Int) := by simp
  have hm0 : 0 ≤ (a : Int) * (b : Int) := by omega
  have hm1 : (a : Int) * (b : Int) ≤ 9 := by omega
  have hm2 : ((hd.length : Int) == (a : Int) * (b : Int) - 1) = false := by rw [beq_eq_false_iff_ne]; omega
  have hh9 : hd.length ≤ 8 := by omega
  obtain ⟨TT, HTT⟩ : ∃ TT, Hid (os ++ tails (treeB a b) hd (all.drop k) (d + 1) = TT) := ⟨_, rfl⟩
  rw [HTT.out] at hO ⊢
  have HO := Lib.hid hO
  have HK := Lib.hid hk
  have HIH := Lib.hid IH
  have HHL := Lib.hid hl
  clear hmul hl hO hE hT IH hk
  go_enter Try.func94, Try.ntmps94
  go_wp2_with fail
  clear c1 c2 c3 hm0 hm1 hm2
  have HQ0 : Hid (os ++ tails (treeB a b) hd (all.drop k) (d + 1) = TT) := HTT.out
  clear HTT q1 q2
  go_loopw [8] (fun s wr => ∃ (i : Nat) (ys : List (List Lk)), i ≤ all.length ∧ s = .int .i64 i ∧ Hid (TrSt w0 n n1 a b va all wr hd ys) ∧ Hid (ys ++ tails (treeB a b) hd (all.drop i) (d + 1) = TT)) (fun s _ => all.length - (intOf s).toNat)
  case atStart => exact ⟨k, os, HK.out, rfl, HS, HQ0⟩
  case round =>
    obtain ⟨i, ys, hi, rfl, HSI, HQ⟩ := hrel
    obtain ⟨hE, vo2, vw2, ho2, ss2, hT⟩ := HSI.out
    have HE := Lib.hid hE
    have HT := Lib.hid hT
    obtain ⟨Aw2, cw2, rfl, p1, p2⟩ := hT.lenw okLink
    unfold maxLen at p2
    obtain ⟨Aa, ca, rfl, s1, s2, G3⟩ := RdT.of (E := elLink) rfl (fun _ => rfl) hE.rd
    unfold maxLen at s2
    have c1 : wr.cell? ⟨n1 + 4, 0, none⟩ = some (.slice Aw2 hd.length cw2) := hT.cellw
    have c4 : wr.cell? ⟨n1 + 2, 0, none⟩ = some (.slice Aa all.length ca) := cell_of_one hE.el
    have HSZ : Hid (n1 + 6 ≤ wr.heap.size) := Nat.le_trans hT.lh hT.hs
    by_cases hlt : i < all.length
    · have ht : decide ((i : Int) < (all.length : Int)) = true := by simp only [decide_eq_true_eq]; omega
      obtain ⟨ad, rfl, had, hx, hy, hz⟩ := G3.out i hlt
      have hi0 : (0 : Int) ≤ (i : Int) := by omega
      have hi1 : (i : Int) < (all.length : Int) := by omega
      have HX : Hid (all[i] = (lx all i, ly all i, ld all i)) := lk_at _ _ hlt
      have HTD := Lib.hid (tails_drop (treeB a b) hd all i d hlt)
      have HI1 := Lib.hid (HIH.out i hlt)
      rw [HX.out] at HTD HI1
      have hc5 : wr.cell? ⟨n1 + 5, 0, none⟩ = some (tclos n n1) := cell_of_one hE.es
      clear hE hT G3
      generalize lx all i = x at *
      generalize ly all i = y at *
      generalize ld all i = z at *
      have e1 : (wr.alloc (.cells #[.int .i64 x, .int .i64 y, .bool z] 101)).cell? ⟨n1 + 4, 0, none⟩ = some (.slice Aw2 hd.length cw2) := (((Below.refl wr.heap.size wr).alloc (Nat.le_refl _) _).cell (p := ⟨n1 + 4, 0, none⟩) (by have := HSZ.out; show n1 + 4 < _; omega)).trans c1
      go_wp2_with fail
      go_region_law ((refine step_push okLink (by rfl) _ _ (by rfl) (HT.out.below (Below.refl _ _).drew).aw (by rfl) (x, y, z) _ (by rfl) _ (by rfl) (by rfl) (by omega) ?_; intro v3 w3 HA3 HG3; obtain ⟨A3, k3, hv3, _⟩ := HA3.out.1.rd okLink; rw [show (hd ++ [((x, y, z) : Lk)]).length = hd.length + 1 by simp] at hv3; subst hv3; have HP3 := Lib.hid ((HT.out.below (Below.refl _ _).drew).pushOwn (tlay_ok n1) HA3.out HG3.out); obtain ⟨u9, hk9⟩ := HP3.out.2.2; have hk9 : w3.heap[n1 + 4]? = some (.cells #[u9] 39 (0, 0)) := hk9; have ck := cell_of_one hk9; have fk := free_of_one hk9; clear hk9))
      all_goals
        have HF3 := Lib.hid ((HT.out.fix (Below.refl _ _).drew).trans HP3.out.2.1)
        have HP := Lib.hid HP3.out.1
        have HE3 := Lib.hid (HE.out.fix HF3.out)
        have d5 : (w3.setCell ⟨n1 + 4, 0, none⟩ (.slice A3 (hd.length + 1) k3)).cell? ⟨n1 + 5, 0, none⟩ = some (tclos n n1) := cell_of_one HE3.out.es
        unfold tclos at d5
        clear HP3 hc5 c1 c4 e1 hx hy hz
        have HX1 : Hid ((i : Int) + 1 = ((i + 1 : Nat) : Int)) := by unfold Hid; omega
        go_wp2_with fail
        rw [HX1.out]
        have HLEN : Hid ((ys ++ tails (treeB a b) (hd ++ [(x, y, z)]) (all.drop (i + 1)) d).length ≤ 1000000) := by
          unfold Hid
          have h1 := HO.out
          rw [← HQ.out, HTD.out] at h1
          simp only [List.length_append] at h1 ⊢
          omega
        refine (HI1.out _ ys ⟨HE3.out, _, _, _, _, HP.out⟩ HLEN.out).mono ?_
        rintro e w4 ⟨rfl, hE4, vo4, vw4, ho4, ss4, hT4⟩
        obtain ⟨g4, k4, rfl, l1, l2, HPOP⟩ := hT4.popOwn (fun _ => rfl) (tlay_ok n1)
        unfold maxLen at l2
        have HE4 := Lib.hid (hE4.fix HPOP.out.2)
        have f4 : w4.cell? ⟨n1 + 4, 0, none⟩ = some (.slice (some ⟨g4, 0, none⟩) (hd.length + 1) k4) := hT4.cellw
        have hcw : w4.heap[n1 + 4]? = some (.cells #[.slice (some ⟨g4, 0, none⟩) (hd.length + 1) k4] 39 (0, 0)) := hT4.cw
        have fz4 := free_of_one hcw
        clear hE4 hT4 d5 hcw ck fk
        have hh1 : IntKind.i64.wrap ((hd.length : Int) + 1 - 1) = (hd.length : Int) := by rw [IntWalk.i64_in _ (by omega)]; omega
        have hh2 : (hd.length : Int) + 1 - 1 = (hd.length : Int) := by omega
        go_wp2_with fail
        go_roundw
        case rel => exact ⟨i + 1, _, by omega, by go_num, ⟨HE4.out, _, _, _, _, HPOP.out.1⟩, by (unfold Hid; rw [← HQ.out, HTD.out, List.append_assoc])⟩
        case measure => simp [intOf]; omega
    · have ht : decide ((i : Int) < (all.length : Int)) = false := by simp only [decide_eq_false_iff_not]; omega
      have HF : Hid (ys = TT) := by
        unfold Hid
        rw [← HQ.out, List.drop_of_length_le (by omega)]
        simp [tails_nil]
      clear hE hT G3
      go_wp2_with fail
      go_end0
      rw [← HF.out]
      exact ⟨rfl, HSI.out⟩

theorem trest_any (w0 : World) (n n1 a b : Nat) (va : Value) (all : List Lk) (hab : a * b ≤ 9) (hab1 : 0 < a * b) (hal : all.length ≤ 32) : ∀ (d k : Nat) (hd : List Lk), k ≤ all.length → hd.length + d = a * b - 1 → RestT w0 n n1 a b va all d k hd
  | 0, k, hd, hk, hl => trest_end w0 n n1 a b va all hab hab1 k hd (by omega)
  | d + 1, k, hd, hk, hl => trest_step w0 n n1 a b va all hab hal d k hd hl hk fun i h => trest_any w0 n n1 a b va all hab hab1 hal d (i + 1) (hd ++ [all[i]]) (by omega) (by simp; omega)

theorem six_alloc (w : World) (o1 o2 o3 o4 o5 o6 : Obj) : ∃ W : World, W = (((((w.alloc o1).alloc o2).alloc o3).alloc o4).alloc o5).alloc o6 ∧ W.heap[w.heap.size]? = some o1 ∧ W.heap[w.heap.size + 1]? = some o2 ∧ W.heap[w.heap.size + 2]? = some o3 ∧ W.heap[w.heap.size + 3]? = some o4 ∧ W.heap[w.heap.size + 4]? = some o5 ∧ W.heap[w.heap.size + 5]? = some o6 ∧ W.heap.size = w.heap.size + 6 ∧ Below w.heap.size w W := by
  obtain ⟨W4, e4, a1, a2, a3, a4, b4⟩ := four_alloc w o1 o2 o3 o4
  have s4 : W4.heap.size = w.heap.size + 4 := by rw [e4]; simp
  obtain ⟨W6, e6, a5, a6, b6⟩ := two_alloc W4 o5 o6
  rw [s4] at a5 a6
  refine ⟨W6, by rw [e6, e4], (b6.block _ (by omega)).trans a1, (b6.block _ (by omega)).trans a2, (b6.block _ (by omega)).trans a3, (b6.block _ (by omega)).trans a4, a5, a6, by rw [e6]; simp; omega, b4.trans (b6.mono (by omega))⟩

theorem links_tab : ((List.range 5).all fun x => (List.range 5).all fun y => decide (9 < x * y) || decide ((linksZ x y).length ≤ 12)) = true := by decide +kernel
theorem links_few (a b : Nat) (ha : a ≤ 4) (hb : b ≤ 4) (hab : a * b ≤ 9) : (linksZ a b).length ≤ 12 := by
  have := all2 links_tab a b (by omega) (by omega)
  simp only [Bool.or_eq_true, decide_eq_true_eq] at this
  omega
theorem treesZ_len (a b : Nat) (ha : a ≤ 4) (hb : b ≤ 4) (hab : a * b ≤ 9) : (treesZ a b).length ≤ 4096 := by
  have h1 := tails_len (treeB a b) [] (linksZ a b) (a * b - 1)
  have h2 := links_few a b ha hb hab
  have h3 : 2 ^ (linksZ (a : Int) (b : Int)).length ≤ 2 ^ 12 := Nat.pow_le_pow_right (by omega) h2
  unfold treesZ
  omega
theorem lastCell {w : World} {n : Nat} {v : Value} {t : TypeId} (h : w.heap[n]? = some (.cells #[v] t (0, 0))) : w.cell? ⟨n, 0, none⟩ = some v := cell_of_one h

set_option maxRecDepth 100000 in
set_option maxHeartbeats 8000000 in
theorem ListTrees_yes (a b : Nat) (w : World) (hg : gridB a b = true) (hab : a * b ≤ 9) :
    Calls Try.prog 29 #[.int .i64 a, .int .i64 b] w (RetN (kdF elLink) eLL w (treesZ a b)) := by
  have hb := (gridB_iff _ _).1 hg
  have hab1 : 0 < a * b := Nat.mul_pos (by omega) (by omega)
  have HLEN := Lib.hid (treesZ_len a b (by omega) (by omega) hab)
  have HAL := Lib.hid (linksZ_len a b)
  have HZ : Hid (treesZ a b = tails (treeB a b) [] ((linksZ a b).drop 0) (a * b - 1)) := rfl
  have hmul : (a : Int) * (b : Int) = ((a * b : Nat) : Int) := by simp
  have hm0 : 0 ≤ (a : Int) * (b : Int) := by omega
  have hm1 : (a : Int) * (b : Int) ≤ 9 := by omega
  have hm2 : decide (9 < (a : Int) * (b : Int)) = false := by rw [decide_eq_false_iff_not]; omega
  have hmf : ∀ (fn : Fn) (first cap : Array Value) (w : World), (Instr.makeFunc fn first cap).run Try.prog w = .ok (.func fn first cap) w := fun _ _ _ _ => rfl
  generalize treesZ a b = TT at *
  obtain ⟨all, HALL⟩ : ∃ x, Hid (linksZ (a : Int) b = x) := ⟨_, rfl⟩
  rw [HALL.out] at HAL HZ
  clear hmul
  go_enter Try.func29, Try.ntmps29
  go_wp2_with fail
  obtain ⟨W, hW, k0, k1, hb0⟩ := two_alloc w (.cells #[.int .i64 a] 3) (.cells #[.int .i64 b] 3)
  rw [← hW]
  have hsW : W.heap.size = w.heap.size + 2 := by rw [hW]; simp
  have m0 : W.cell? ⟨w.heap.size, 0, none⟩ = some (.int .i64 a) := cell_of_one k0
  have m1 : W.cell? ⟨w.heap.size + 1, 0, none⟩ = some (.int .i64 b) := cell_of_one k1
  have HK0 := Lib.hid k0; have HK1 := Lib.hid k1; have HB0 := Lib.hid hb0; have HSW := Lib.hid hsW
  clear hW k0 k1 hb0 hsW
  go_wp2_with fail
  refine (GridOk_any _ _ _).mono ?_
  rintro e w1 ⟨rfl, rfl⟩
  rw [hg]
  go_wp2_with fail
  refine (LinksOf_any _ _ _).mono ?_
  rintro e w1 ⟨v1, rfl, ho1, hb1⟩
  rw [HALL.out] at ho1
  obtain ⟨A1, c1, hv1, gg1, gg2, _⟩ := ho1.rd okLink
  unfold maxLen at gg2
  subst hv1
  have HO1 := Lib.hid ho1
  have HB1 := Lib.hid hb1
  clear ho1 hb1 m0 m1
  go_wp2_with fail
  obtain ⟨W6, hW6, q0, q1, q2, q3, q4, q5, hs6, hb6⟩ := six_alloc w1 (.cells #[] 39) (.cells #[] 101) (.cells #[.slice A1 all.length c1] 39) (.cells #[.slice (some ⟨w1.heap.size, 0, none⟩) 0 0] 42) (.cells #[.slice (some ⟨w1.heap.size + 1, 0, none⟩) 0 0] 39)
    (.cells #[.func (.func 94) #[] #[.pointer (some ⟨w1.heap.size + 1 + 1 + 1 + 1, 0, none⟩), .pointer (some ⟨w.heap.size, 0, none⟩), .pointer (some ⟨w.heap.size + 1, 0, none⟩), .pointer (some ⟨w1.heap.size + 1 + 1 + 1, 0, none⟩), .pointer (some ⟨w1.heap.size + 1 + 1, 0, none⟩), .pointer (some ⟨w1.heap.size + 1 + 1 + 1 + 1 + 1, 0, none⟩)]] 100)
  rw [← hW6]
  have hsz1 : W.heap.size ≤ w1.heap.size := HB1.out.size
  have hb16 := HB1.out.trans (hb6.mono hsz1)
  have hw16 := HB0.out.trans (hb16.mono (by have := HSW.out; omega))
  have HENV : Hid (LEnv w.heap.size w1.heap.size a b (.slice A1 all.length c1) all W6) := by
    have hsw := HSW.out
    refine ⟨(hb16.block _ (by omega)).trans HK0.out, (hb16.block _ (by omega)).trans HK1.out, q2, q5, ?_, by omega⟩
    exact (HO1.out.rd okLink).below hb6
  have HTS : Hid (TS elLink eLL w (tlay w1.heap.size) W6 (.slice (some ⟨w1.heap.size, 0, none⟩) 0 0) (.slice (some ⟨w1.heap.size + 1, 0, none⟩) 0 0) (w1.heap.size + 6) [] [] []) := by
    have hsw := HSW.out
    refine ⟨q3, q4, ⟨?_, hw16, by show w.heap.size ≤ w1.heap.size; omega, by show w1.heap.size ≤ _; omega⟩, ⟨?_, hw16, by show w.heap.size ≤ w1.heap.size; omega, by show w1.heap.size ≤ _; omega⟩, ElsP.nil _ _ _ _, Nat.le_refl _, by omega, fun g hg => ?_, fun g hg => ?_, fun g hg => ?_⟩
    · exact ⟨by simp, .inr ⟨_, 0, #[], rfl, Nat.le_refl _, q0, Nat.le_refl _, by simp [maxLen], by simp, by simp⟩⟩
    · exact ⟨by simp, .inr ⟨_, 0, #[], rfl, Nat.le_succ _, q1, Nat.le_refl _, by simp [maxLen], by simp, by simp⟩⟩
    · simp only [Value.ownBlock, Option.some.injEq] at hg; exact .inl hg.symm
    · simp only [Value.ownBlock, Option.some.injEq] at hg; exact .inl hg.symm
    · intro e; simp only [Value.ownBlock, Option.some.injEq] at hg e; omega
  have hcl : W6.cell? ⟨w1.heap.size + 1 + 1 + 1 + 1 + 1, 0, none⟩ = some (.func (.func 94) #[] #[.pointer (some ⟨w1.heap.size + 1 + 1 + 1 + 1, 0, none⟩), .pointer (some ⟨w.heap.size, 0, none⟩), .pointer (some ⟨w.heap.size + 1, 0, none⟩), .pointer (some ⟨w1.heap.size + 1 + 1 + 1, 0, none⟩), .pointer (some ⟨w1.heap.size + 1 + 1, 0, none⟩), .pointer (some ⟨w1.heap.size + 1 + 1 + 1 + 1 + 1, 0, none⟩)]) := cell_of_one q5
  have HC := Lib.hid (trest_any w w.heap.size w1.heap.size a b (.slice A1 all.length c1) all hab hab1 HAL.out (a * b - 1) 0 [] (Nat.zero_le _) (by simp) W6 [] ⟨HENV.out, _, _, _, _, HTS.out⟩ (by rw [List.nil_append, ← HZ.out]; exact Nat.le_trans HLEN.out (by omega)))
  clear hW6 q0 q1 q2 q3 q4 q5 hs6 hb6 hsz1 hb16 hw16
  go_wp2_with fail
  refine HC.out.mono ?_
  rintro e w7 ⟨rfl, hE7, vo7, vw7, ho7, ss7, hT7⟩
  rw [List.nil_append, ← HZ.out] at hT7
  obtain ⟨A7, c7, rfl, _, _⟩ := hT7.leno okLL
  have f7 : w7.cell? ⟨w1.heap.size + 1 + 1 + 1, 0, none⟩ = some (.slice A7 ss7.length c7) := hT7.cello
  have HN := Lib.hid hT7.nrel
  have HLO : Hid (w.heap.size ≤ w1.heap.size) := hT7.ao.2.2.1
  clear hE7 hT7
  go_wp2_with fail
  go_ret
  obtain ⟨ss8, hA8, hE8, hs8⟩ := HN.out
  exact ⟨_, _, rfl, ss8, ⟨hA8.1.mono HLO.out, hA8.2.1, Nat.le_refl _, Nat.le_trans HLO.out hA8.2.2.2⟩, hE8.more (by have := HLO.out; show w.heap.size ≤ w1.heap.size + 6; omega) (Nat.le_refl _), hs8⟩

/-- What ListTrees lists. -/
def listTZ (a b : Int) : List (List Lk) := if gridB a b && decide (a * b ≤ 9) then treesZ a.toNat b.toNat else []
set_option maxRecDepth 100000 in
theorem ListTrees_any (a b : Int) (w : World) :
    Calls Try.prog 29 #[.int .i64 a, .int .i64 b] w (RetN (kdF elLink) eLL w (listTZ a b)) := by
  cases hg : gridB a b
  · have e0 : listTZ a b = [] := by simp [listTZ, hg]
    rw [e0]; clear e0
    go_enter Try.func29, Try.ntmps29
    go_wp2_with fail
    obtain ⟨W, hW, k0, k1, hb0⟩ := two_alloc w (.cells #[.int .i64 a] 3) (.cells #[.int .i64 b] 3)
    rw [← hW]
    have m0 : W.cell? ⟨w.heap.size, 0, none⟩ = some (.int .i64 a) := cell_of_one k0
    have m1 : W.cell? ⟨w.heap.size + 1, 0, none⟩ = some (.int .i64 b) := cell_of_one k1
    clear hW k0 k1
    go_wp2_with fail
    refine (GridOk_any _ _ _).mono ?_
    rintro e w1 ⟨rfl, rfl⟩
    rw [hg]
    go_wp2_with fail
    go_ret
    exact ⟨_, W.heap.size, rfl, [], (Acc.nil w).below hb0, Els.nil _ _ _ _, Nat.le_refl _⟩
  · have hb := (gridB_iff _ _).1 hg
    obtain ⟨n, rfl⟩ := Int.eq_ofNat_of_zero_le (show 0 ≤ a by omega)
    obtain ⟨m, rfl⟩ := Int.eq_ofNat_of_zero_le (show 0 ≤ b by omega)
    have hmul : (n : Int) * (m : Int) = ((n * m : Nat) : Int) := by simp
    have h16 : n * m ≤ 16 := Nat.mul_le_mul (show n ≤ 4 by omega) (show m ≤ 4 by omega)
    by_cases h9 : n * m ≤ 9
    · have e0 : listTZ n m = treesZ n m := by simp only [listTZ, hg, Bool.true_and]; rw [if_pos (by rw [decide_eq_true_iff]; omega)]; simp
      rw [e0]
      exact ListTrees_yes n m w hg h9
    · have e0 : listTZ n m = [] := by simp only [listTZ, hg, Bool.true_and]; rw [if_neg (by rw [decide_eq_true_iff]; omega)]
      rw [e0]; clear e0
      have hm0 : 0 ≤ (n : Int) * (m : Int) := by omega
      have hm1 : (n : Int) * (m : Int) ≤ 16 := by omega
      have hm2 : decide (9 < (n : Int) * (m : Int)) = true := by rw [decide_eq_true_iff]; omega
      clear hmul h16 h9
      go_enter Try.func29, Try.ntmps29
      go_wp2_with fail
      obtain ⟨W, hW, k0, k1, hb0⟩ := two_alloc w (.cells #[.int .i64 n] 3) (.cells #[.int .i64 m] 3)
      rw [← hW]
      have m0 : W.cell? ⟨w.heap.size, 0, none⟩ = some (.int .i64 n) := cell_of_one k0
      have m1 : W.cell? ⟨w.heap.size + 1, 0, none⟩ = some (.int .i64 m) := cell_of_one k1
      clear hW k0 k1
      go_wp2_with fail
      refine (GridOk_any _ _ _).mono ?_
      rintro e w1 ⟨rfl, rfl⟩
      rw [hg]
      go_wp2_with fail
      go_ret
      exact ⟨_, W.heap.size, rfl, [], (Acc.nil w).below hb0, Els.nil _ _ _ _, Nat.le_refl _⟩
end Go.Proofs.Ytiecphhenpapoaa
